/-
  Own work. The value machine, part L: a copy; and each operation's code with its types worked in.
-/
import Derived.Test.YtjciahobhaaheaaVk
namespace Go.Ytjciahobhaaheaa
open Go
set_option linter.unusedVariables false
set_option linter.unusedSimpArgs false

section
variable {P : Program} {m : Mu} {h : Heap} {w : World}

theorem src_first (hs : HSim m h w) {tx : TypeId} {sz : Nat} {x : D} {v : Value} (hx : Rep m h w x v) {cs : List D} {k : Nat} (hc : srcCells h sz x = some (cs, k)) {n : Nat} (hn : n ≤ k) (hone : (cs.take (n * sz)).all D.one = true) :
    ∃ vs, (Builtin.lenOf v).run P w = .ok k w ∧ (Builtin.firstCells sz n v).run P w = .ok vs.toArray w ∧ RepL m h w (cs.take (n * sz)) vs ∧ cs.length = k * sz ∧ vs.length = n * sz := by
  unfold srcCells at hc
  split at hc
  · rename_i s
    split at hc
    · rename_i h1
      subst h1
      simp only [Option.some.injEq, Prod.mk.injEq] at hc
      obtain ⟨rfl, rfl⟩ := hc
      simp only [Rep] at hx
      subst hx
      have hrep : ∀ l : List UInt8, RepL m h w (ofBytes l) (l.map fun b => Value.int .u8 b.toNat) := by
        intro l
        induction l with
        | nil => simp [ofBytes, RepL]
        | cons b l ih => simp only [ofBytes, List.map_cons, RepL]; exact ⟨_, _, rfl, by simp [Rep], ih⟩
      have hlen : s.data.toList.length = s.size := by simp
      refine ⟨(s.data.toList.take n).map fun b => Value.int .u8 b.toNat, by simp [Builtin.lenOf], ?_, ?_, by simp [ofBytes], by simp; omega⟩
      · simp only [Builtin.firstCells, Sem.run_pure]
        congr 1
        apply Array.ext'
        simp [List.extract_eq_take_drop]
      · have := hrep (s.data.toList.take n)
        rw [Nat.mul_one]
        unfold ofBytes at this ⊢
        rw [← List.map_take]
        exact this
    · cases hc
  · obtain ⟨g1, g2⟩ := sl_lies hs hx hc
    rcases g2 with ⟨rfl, rfl⟩ | ⟨rfl, a, cap, rfl⟩ | ⟨b, off, cap, rfl, g3, g4⟩
    · have : cs = [] := List.length_eq_zero_iff.1 (by omega)
      subst this
      have hn0 : n = 0 := by omega
      subst hn0
      exact ⟨[], by simp [Builtin.lenOf], by simp [Builtin.firstCells], by simp [RepL], by simp, by simp⟩
    · have : cs = [] := List.length_eq_zero_iff.1 (by omega)
      subst this
      have hn0 : n = 0 := by omega
      subst hn0
      exact ⟨[], by simp [Builtin.lenOf], run_firstCells_some w sz 0 _ _ _ [] (by simp) (fun j u hj => by simp at hj), by simp [RepL], by simp, by simp⟩
    · obtain ⟨vs, q1, q2⟩ := (g4.take (n * sz)).vals
      have hle : n * sz ≤ cs.length := by rw [g1]; exact Nat.mul_le_mul_right _ hn
      have hvl : vs.length = n * sz := by rw [q1.length]; simp; omega
      exact ⟨vs, by simp [Builtin.lenOf], run_firstCells_some w sz n _ _ _ vs hvl (fun j u hj => by rw [addr_add]; exact q2 j u hj), q1, g1, hvl⟩

theorem run_copy {t tx ty e : TypeId} (hu : P.underlying t = some (.slice e)) {sz : Nat} (hz : szOf P e = some sz) (b off dl cap : Nat) {v : Value} {k : Nat} (h1 : (Builtin.lenOf v).run P w = .ok k w) {vs : List Value} (h2 : (Builtin.firstCells sz (min k dl) v).run P w = .ok vs.toArray w)
    (h3 : ∀ u ∈ vs, u.oneCell' = true) (ht : w.there b off vs.length) :
    (Builtin.copy_ #[t, tx] ty #[.slice (some ⟨b, off, none⟩) dl cap, v]).run P w = .ok (.int .i64 ((min k dl : Nat) : Int)) (w.setCells b off vs) := by
  have := run_storeCells_cells (P := P) b off vs 0 w (fun j hj => by simpa using (ht j hj).1) (fun j hj => by simpa using (ht j hj).2) h3
  simp only [Nat.add_zero] at this
  have e1 : Nat.min k dl = min k dl := rfl
  simp [Builtin.copy_, run_under hu w, run_sizeOf hz w, h1, e1, h2, this, goInt]

theorem y_copy (hs : HSim m h w) {t tx ty e : TypeId} (hu : P.underlying t = some (.slice e)) {sz : Nat} (hz : szOf P e = some sz) {x y : D} {vx vy : Value} (hx : Rep m h w x vx) (hy : Rep m h w y vy) {n : Nat} (hn : slLen h x = some n) {ys : List D} {k : Nat} (hc : srcCells h sz y = some (ys, k))
    (hone : (ys.take (min k n * sz)).all D.one = true) {h' : Heap} (hcp : copyInto h sz x (ys.take (min k n * sz)) = some h') : Yld P (Builtin.copy_ #[t, tx] ty #[vx, vy]) m h w (.int .i64 ((min k n : Nat) : Int)) h' := by
  obtain ⟨vs, g1, g2, g3, g4, g5⟩ := src_first (P := P) (tx := tx) hs hy hc (Nat.min_le_left k n) hone
  have hvl : vs.length = (ys.take (min k n * sz)).length := g3.length
  have h1c := repL_one hone g3
  generalize hds : ys.take (min k n * sz) = ds at *
  unfold copyInto at hcp
  split at hcp
  · rename_i r n'
    simp only [Rep] at hx
    obtain ⟨_, blk, h1, h2⟩ := hx
    rw [h1] at hcp
    simp only [slLen, h1] at hn
    split at hcp
    · rename_i sz' cs len e'
      injection e' with e'; subst e'
      split at hcp
      · rename_i hb
        obtain ⟨rfl, rfl, hle⟩ := hb
        injection hcp with hcp; subst hcp
        simp only [if_true, Option.some.injEq] at hn
        subst hn
        obtain ⟨arr, e1, fz, rest, us, b1, b2, b3, b4, b5, b6, b7⟩ := hs.blk r _ h1
        have hv := h2.2 rfl
        unfold isOwn at hv
        subst hv
        have hul : us.length = cs.length := b4.length
        have hasz : arr.size = us.length + rest.length := by rw [← Array.length_toList, b3]; simp
        obtain ⟨q1, q2⟩ := store_owned hs h1 rfl b1 b2 (off := 0) (vs := vs) (by omega) (b' := .grow sz' (ds ++ cs.drop ds.length) n')
          (.inr ⟨_, n', .inl rfl, Nat.le_refl _, fun _ => rfl⟩)
          (fun arr' c1 c2 c3 he => ⟨arr', e1, fz, rest, vs ++ us.drop vs.length, c1, by rw [c3]; exact b2, by
            rw [c2, b3]
            have := take_append_drop_vs (vs := us) (us := vs) (rest := rest) (off := 0) (by omega)
            simpa using this, by
            have := RepL.splice (b4.evo he) (g3.evo he) 0
            simpa using this, by simp; omega, b6, by rw [c3]; exact b7⟩)
        exact ⟨_, m, _, run_copy hu hz _ 0 _ _ g1 g2 h1c (there_of_block b1 b2 (by omega)), by simp [Rep], q1, q2⟩
      · cases hcp
    · cases hcp
  · rename_i r n' off k'
    simp only [Rep] at hx
    obtain ⟨_, blk, h1, h2⟩ := hx
    rw [h1] at hcp
    simp only [slLen, h1] at hn
    split at hcp
    · rename_i sz' cs len e'
      injection e' with e'; subst e'
      split at hcp
      · rename_i hb
        obtain ⟨rfl, rfl, hle⟩ := hb
        injection hcp with hcp; subst hcp
        simp only [if_true, Option.some.injEq] at hn
        subst hn
        obtain ⟨arr, e1, fz, rest, us, b1, b2, b3, b4, b5, b6, b7⟩ := hs.blk r _ h1
        obtain ⟨cap, _, hv⟩ := h2.2 rfl
        subst hv
        have hul : us.length = cs.length := b4.length
        have hasz : arr.size = us.length + rest.length := by rw [← Array.length_toList, b3]; simp
        obtain ⟨q1, q2⟩ := store_owned hs h1 rfl b1 b2 (off := off) (vs := vs) (by omega) (b' := .grow sz' (cs.take off ++ ds ++ cs.drop (off + ds.length)) n')
          (.inr ⟨_, n', .inl rfl, Nat.le_refl _, fun _ => rfl⟩)
          (fun arr' c1 c2 c3 he => ⟨arr', e1, fz, rest, us.take off ++ vs ++ us.drop (off + vs.length), c1, by rw [c3]; exact b2, by
            rw [c2, b3]
            exact take_append_drop_vs (by omega), RepL.splice (b4.evo he) (g3.evo he) off, by simp; omega, b6, by rw [c3]; exact b7⟩)
        exact ⟨_, m, _, run_copy hu hz _ off _ _ g1 g2 h1c (there_of_block b1 b2 (by omega)), by simp [Rep], q1, q2⟩
      · cases hcp
    · cases hcp
  · rename_i r off k'
    simp only [Rep] at hx
    obtain ⟨_, blk, h1, h2⟩ := hx
    rw [h1] at hcp
    simp only [slLen, h1] at hn
    split at hcp
    · rename_i cs e'
      injection e' with e'; subst e'
      split at hcp
      · rename_i hle
        injection hcp with hcp; subst hcp
        simp only [Option.some.injEq] at hn
        subst hn
        obtain ⟨arr, e1, fz, b1, b2, b4⟩ := hs.blk r _ h1
        obtain ⟨cap, _, hv⟩ := h2
        subst hv
        have hasz : arr.size = cs.length := by rw [← b4.length]; simp
        obtain ⟨q1, q2⟩ := store_owned hs h1 rfl b1 b2 (off := off) (vs := vs) (by omega) (b' := .box (cs.take off ++ ds ++ cs.drop (off + ds.length)))
          (.inr ⟨_, .inl rfl, by simp; omega, rfl⟩)
          (fun arr' c1 c2 c3 he => ⟨arr', e1, fz, c1, by rw [c3]; exact b2, by
            rw [c2]
            exact RepL.splice (b4.evo he) (g3.evo he) off⟩)
        exact ⟨_, m, _, run_copy hu hz _ off _ _ g1 g2 h1c (there_of_block b1 b2 (by omega)), by simp [Rep], q1, q2⟩
      · cases hcp
    · cases hcp
  · cases hcp
end

/-! ### code with its types worked in -/
def caos : List Operand → Option (List AO)
  | [] => some []
  | x :: xs => (cao x).bind fun a => (caos xs).map fun l => a :: l
def caoO : Option Operand → Option (Option AO)
  | none => some none
  | some x => (cao x).map some
def caoParts (place : Nat → Option (Nat × Nat)) : List (Nat × Operand) → Option (List (Nat × Nat × AO))
  | [] => some []
  | (i, x) :: xs => (place i).bind fun p => (cao x).bind fun a => (caoParts place xs).map fun l => (p.1, p.2, a) :: l

/-- Where a struct's fields lie, and how many cells they have. -/
def fieldPlaces (P : Program) : List Field → Option (List (Nat × Nat))
  | [] => some []
  | f :: fs => (szOf P f.type).bind fun s => (fieldPlaces P fs).map fun l => (f.offset, s) :: l

/-- Is it the nil of such a type? -/
def nilConst : TypeDesc → Operand → Bool
  | .pointer _, .const (.pointer none) => true
  | .slice _, .const (.slice none 0 0) => true
  | .func .., .const .nilFunc => true
  | .interface _, .const .nilIface => true
  | _, _ => false
def tdSort : TypeDesc → Nat
  | .pointer _ => 1
  | .slice _ => 2
  | .func .. => 3
  | .interface _ => 4
  | _ => 5

def isNeq : BinOp → Bool
  | .neq => true
  | _ => false

def cEq (P : Program) (op : BinOp) (t : TypeId) (x y : Operand) : Option AOp :=
  match P.underlying t with
  | some (.int _) | some .string => (cao x).bind fun a => (cao y).map fun b => .bin op a b
  | some .bool => (cao x).bind fun a => (cao y).map fun b => .eqb (isNeq op) a b
  | some (.struct _) | some (.array _ _) => (eqKs P t).bind fun ks => (agOf P t).bind fun ag => if ag.isSome = true then (cao x).bind fun a => (cao y).map fun b => .eqa (isNeq op) ks a b else none
  | some td => if nilConst td y = true then (cao x).map fun a => .isnil (isNeq op) (tdSort td) a else if nilConst td x = true then (cao y).map fun b => .isnil (isNeq op) (tdSort td) b else none
  | none => none

/-- An operation, with its types worked in. -/
def cop (P : Program) (o : Op) (ty : TypeId) : Option AOp :=
  match o with
  | .move x | .assign x => (cao x).map .mv
  | .pick c a b => (cao c).bind fun c => (cao a).bind fun a => (cao b).map fun b => .pick c a b
  | .alloc t => (zeroOf P t).map .alloc
  | .box _ x => (cao x).map .box
  | .build t parts => match P.underlying t with
    | some (.struct fields) => (zeroOf P t).bind fun z => (fieldPlaces P fields.toList).bind fun pl => (caoParts (fun i => pl[i]?) parts.toList).map fun l => .build z l
    | some (.array _ e) => (zeroOf P t).bind fun z => (szOf P e).bind fun sz => (caoParts (fun i => some (i * sz, sz)) parts.toList).map fun l => .build z l
    | _ => none
  | .buildSlice t len parts => match P.underlying t with
    | some (.slice e) => (zeroOf P e).bind fun z => (szOf P e).bind fun sz => if z.length = sz ∧ len * sz ≤ 16777216 then (caoParts (fun i => some (i * sz, sz)) parts.toList).map fun l => .bslice sz (List.replicate len z).flatten len l else none
    | _ => none
  | .load t x => (agOf P t).bind fun ag => (cao x).map fun a => .load ag a
  | .store t x y => (szOf P t).bind fun n => (cao x).bind fun a => (cao y).map fun b => .store n a b
  | .nilCheck x => (cao x).map .nilchk
  | .binOp op t x y _ => match op with
    | .eql | .neq => cEq P op t x y
    | op => (cao x).bind fun a => (cao y).map fun b => .bin op a b
  | .unOp op _ x => (cao x).map fun a => .un op a
  | .convert src dst x => match P.underlying src, P.underlying dst with
    | some _, some (.int k) => (cao x).map fun a => .conv k a
    | some (.slice e), some .string => match P.underlying e with
      | some (.int .u8) => (cao x).map .b2s
      | _ => none
    | some .string, some (.slice e) => match P.underlying e with
      | some (.int .u8) => (cao x).map .s2b
      | _ => none
    | _, _ => none
  | .makeFunc f first cap => (caos first.toList).bind fun a => (caos cap.toList).map fun b => .mkfn f a b
  | .makeSlice t l c => match P.underlying t with
    | some (.slice e) => (zeroOf P e).bind fun z => (szOf P e).bind fun sz => (byOf P e).bind fun by_ => if z.length = sz then (cao l).bind fun a => (cao c).map fun b => .mks sz by_ z a b else none
    | _ => none
  | .slice t x lo hi mx => match P.underlying t, mx with
    | some (.slice e), none => (szOf P e).bind fun sz => (cao x).bind fun a => (caoO lo).bind fun l => (caoO hi).map fun r => .slc sz a l r
    | some (.slice e), some (.const (.int _ 0)) => match lo, hi with
      | none, some (.const (.int _ 0)) => (szOf P e).bind fun sz => (cao x).map fun a => .slc0 sz a
      | _, _ => none
    | some .string, none => (cao x).bind fun a => (caoO lo).bind fun l => (caoO hi).map fun r => .sstr a l r
    | some (.array n e), none => (szOf P e).bind fun sz => (cao x).bind fun a => (caoO lo).bind fun l => (caoO hi).map fun r => .sarr n sz a l r
    | _, _ => none
  | .fieldAddr t x f => match P.underlying t with
    | some (.struct fields) => (fields[f]?).bind fun fd => (szOf P fd.type).bind fun sz => if sz = 0 then none else (cao x).map fun a => .faddr fd.offset a
    | _ => none
  | .field t x f => match P.underlying t with
    | some (.struct fields) => (fields[f]?).bind fun fd => (agOf P fd.type).bind fun ag => (cao x).map fun a => .fld fd.offset ag a
    | _ => none
  | .indexAddr t x i => match P.underlying t with
    | some (.slice e) => (szOf P e).bind fun sz => (cao x).bind fun a => (cao i).map fun b => .ixs sz a b
    | some (.array n e) => (szOf P e).bind fun sz => (cao x).bind fun a => (cao i).map fun b => .ixa n sz a b
    | _ => none
  | .index t x i => match P.underlying t with
    | some .string => (cao x).bind fun a => (cao i).map fun b => .ixstr a b
    | some (.array n e) => (szOf P e).bind fun sz => (agOf P e).bind fun ag => (cao x).bind fun a => (cao i).map fun b => .ixv n sz ag a b
    | _ => none
  | .extract x i => (cao x).map fun a => .ext a i
  | .call ⟨.builtin .len, args, tys⟩ => match args.toList, tys.toList with
    | [x], [t] => match P.underlying t with
      | some .string => (cao x).map fun a => .len true a
      | some (.slice _) => (cao x).map fun a => .len false a
      | some (.array n _) => some (.lit (.int .i64 n))
      | _ => none
    | _, _ => none
  | .call ⟨.builtin .append, args, tys⟩ => match args.toList, tys.toList with
    | [x, y], [t, tx] => match P.underlying t, P.underlying tx with
      | some (.slice e), some (.slice _) => (zeroOf P e).bind fun z => (szOf P e).bind fun sz => (byOf P e).bind fun by_ => if z.length = sz then (cao x).bind fun a => (cao y).map fun b => .append false sz by_ a b else none
      | some (.slice e), some .string => (zeroOf P e).bind fun z => (szOf P e).bind fun sz => (byOf P e).bind fun by_ => if z.length = sz then (cao x).bind fun a => (cao y).map fun b => .append true sz by_ a b else none
      | _, _ => none
    | _, _ => none
  | .call ⟨.builtin .copy, args, tys⟩ => match args.toList, tys.toList with
    | [x, y], [t, _] => match P.underlying t with
      | some (.slice e) => (szOf P e).bind fun sz => (cao x).bind fun a => (cao y).map fun b => .copy sz a b
      | _ => none
    | _, _ => none
  | .call ⟨.builtin .min, args, _⟩ => match args.toList with
    | [x, y] => (cao x).bind fun a => (cao y).map fun b => .mnx false a b
    | _ => none
  | .call ⟨.builtin .max, args, _⟩ => match args.toList with
    | [x, y] => (cao x).bind fun a => (cao y).map fun b => .mnx true a b
    | _ => none
  | _ => none

end Go.Ytjciahobhaaheaa
