/-
  Own work. The value machine, part I: sums, comparisons with nil, lengths; memory made and written.
-/
import Derived.Test.YtodlpcoffmnmbaaDoorVh
import Derived.Lib.ConvBytes
import Derived.Laws.Append
namespace Go.YtodlpcoffmnmbaaDoor
open Go
set_option linter.unusedVariables false
set_option linter.unusedSimpArgs false

section
variable {P : Program} {m : Mu} {h : Heap} {w : World}

def vOf : D → Value
  | .int k n => .int k n
  | .bool b => .bool b
  | .str s => .string s
  | _ => undef

theorem y_arith (hs : HSim m h w) {op : BinOp} {t : TypeId} {X Y : Operand} {x y d : D} {vx vy : Value} (hx : Rep m h w x vx) (hy : Rep m h w y vy) (hd : arith op x y = some d) :
    Yld P (do eqGuard op t X Y vx vy; binOp op t vx vy) m h w d h := by
  unfold arith at hd
  split at hd
  · rename_i k a k' b
    simp only [Rep] at hx hy
    subst hx; subst hy
    have hg : (eqGuard op t X Y (.int k a) (.int k' b)).run P w = .ok () w := by
      cases op <;> simp [eqGuard]
    refine Yld.pure (v := vOf d) hs ?_ ?_
    · rw [Sem.run_bind, hg]
      simp only [Result.andThen_ok]
      cases op <;> simp only at hd
      case shl =>
        split at hd
        · rename_i h0; injection hd with hd; subst hd
          have : ¬ b < 0 := by omega
          simp [binOp, Op.shift, this, vOf]
        · cases hd
      case shr =>
        split at hd
        · rename_i h0; injection hd with hd; subst hd
          have : ¬ b < 0 := by omega
          simp [binOp, Op.shift, this, vOf]
        · cases hd
      case quo =>
        split at hd
        · rename_i h0; injection hd with hd; subst hd
          obtain ⟨rfl, h0⟩ := h0
          simp [binOp, Op.intDiv, h0, vOf]
        · cases hd
      case rem =>
        split at hd
        · rename_i h0; injection hd with hd; subst hd
          obtain ⟨rfl, h0⟩ := h0
          simp [binOp, Op.intDiv, h0, vOf]
        · cases hd
      all_goals
        split at hd
        · rename_i hk
          simp only [ibits, Option.map_some, Option.some.injEq] at hd
          subst hd; subst hk
          simp [binOp, Op.intArith, Op.intCmp, Op.intBits, vOf]
        · cases hd
    · cases op <;> simp only at hd
      all_goals
        split at hd
        · simp only [ibits, Option.map_some, Option.some.injEq] at hd
          subst hd
          simp [Rep, vOf]
        · cases hd
  · rename_i a b
    simp only [Rep] at hx hy
    subst hx; subst hy
    have hg : (eqGuard op t X Y (.string a) (.string b)).run P w = .ok () w := by
      cases op <;> simp [eqGuard]
    refine Yld.pure (v := vOf d) hs ?_ ?_
    · rw [Sem.run_bind, hg]
      simp only [Result.andThen_ok]
      cases op <;> simp only at hd
      case add =>
        split at hd
        · rename_i h0; injection hd with hd; subst hd
          have : ¬ ((a.size + b.size : Nat) : Int) > IntKind.i64.max := by
            have : IntKind.i64.max = 9223372036854775807 := by decide
            rw [this]; omega
          simp only [binOp, Op.stringOp]
          rw [if_neg this]
          simp [vOf]
        · cases hd
      all_goals first
        | (injection hd with hd; subst hd; simp [binOp, Op.stringOp, vOf]; done)
        | (cases hd; done)
    · cases op <;> simp only at hd
      case add =>
        split at hd
        · injection hd with hd; subst hd; simp [Rep, vOf]
        · cases hd
      all_goals first
        | (injection hd with hd; subst hd; simp [Rep, vOf]; done)
        | (cases hd; done)
  · cases hd

theorem y_unop (hs : HSim m h w) {op : UnOp} {x d : D} {v : Value} (hx : Rep m h w x v) (hd : unop op x = some d) : Yld P (Op.unary op v) m h w d h := by
  unfold unop at hd
  split at hd
  · rename_i k n
    simp only [Rep] at hx
    subst hx
    split at hd
    · injection hd with hd; subst hd
      exact Yld.pure (v := .int k (k.wrap (0 - n))) hs (by simp [Op.unary, Op.intArith]) (by simp [Rep])
    · simp only [ibits, Option.map_some] at hd
      injection hd with hd; subst hd
      exact Yld.pure (v := .int k (k.wrap (BitVec.ofInt k.bits (if k.signed then -1 else k.max) ^^^ BitVec.ofInt k.bits n).toNat)) hs (by simp [Op.unary, Op.intBits]) (by simp [Rep])
    · cases hd
  · rename_i b
    simp only [Rep] at hx
    subst hx
    split at hd
    · injection hd with hd; subst hd
      exact Yld.pure (v := .bool (!b)) hs (by simp [Op.unary]) (by simp [Rep])
    · cases hd
  · cases hd

theorem y_conv (hs : HSim m h w) {src dst : TypeId} {d : TypeDesc} {k k' : IntKind} (hu : P.underlying src = some d) (hd : P.underlying dst = some (.int k)) {n : Int} {v : Value} (hv : Rep m h w (.int k' n) v) :
    Yld P (convert src dst v) m h w (.int k (k.wrap n)) h := by
  simp only [Rep] at hv
  subst hv
  exact Yld.pure (v := .int k (k.wrap n)) hs (by simp [convert, run_under hu w, run_under hd w, Conv.intToInt]) (by simp [Rep])

theorem y_conv_str (hs : HSim m h w) {src dst : TypeId} (hu : P.underlying src = some .string) (hd : P.underlying dst = some .string) {s : ByteArray} {v : Value} (hv : Rep m h w (.str s) v) :
    Yld P (convert src dst v) m h w (.str s) h := by
  simp only [Rep] at hv
  subst hv
  exact Yld.pure (v := .string s) hs (by simp [convert, run_under hu w, run_under hd w]) (by simp [Rep])

theorem bytes_vals {cs : List D} {vs : List Value} : ∀ {l : List UInt8}, RepL m h w cs vs → bytesOf cs = some l → ∃ ns : List Int, vs = ns.map (Value.int .u8) ∧ l = ns.map fun n => UInt8.ofNat n.toNat := by
  induction cs generalizing vs with
  | nil =>
    intro l hr hb
    simp only [RepL] at hr
    simp only [bytesOf, Option.some.injEq] at hb
    subst hr; subst hb
    exact ⟨[], rfl, rfl⟩
  | cons d ds ih =>
    intro l hr hb
    simp only [RepL] at hr
    obtain ⟨u, us, rfl, h1, h2⟩ := hr
    simp only [bytesOf, Option.bind_eq_some_iff, Option.map_eq_some_iff] at hb
    obtain ⟨b, h3, l', h4, rfl⟩ := hb
    obtain ⟨ns, rfl, rfl⟩ := ih h2 h4
    unfold byteOf at h3
    split at h3
    · rename_i n
      injection h3 with h3
      simp only [Rep] at h1
      subst h1; subst h3
      exact ⟨n :: ns, rfl, rfl⟩
    · cases h3

theorem foldl_push (ns : List Int) : ∀ (s : ByteArray), (ns.foldl (fun r n => r.push (UInt8.ofNat n.toNat)) s) = ⟨(s.data.toList ++ ns.map fun n => UInt8.ofNat n.toNat).toArray⟩ := by
  induction ns with
  | nil => intro s; simp
  | cons n ns ih =>
    intro s
    rw [List.foldl_cons, ih]
    simp [ByteArray.push]

theorem y_b2s (hs : HSim m h w) {src dst e : TypeId} (hu : P.underlying src = some (.slice e)) (he : P.underlying e = some (.int .u8)) (hd : P.underlying dst = some .string) {x : D} {v : Value} (hv : Rep m h w x v) {cs : List D} {n : Nat} (hc : slCells h 1 x = some (cs, n))
    {l : List UInt8} (hl : bytesOf cs = some l) : Yld P (convert src dst v) m h w (.str ⟨l.toArray⟩) h := by
  obtain ⟨g1, g2⟩ := sl_lies hs hv hc
  rcases g2 with ⟨rfl, rfl⟩ | ⟨rfl, a, cap, rfl⟩ | ⟨b, off, cap, rfl, g3, g4⟩
  · have : cs = [] := List.length_eq_zero_iff.1 (by omega)
    subst this
    simp only [bytesOf, Option.some.injEq] at hl
    subst hl
    exact Yld.pure (v := .string ⟨#[]⟩) hs (by rw [run_convert_bytes_string w src dst e _ _ _ hu he hd]; simp [Conv.bytesToString]; rfl) (by simp [Rep])
  · have : cs = [] := List.length_eq_zero_iff.1 (by omega)
    subst this
    simp only [bytesOf, Option.some.injEq] at hl
    subst hl
    have hload : (loadCells a 0).run P w = .ok (([] : List Int).map (Value.int .u8)).toArray w :=
      run_loadCells_list (P := P) w a [] (fun j v hj => by simp at hj)
    refine Yld.pure (v := .string ⟨#[]⟩) hs ?_ (by simp [Rep])
    rw [run_convert_bytes_string w src dst e _ _ _ hu he hd, run_bytesToString w _ 0 cap [] hload, foldl_push]
    rfl
  · obtain ⟨vs, q1, q2⟩ := g4.vals
    obtain ⟨ns, rfl, rfl⟩ := bytes_vals q1 hl
    have hlen : (ns.map (Value.int .u8)).length = n := by rw [q1.length, g1]; omega
    have hload : (loadCells ⟨b, off, none⟩ n).run P w = .ok (ns.map (Value.int .u8)).toArray w := by
      have := run_loadCells_list (P := P) w ⟨b, off, none⟩ (ns.map (Value.int .u8)) (fun j v hj => by rw [addr_add]; exact q2 j v hj)
      rwa [hlen] at this
    refine Yld.pure (v := .string ⟨(ns.map fun n => UInt8.ofNat n.toNat).toArray⟩) hs ?_ (by simp [Rep])
    rw [run_convert_bytes_string w src dst e _ _ _ hu he hd, run_bytesToString w _ n cap ns hload, foldl_push]
    rfl

/-- Comparisons of bools, and with nil. -/
theorem y_eqb (hs : HSim m h w) {op : BinOp} {neg : Bool} (ho : (op = .eql ∧ neg = false) ∨ (op = .neq ∧ neg = true)) {t : TypeId} {X Y : Operand} {a b : Bool} {vx vy : Value} (hx : Rep m h w (.bool a) vx) (hy : Rep m h w (.bool b) vy)
    (hu : P.underlying t = some .bool) : Yld P (do eqGuard op t X Y vx vy; binOp op t vx vy) m h w (.bool (if neg then !(a == b) else a == b)) h := by
  simp only [Rep] at hx hy
  subst hx; subst hy
  have hr := run_equal_bool w t a b hu
  rcases ho with ⟨rfl, rfl⟩ | ⟨rfl, rfl⟩
  · exact Yld.pure (v := .bool (a == b)) hs (by simp [eqGuard, binOp, hr]) (by simp [Rep])
  · exact Yld.pure (v := .bool (!(a == b))) hs (by simp [eqGuard, binOp, hr]) (by simp [Rep])

/-- A value that is nil, or none, by its kind. -/
inductive NilOf (P : Program) (t : TypeId) : Value → Value → Bool → Prop
  | pp (e : TypeId) (h : P.underlying t = some (.pointer e)) : NilOf P t (.pointer none) (.pointer none) true
  | pq (e : TypeId) (a : Addr) (h : P.underlying t = some (.pointer e)) : NilOf P t (.pointer none) (.pointer (some a)) false
  | sp (e : TypeId) (h : P.underlying t = some (.slice e)) : NilOf P t (.slice none 0 0) (.slice none 0 0) true
  | sq (e : TypeId) (a : Addr) (n c : Nat) (h : P.underlying t = some (.slice e)) : NilOf P t (.slice none 0 0) (.slice (some a) n c) false
  | fp (ps rs : Array TypeId) (vr : Bool) (h : P.underlying t = some (.func ps rs vr)) : NilOf P t .nilFunc .nilFunc true
  | fq (ps rs : Array TypeId) (vr : Bool) (f : Fn) (x y : Array Value) (h : P.underlying t = some (.func ps rs vr)) : NilOf P t .nilFunc (.func f x y) false
  | ip (ms : Array (String × TypeId)) (h : P.underlying t = some (.interface ms)) : NilOf P t .nilIface .nilIface true
  | iq (ms : Array (String × TypeId)) (u : TypeId) (x : Value) (h : P.underlying t = some (.interface ms)) : NilOf P t .nilIface (.iface u x) false

theorem NilOf.eq {t : TypeId} {c v : Value} {b : Bool} (hn : NilOf P t c v b) (d : Nat) : (Op.equalIn (d + 1) t v c).run P w = .ok b w ∧ (Op.equalIn (d + 1) t c v).run P w = .ok b w := by
  cases hn with
  | pp e hu => simp [Op.equalIn, run_under hu w]
  | pq e a hu => simp [Op.equalIn, run_under hu w]
  | sp e hu => simp [Op.equalIn, run_under hu w]
  | sq e a n c hu => simp [Op.equalIn, run_under hu w]
  | fp ps rs vr hu => simp [Op.equalIn, run_under hu w]
  | fq ps rs vr f x y hu => simp [Op.equalIn, run_under hu w]
  | ip ms hu => simp [Op.equalIn, run_under hu w]
  | iq ms u x hu => simp [Op.equalIn, run_under hu w]

theorem NilOf.eq' {t : TypeId} {c v : Value} {b : Bool} (hn : NilOf P t c v b) : (Op.equal t v c).run P w = .ok b w ∧ (Op.equal t c v).run P w = .ok b w := hn.eq 9999

theorem NilOf.run {t : TypeId} {c v : Value} {b : Bool} (hn : NilOf P t c v b) (op : BinOp) (neg : Bool) (ho : (op = .eql ∧ neg = false) ∨ (op = .neq ∧ neg = true)) (X : Operand) :
    ((do eqGuard op t X (.const c) v c; binOp op t v c : Sem Value)).run P w = .ok (.bool (if neg then !b else b)) w ∧ ((do eqGuard op t (.const c) X c v; binOp op t c v : Sem Value)).run P w = .ok (.bool (if neg then !b else b)) w := by
  obtain ⟨h1, h2⟩ := hn.eq' (w := w)
  cases hn with
  | pp e hu => rcases ho with ⟨rfl, rfl⟩ | ⟨rfl, rfl⟩ <;> simp [eqGuard, binOp, h1]
  | pq e a hu => rcases ho with ⟨rfl, rfl⟩ | ⟨rfl, rfl⟩ <;> simp [eqGuard, binOp, h1, h2]
  | sp e hu => rcases ho with ⟨rfl, rfl⟩ | ⟨rfl, rfl⟩ <;> simp [eqGuard, binOp, h1]
  | sq e a n c hu => rcases ho with ⟨rfl, rfl⟩ | ⟨rfl, rfl⟩ <;> simp [eqGuard, binOp, h1, h2]
  | fp ps rs vr hu => rcases ho with ⟨rfl, rfl⟩ | ⟨rfl, rfl⟩ <;> simp [eqGuard, binOp, h1]
  | fq ps rs vr f x y hu => rcases ho with ⟨rfl, rfl⟩ | ⟨rfl, rfl⟩ <;> simp [eqGuard, binOp, h1, h2]
  | ip ms hu => rcases ho with ⟨rfl, rfl⟩ | ⟨rfl, rfl⟩ <;> simp [eqGuard, binOp, h1]
  | iq ms u x hu => rcases ho with ⟨rfl, rfl⟩ | ⟨rfl, rfl⟩ <;> simp [eqGuard, binOp, h1, h2]

/-- The nil that a type has, if it has one. -/
def nilOf (P : Program) (t : TypeId) : Option Value :=
  match P.underlying t with
  | some (.pointer _) => some (.pointer none)
  | some (.slice _) => some (.slice none 0 0)
  | some (.func ..) => some .nilFunc
  | some (.interface _) => some .nilIface
  | _ => none

def nilSort : Value → Nat
  | .pointer _ => 1
  | .slice .. => 2
  | .nilFunc => 3
  | .nilIface => 4
  | _ => 5

theorem isNil_spec (hs : HSim m h w) {x : D} {v : Value} (hx : Rep m h w x v) {b : Bool} (hb : isNil h x = some b) {t : TypeId} {c : Value} (hc : nilOf P t = some c) (hsort : x.sortOf = nilSort c) : NilOf P t c v b := by
  unfold nilOf at hc
  have ptr : ∀ d, fieldAddr h 0 x = some d → ∃ a, v = .pointer (some a) := fun d hd => y_nilchk hs hx hd
  split at hc
  · rename_i e hu
    injection hc with hc; subst hc
    cases x <;> simp [D.sortOf, nilSort] at hsort
    · simp only [isNil, Option.some.injEq] at hb; subst hb
      simp only [Rep] at hx; subst hx; exact .pp e hu
    · simp only [isNil, Option.some.injEq] at hb; subst hb
      simp only [Rep] at hx; obtain ⟨a, rfl, _⟩ := hx; exact .pq e a hu
    · simp only [isNil, Option.map_eq_some_iff] at hb
      obtain ⟨d, hd, rfl⟩ := hb
      obtain ⟨a, rfl⟩ := ptr d hd; exact .pq e a hu
    · simp only [isNil, Option.map_eq_some_iff] at hb
      obtain ⟨d, hd, rfl⟩ := hb
      obtain ⟨a, rfl⟩ := ptr d hd; exact .pq e a hu
  · rename_i e hu
    injection hc with hc; subst hc
    have sl : ∀ n, slLen h x = some n → x ≠ .nils → ∃ a n c, v = .slice (some a) n c := by
      intro n hn hne
      unfold slLen at hn
      split at hn
      · exact absurd rfl hne
      · simp only [Rep] at hx
        obtain ⟨a, cap, h1, _⟩ := hx
        exact ⟨a, _, cap, h1⟩
      · simp only [Rep] at hx
        obtain ⟨_, blk, h1, h2⟩ := hx
        rw [h1] at hn
        split at hn
        · rename_i e'; injection e' with e'; subst e'
          split at hn
          · rename_i hq; exact ⟨_, _, _, h2.2 hq⟩
          · cases hn
        · rename_i e'; injection e' with e'; subst e'
          split at hn
          · rename_i hq; exact ⟨_, _, _, h2.2 hq⟩
          · cases hn
        · cases hn
      · simp only [Rep] at hx
        obtain ⟨_, blk, h1, h2⟩ := hx
        rw [h1] at hn
        split at hn
        · rename_i e'; injection e' with e'; subst e'
          split at hn
          · rename_i hq; obtain ⟨cap, _, h4⟩ := h2.2 hq; exact ⟨_, _, _, h4⟩
          · cases hn
        · rename_i e'; injection e' with e'; subst e'
          split at hn
          · rename_i hq; obtain ⟨cap, _, h4⟩ := h2.2 hq; exact ⟨_, _, _, h4⟩
          · cases hn
        · cases hn
      · simp only [Rep] at hx
        obtain ⟨_, blk, h1, h2⟩ := hx
        rw [h1] at hn
        split at hn
        · rename_i e'; injection e' with e'; subst e'
          obtain ⟨cap, _, h4⟩ := h2; exact ⟨_, _, _, h4⟩
        · rename_i e'; injection e' with e'; subst e'
          obtain ⟨cap, _, h4⟩ := h2; exact ⟨_, _, _, h4⟩
        · cases hn
      · cases hn
    cases x <;> simp [D.sortOf, nilSort] at hsort
    · simp only [isNil, Option.some.injEq] at hb; subst hb
      simp only [Rep] at hx; subst hx; exact .sp e hu
    all_goals
      simp only [isNil, Option.map_eq_some_iff] at hb
      obtain ⟨n, hn, rfl⟩ := hb
      obtain ⟨a, n, c, rfl⟩ := sl n hn (by simp)
      exact .sq e a n c hu
  · rename_i ps rs vr hu
    injection hc with hc; subst hc
    cases x <;> simp [D.sortOf, nilSort] at hsort
    · simp only [isNil, Option.some.injEq] at hb; subst hb
      simp only [Rep] at hx; obtain ⟨vs, us, rfl, _⟩ := hx; exact .fq ps rs vr _ _ _ hu
    · simp only [isNil, Option.some.injEq] at hb; subst hb
      simp only [Rep] at hx; subst hx; exact .fp ps rs vr hu
  · rename_i ms hu
    injection hc with hc; subst hc
    cases x <;> simp [D.sortOf, nilSort] at hsort
    · simp only [isNil, Option.some.injEq] at hb; subst hb
      simp only [Rep] at hx; obtain ⟨u, rfl, _⟩ := hx; exact .iq ms _ u hu
    · simp only [isNil, Option.some.injEq] at hb; subst hb
      simp only [Rep] at hx; subst hx; exact .ip ms hu
  · cases hc

theorem y_len (hs : HSim m h w) {t : TypeId} {td : TypeDesc} (hu : P.underlying t = some td) {x : D} {v : Value} (hx : Rep m h w x v) {n : Nat} (hn : lenD h x = some n) (htd : (td = .string ∧ x.sortOf = 0) ∨ ((∃ e, td = .slice e) ∧ x.sortOf = 2)) (ty : TypeId) :
    Yld P (Builtin.len_ #[t] ty #[v]) m h w (.int .i64 (n : Int)) h := by
  refine Yld.pure (v := .int .i64 n) hs ?_ (by simp [Rep])
  unfold lenD at hn
  rcases htd with ⟨rfl, hsx⟩ | ⟨⟨e, rfl⟩, hsx⟩
  · split at hn
    · injection hn with hn; subst hn
      simp only [Rep] at hx; subst hx
      simp [Builtin.len_, run_under hu w, goInt]
    · obtain ⟨base, cap, rfl, _⟩ := sl_len hx hn
      unfold slLen at hn
      split at hn <;> simp_all [D.sortOf]
  · split at hn
    · simp [D.sortOf] at hsx
    · obtain ⟨base, cap, rfl, _⟩ := sl_len hx hn
      simp [Builtin.len_, run_under hu w, goInt]

end
end Go.YtodlpcoffmnmbaaDoor
