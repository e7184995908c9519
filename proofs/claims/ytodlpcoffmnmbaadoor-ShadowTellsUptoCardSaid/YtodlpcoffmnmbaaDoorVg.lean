/-
  Own work. The value machine, part G: each operation does with memory what it does with plain data: addresses, pieces, sums, comparisons.
-/
import Derived.Test.YtodlpcoffmnmbaaDoorVf
import Derived.Laws.StructEq
import Derived.Laws.Slices
namespace Go.YtodlpcoffmnmbaaDoor
open Go
set_option linter.unusedVariables false
set_option linter.unusedSimpArgs false

/-! ### equality of values of several cells -/
def eqLeaf (xs ys : List D) (i : Nat × SK) : Option Bool := (xs[i.1]?).bind fun x => (ys[i.1]?).bind fun y => D.eqk i.2 x y
def eqAt (xs ys : List D) : List (Nat × SK) → Option Bool
  | [] => some true
  | i :: is => (eqLeaf xs ys i).bind fun b => (eqAt xs ys is).map fun c => b && c

abbrev Lf := List (Nat × SK)
def shiftLf (off : Nat) (l : Lf) : Lf := l.map fun p => (p.1 + off, p.2)
def leafsOf (P : Program) (rec_ : TypeId → Option Lf) (t : TypeId) (off : Nat) : Option Lf :=
  (rec_ t).bind fun l => (agOf P t).bind fun ag => if l.all (fun p => decide (p.1 < ag.getD 1)) = true then some (shiftLf off l) else none
def catO : List (Option Lf) → Option Lf
  | [] => some []
  | x :: xs => x.bind fun l => (catO xs).map fun r => l ++ r
/-- Where the cells lie of which equality asks, in its order. -/
def leafs (P : Program) : Nat → TypeId → Option Lf
  | 0, _ => none
  | f + 1, t => match P.underlying t with
    | some .bool => some [(0, .kb)]
    | some (.int _) => some [(0, .ki)]
    | some .string => some [(0, .ks)]
    | some (.struct fs) => if P.stoodInHeld t = false ∧ fs.toList.all (fun x => x.name != "_") = true then catO (fs.toList.map fun x => leafsOf P (leafs P f) x.type x.offset) else none
    | some (.array n e) => (szOf P e).bind fun sz => catO ((List.range n).map fun i => leafsOf P (leafs P f) e (i * sz))
    | _ => none

theorem eqAt_append (xs ys : List D) : ∀ (l r : Lf) {b : Bool}, eqAt xs ys (l ++ r) = some b → ∃ b1 b2, eqAt xs ys l = some b1 ∧ eqAt xs ys r = some b2 ∧ b = (b1 && b2)
  | [], r, b, h => ⟨true, b, rfl, h, by simp⟩
  | i :: l, r, b, h => by
    simp only [List.cons_append, eqAt, Option.bind_eq_some_iff, Option.map_eq_some_iff] at h
    obtain ⟨b0, h1, c, h2, rfl⟩ := h
    obtain ⟨b1, b2, h3, h4, rfl⟩ := eqAt_append xs ys l r h2
    exact ⟨b0 && b1, b2, by simp [eqAt, h1, h3], h4, by simp [Bool.and_assoc]⟩

theorem eqAt_map (xs ys : List D) (off n : Nat) : ∀ (l : Lf), l.all (fun p => decide (p.1 < n)) = true → eqAt xs ys (shiftLf off l) = eqAt ((xs.drop off).take n) ((ys.drop off).take n) l
  | [], _ => rfl
  | i :: l, h => by
    simp only [List.all_cons, Bool.and_eq_true, decide_eq_true_eq] at h
    simp only [shiftLf, List.map_cons, eqAt]
    rw [show List.map (fun p : Nat × SK => (p.1 + off, p.2)) l = shiftLf off l from rfl, eqAt_map xs ys off n l h.2]
    congr 1
    simp only [eqLeaf, List.getElem?_take, h.1, if_true, List.getElem?_drop, Nat.add_comm]

/-- The leaves one behind the other, from a cell on. -/
def rangeLf : Nat → List SK → Lf
  | _, [] => []
  | k, s :: ss => (k, s) :: rangeLf (k + 1) ss

theorem eqAt_range (xs ys : List D) : ∀ (ks : List SK) (k : Nat) {b : Bool}, eqCells ks (xs.drop k) (ys.drop k) = some b → eqAt xs ys (rangeLf k ks) = some b
  | [], k, b, h => by
    unfold eqCells at h
    split at h
    · simpa [rangeLf, eqAt] using h
    · rename_i e _ _; cases e
    · cases h
  | s :: ks, k, b, h => by
    unfold eqCells at h
    split at h
    · rename_i e _ _; cases e
    · rename_i k' ks' x xs' y ys' e e1 e2
      injection e with ek eks
      subst ek; subst eks
      simp only [Option.bind_eq_some_iff, Option.map_eq_some_iff] at h
      obtain ⟨b0, h1, c, h2, rfl⟩ := h
      have gx : xs[k]? = some x := by have := congrArg (fun l => l[0]?) e1; simpa using this
      have gy : ys[k]? = some y := by have := congrArg (fun l => l[0]?) e2; simpa using this
      have dx : xs.drop (k + 1) = xs' := by rw [← List.drop_drop, e1]; rfl
      have dy : ys.drop (k + 1) = ys' := by rw [← List.drop_drop, e2]; rfl
      have := eqAt_range xs ys ks (k + 1) (b := c) (by rw [dx, dy]; exact h2)
      simp [rangeLf, eqAt, eqLeaf, gx, gy, h1, this]
    · cases h

section
variable {P : Program} {m : Mu} {h : Heap} {w : World}

/-- A value of a type, by its cells. -/
def VRep (m : Mu) (h : Heap) (w : World) (ag : Option Nat) (xs : List D) (v : Value) : Prop :=
  match ag with
  | none => ∃ d, xs = [d] ∧ Rep m h w d v
  | some _ => ∃ us, v = .agg us.toArray ∧ RepL m h w xs us

theorem eqk_b {x y : D} {vx vy : Value} (hx : Rep m h w x vx) (hy : Rep m h w y vy) {b : Bool} (he : D.eqk .kb x y = some b) : ∃ p q, vx = .bool p ∧ vy = .bool q ∧ b = (p == q) := by
  unfold D.eqk at he
  split at he <;> simp_all [Rep]
theorem eqk_i {x y : D} {vx vy : Value} (hx : Rep m h w x vx) (hy : Rep m h w y vy) {b : Bool} (he : D.eqk .ki x y = some b) : ∃ k p q, vx = .int k p ∧ vy = .int k q ∧ b = (p == q) := by
  unfold D.eqk at he
  split at he
  · cases ‹SK.ki = SK.kb›
  · simp only [Rep] at hx hy
    split at he
    · rename_i hk; subst hk
      injection he with he
      exact ⟨_, _, _, hx, hy, he.symm⟩
    · cases he
  · cases ‹SK.ki = SK.ks›
  · cases he
theorem eqk_s {x y : D} {vx vy : Value} (hx : Rep m h w x vx) (hy : Rep m h w y vy) {b : Bool} (he : D.eqk .ks x y = some b) : ∃ p q, vx = .string p ∧ vy = .string q ∧ b = (p.toList == q.toList) := by
  unfold D.eqk at he
  split at he <;> simp_all [Rep]

theorem part_V (t : TypeId) {ag : Option Nat} (ha : agOf P t = some ag) {xs : List D} {us : List Value} (hr : RepL m h w xs us) {off : Nat} (hn : ag = none → ∃ d, xs[off]? = some d) :
    ∃ v, (part t us.toArray off).run P w = .ok v w ∧ VRep m h w ag ((xs.drop off).take (ag.getD 1)) v := by
  cases ag with
  | none =>
    obtain ⟨d, hd⟩ := hn rfl
    obtain ⟨v, h1, h2⟩ := part_D t ha hr (off := off) (d := d) (by simpa [loadCs] using hd)
    refine ⟨v, h1, d, ?_, h2⟩
    obtain ⟨hl, he⟩ := List.getElem?_eq_some_iff.1 hd
    rw [List.drop_eq_getElem_cons hl, he]; rfl
  | some n =>
    obtain ⟨⟨dd, h1, h2⟩, h3⟩ := agOf_some ha
    have hagg : (isAgg t).run P w = .ok true w := by
      unfold isAgg
      rw [Sem.run_bind, run_under h1 w]
      cases dd <;> simp_all
    refine ⟨.agg (us.toArray.extract off (off + n)), by simp [part, hagg, run_sizeOf h3 w], (us.drop off).take n, ?_, (hr.drop off).take n⟩
    apply congrArg
    apply Array.ext'
    simp [List.extract_eq_take_drop]

/-- 'for i in [0:len]', one behind the other. -/
def eqItems (d : Nat) (e : TypeId) (n : Nat) (xs ys : Array Value) : List Nat → Sem Bool
  | [] => pure true
  | i :: is => do
    let a ← part e xs (i * n)
    let b ← part e ys (i * n)
    let r ← Op.equalIn d e a b
    if (!r) = true then pure false else eqItems d e n xs ys is

theorem run_equalIn_arr (d : Nat) (t e : TypeId) (len sz : Nat) (xs ys : Array Value) (ht : P.underlying t = some (.array len e)) (hz : szOf P e = some sz) :
    (Op.equalIn (d + 1) t (.agg xs) (.agg ys)).run P w = (eqItems d e sz xs ys (List.range len)).run P w := by
  simp only [Op.equalIn, Sem.run_bind, run_underlying ht, Result.andThen_ok, run_sizeOf hz]
  simp only [Std.Legacy.Range.forIn_eq_forIn_range', Std.Legacy.Range.size, Nat.sub_zero, Nat.add_sub_cancel, Nat.div_one, ← List.range_eq_range']
  generalize List.range len = is
  clear ht
  induction is generalizing w with
  | nil => simp [eqItems]
  | cons i is ih =>
    simp only [List.forIn_cons, eqItems, Sem.run_bind, Sem.run_ite]
    generalize (part e xs (i * sz)).run P w = r1
    cases r1 with
    | ok a w1 =>
      simp only [Result.andThen_ok]
      generalize (part e ys (i * sz)).run P w1 = r2
      cases r2 with
      | ok b w2 =>
        simp only [Result.andThen_ok]
        generalize (Op.equalIn d e a b).run P w2 = r3
        cases r3 with
        | ok r w3 =>
          cases r
          · simp only [Result.andThen_ok, Bool.not_false, if_true, Sem.run_pure]
          · simp only [Result.andThen_ok, Bool.not_true, Bool.false_eq_true, if_false, Sem.run_pure]
            exact ih
        | halt x w3 => simp [Result.andThen]
      | halt x w2 => simp [Result.andThen]
    | halt x w1 => simp [Result.andThen]

def EqOk (P : Program) (m : Mu) (h : Heap) (w : World) (dd : Nat) (t : TypeId) (l : Lf) : Prop :=
  ∀ (ag : Option Nat) (xs ys : List D) (vx vy : Value) (b : Bool), agOf P t = some ag → VRep m h w ag xs vx → VRep m h w ag ys vy → eqAt xs ys l = some b → (Op.equalIn dd t vx vy).run P w = .ok b w

theorem eqAt_in {xs ys : List D} : ∀ {l : Lf} {b : Bool}, eqAt xs ys l = some b → ∀ i ∈ l, (∃ d, xs[i.1]? = some d) ∧ ∃ d, ys[i.1]? = some d
  | [], _, _, i, hi => by simp at hi
  | j :: l, b, he, i, hi => by
    simp only [eqAt, Option.bind_eq_some_iff, Option.map_eq_some_iff, eqLeaf] at he
    obtain ⟨b0, ⟨x, h1, y, h2, _⟩, c, h3, _⟩ := he
    rcases List.mem_cons.1 hi with rfl | hi
    · exact ⟨⟨x, h1⟩, ⟨y, h2⟩⟩
    · exact eqAt_in h3 i hi

theorem leafs_one {f : Nat} {t : TypeId} {l : Lf} (hl : leafs P f t = some l) (ha : agOf P t = some none) : ∃ k, l = [(0, k)] := by
  cases f with
  | zero => simp [leafs] at hl
  | succ f =>
    simp only [leafs] at hl
    unfold agOf at ha
    split at hl
    · exact ⟨_, by simpa using hl.symm⟩
    · exact ⟨_, by simpa using hl.symm⟩
    · exact ⟨_, by simpa using hl.symm⟩
    · rename_i fs hu; rw [hu] at ha; cases hi : P.info? t <;> simp [hi] at ha
    · rename_i n e hu; rw [hu] at ha; cases hi : P.info? t <;> simp [hi] at ha
    · cases hl

theorem eq_step {dd f : Nat} {t : TypeId} {l : Lf} {off : Nat} (hl : leafsOf P (leafs P f) t off = some l) (IH : ∀ l', leafs P f t = some l' → EqOk P m h w dd t l')
    {xs ys : List D} {us vs : List Value} (hx : RepL m h w xs us) (hy : RepL m h w ys vs) {b : Bool} (he : eqAt xs ys l = some b) :
    ∃ a c, (part t us.toArray off).run P w = .ok a w ∧ (part t vs.toArray off).run P w = .ok c w ∧ (Op.equalIn dd t a c).run P w = .ok b w := by
  simp only [leafsOf, Option.bind_eq_some_iff] at hl
  obtain ⟨l', h1, ag, h2, h3⟩ := hl
  split at h3
  · rename_i hall
    injection h3 with h3; subst h3
    have hin := eqAt_in he
    have hn : ag = none → (∃ d, xs[off]? = some d) ∧ ∃ d, ys[off]? = some d := fun e => by
      subst e
      obtain ⟨k, hk⟩ := leafs_one h1 h2
      subst hk
      have := hin (0 + off, k) (by simp [shiftLf])
      simpa using this
    rw [eqAt_map xs ys off _ l' hall] at he
    obtain ⟨a, g1, g2⟩ := part_V t h2 hx (off := off) (fun e => (hn e).1)
    obtain ⟨c, g3, g4⟩ := part_V t h2 hy (off := off) (fun e => (hn e).2)
    exact ⟨a, c, g1, g3, IH l' h1 ag _ _ a c b h2 g2 g4 he⟩
  · cases h3

theorem eq_fields {dd f : Nat} (IH : ∀ t l', leafs P f t = some l' → EqOk P m h w dd t l') {xs ys : List D} {us vs : List Value} (hx : RepL m h w xs us) (hy : RepL m h w ys vs) :
    ∀ (fs : List Field) (l : Lf) (b : Bool), fs.all (fun x => x.name != "_") = true → catO (fs.map fun x => leafsOf P (leafs P f) x.type x.offset) = some l → eqAt xs ys l = some b →
      (Op.eqFields dd us.toArray vs.toArray fs).run P w = .ok b w
  | [], l, b, _, hc, he => by
    simp only [List.map_nil, catO, Option.some.injEq] at hc
    subst hc
    simp only [eqAt, Option.some.injEq] at he
    subst he
    simp [Op.eqFields]
  | fd :: fs, l, b, hn, hc, he => by
    simp only [List.all_cons, Bool.and_eq_true, bne_iff_ne, ne_eq] at hn
    simp only [List.map_cons, catO, Option.bind_eq_some_iff, Option.map_eq_some_iff] at hc
    obtain ⟨l1, h1, l2, h2, rfl⟩ := hc
    obtain ⟨b1, b2, h3, h4, rfl⟩ := eqAt_append _ _ _ _ he
    obtain ⟨a, c, g1, g2, g3⟩ := eq_step h1 (IH _) hx hy h3
    have g4 := eq_fields IH hx hy fs l2 b2 (by simpa using hn.2) h2 h4
    simp only [Op.eqFields, hn.1, ne_eq, not_false_eq_true, if_true, Sem.run_bind, g1, g2, g3, Result.andThen_ok]
    cases b1
    · simp
    · simpa using g4

theorem eq_items {dd f : Nat} {e sz : Nat} (IH : ∀ t l', leafs P f t = some l' → EqOk P m h w dd t l') {xs ys : List D} {us vs : List Value} (hx : RepL m h w xs us) (hy : RepL m h w ys vs) :
    ∀ (is : List Nat) (l : Lf) (b : Bool), catO (is.map fun i => leafsOf P (leafs P f) e (i * sz)) = some l → eqAt xs ys l = some b →
      (eqItems dd e sz us.toArray vs.toArray is).run P w = .ok b w
  | [], l, b, hc, he => by
    simp only [List.map_nil, catO, Option.some.injEq] at hc
    subst hc
    simp only [eqAt, Option.some.injEq] at he
    subst he
    simp [eqItems]
  | i :: is, l, b, hc, he => by
    simp only [List.map_cons, catO, Option.bind_eq_some_iff, Option.map_eq_some_iff] at hc
    obtain ⟨l1, h1, l2, h2, rfl⟩ := hc
    obtain ⟨b1, b2, h3, h4, rfl⟩ := eqAt_append _ _ _ _ he
    obtain ⟨a, c, g1, g2, g3⟩ := eq_step h1 (IH _) hx hy h3
    have g4 := eq_items IH hx hy is l2 b2 h2 h4
    simp only [eqItems, Sem.run_bind, g1, g2, g3, Result.andThen_ok]
    cases b1
    · simp
    · simpa using g4

theorem run_equalIn_D : ∀ (f : Nat) (dd : Nat) (t : TypeId) (l : Lf), leafs P f t = some l → f ≤ dd → EqOk P m h w dd t l
  | 0, _, _, _, hl, _ => by simp [leafs] at hl
  | f + 1, 0, _, _, _, hle => by omega
  | f + 1, dd + 1, t, l, hl, hle => by
    intro ag xs ys vx vy b ha hx hy he
    simp only [leafs] at hl
    have scal : ∀ (d : TypeDesc) (k : SK), P.underlying t = some d → d.isRow = false → l = [(0, k)] → ag = none ∧ ∃ x y, xs = [x] ∧ ys = [y] ∧ Rep m h w x vx ∧ Rep m h w y vy ∧ D.eqk k x y = some b := by
      intro d k hu hr hl0
      subst hl0
      have hag : ag = none := by
        unfold agOf at ha
        rw [hu] at ha
        cases hi : P.info? t with
        | none => cases d <;> simp_all
        | some i => cases d <;> simp_all
      subst hag
      obtain ⟨x, rfl, hx⟩ := hx
      obtain ⟨y, rfl, hy⟩ := hy
      refine ⟨rfl, x, y, rfl, rfl, hx, hy, ?_⟩
      simp only [eqAt, eqLeaf, Option.bind_eq_some_iff, Option.map_eq_some_iff] at he
      obtain ⟨b0, ⟨x', h1, y', h2, h3⟩, c, h4, rfl⟩ := he
      simp at h1 h2 h4
      subst h1; subst h2; subst h4
      simpa using h3
    split at hl
    · rename_i hu
      obtain ⟨rfl, x, y, rfl, rfl, hx, hy, he⟩ := scal _ _ hu rfl (by simpa using hl.symm)
      obtain ⟨p, q, rfl, rfl, rfl⟩ := eqk_b hx hy he
      exact run_equalIn_bool w dd t p q hu
    · rename_i k hu
      obtain ⟨rfl, x, y, rfl, rfl, hx, hy, he⟩ := scal _ _ hu rfl (by simpa using hl.symm)
      obtain ⟨k', p, q, rfl, rfl, rfl⟩ := eqk_i hx hy he
      exact run_equalIn_int w dd t _ _ p q hu
    · rename_i hu
      obtain ⟨rfl, x, y, rfl, rfl, hx, hy, he⟩ := scal _ _ hu rfl (by simpa using hl.symm)
      obtain ⟨p, q, rfl, rfl, rfl⟩ := eqk_s hx hy he
      exact run_equalIn_string w dd t p q hu
    · rename_i fs hu
      have hag : ∃ n, ag = some n := by
        unfold agOf at ha; rw [hu] at ha
        cases hi : P.info? t with
        | none => simp [hi] at ha
        | some i => simp [hi] at ha; exact ⟨_, ha.symm⟩
      obtain ⟨n, rfl⟩ := hag
      obtain ⟨us, rfl, hx⟩ := hx
      obtain ⟨vs, rfl, hy⟩ := hy
      split at hl
      · rename_i hc
        have hf : P.fieldsOf t = fs := by simp [Program.fieldsOf, hu]
        rw [run_equalIn_struct w dd t _ _ (by rw [hf]; exact hu) hc.1, hf]
        exact eq_fields (fun t' l' hl' => run_equalIn_D f dd t' l' hl' (by omega)) hx hy fs.toList l b hc.2 hl he
      · cases hl
    · rename_i k e hu
      have hag : ∃ n, ag = some n := by
        unfold agOf at ha; rw [hu] at ha
        cases hi : P.info? t with
        | none => simp [hi] at ha
        | some i => simp [hi] at ha; exact ⟨_, ha.symm⟩
      obtain ⟨n, rfl⟩ := hag
      obtain ⟨us, rfl, hx⟩ := hx
      obtain ⟨vs, rfl, hy⟩ := hy
      simp only [Option.bind_eq_some_iff] at hl
      obtain ⟨sz, hz, hl⟩ := hl
      rw [run_equalIn_arr dd t e k sz _ _ hu hz]
      exact eq_items (fun t' l' hl' => run_equalIn_D f dd t' l' hl' (by omega)) hx hy _ l b hl he
    · cases hl

/-- Are the leaves of a type just its cells? -/
def eqKs (P : Program) (t : TypeId) : Option (List SK) :=
  (leafs P 20 t).bind fun l => if l.map (·.1) = List.range l.length ∧ P.eqGuardType P.depth t = false then some (l.map (·.2)) else none

theorem rangeLf_eq : ∀ (l : Lf) (k : Nat), l.map (·.1) = List.range' k l.length → l = rangeLf k (l.map (·.2))
  | [], _, _ => rfl
  | (a, s) :: l, k, h => by
    simp only [List.map_cons, List.length_cons, List.range'_succ, List.cons.injEq] at h
    obtain ⟨rfl, h⟩ := h
    simp only [List.map_cons, rangeLf, List.cons.injEq, true_and]
    exact rangeLf_eq l _ h

theorem y_eqa (hs : HSim m h w) {op : BinOp} {neg : Bool} (ho : (op = .eql ∧ neg = false) ∨ (op = .neq ∧ neg = true)) {t : TypeId} {n : Nat} (ha : agOf P t = some (some n)) {ks : List SK} (hk : eqKs P t = some ks)
    {X Y : Operand} {xs ys : List D} {vx vy : Value} (hx : Rep m h w (.agg xs) vx) (hy : Rep m h w (.agg ys) vy) {b : Bool} (he : eqCells ks xs ys = some b) :
    Yld P (do eqGuard op t X Y vx vy; binOp op t vx vy) m h w (.bool (if neg then !b else b)) h := by
  simp only [eqKs, Option.bind_eq_some_iff] at hk
  obtain ⟨l, h1, h2⟩ := hk
  split at h2
  · rename_i hc
    injection h2 with h2; subst h2
    simp only [Rep] at hx hy
    obtain ⟨us, rfl, hx⟩ := hx
    obtain ⟨vs, rfl, hy⟩ := hy
    have hl := rangeLf_eq l 0 (by rw [hc.1, List.range_eq_range'])
    have he' := eqAt_range xs ys (l.map (·.2)) 0 (b := b) (by simpa using he)
    rw [← hl] at he'
    have hrun := run_equalIn_D (m := m) (h := h) (w := w) 20 10000 t l h1 (by omega) (some n) xs ys _ _ b ha ⟨us, rfl, hx⟩ ⟨vs, rfl, hy⟩ he'
    rcases ho with ⟨rfl, rfl⟩ | ⟨rfl, rfl⟩
    · exact Yld.pure (v := .bool b) hs (by rw [Sem.run_bind, run_eqGuard_agg w _ t X Y _ _ hc.2]; simp [run_eql_struct, hrun]) (by simp [Rep])
    · exact Yld.pure (v := .bool (!b)) hs (by rw [Sem.run_bind, run_eqGuard_agg w _ t X Y _ _ hc.2]; simp [run_neq_struct, hrun]) (by simp [Rep])
  · cases h2
end
end Go.YtodlpcoffmnmbaaDoor
