/-
  Own work. Plain laws of rows: bits, what is in all, what is in any.
-/
import Derived.Test.YtjciahobhaaheaaF
namespace Go.Proofs
open Go Go.Ytjciahobhaaheaa
set_option linter.unusedVariables false
set_option linter.unusedSimpArgs false
set_option maxRecDepth 10000

abbrev Words (ws : List Nat) : Prop := ∀ w ∈ ws, w < 18446744073709551616
theorem Words.getD {ws : List Nat} (hw : Words ws) (k : Nat) : ws.getD k 0 < 18446744073709551616 := by
  rw [List.getD_eq_getElem?_getD]
  cases h : ws[k]? with
  | none => simp
  | some w => exact hw w (List.mem_of_getElem? h)
theorem words_of {ws : List Nat} (h : ∀ k < ws.length, ws.getD k 0 < 18446744073709551616) : Words ws := by
  intro w hw
  obtain ⟨k, hk, rfl⟩ := List.getElem_of_mem hw
  have := h k hk
  rwa [List.getD_eq_getElem?_getD, List.getElem?_eq_getElem hk] at this
theorem hasB_test (ws : List Nat) (i : Nat) : hasB ws i = (ws.getD (i / 64) 0).testBit (i % 64) := by
  rw [testBit_def]; rfl
theorem hasB_out {ws : List Nat} {i : Nat} (h : 64 * ws.length ≤ i) : hasB ws i = false := by
  have : ws.getD (i / 64) 0 = 0 := by
    rw [List.getD_eq_getElem?_getD, List.getElem?_eq_none (by omega)]; rfl
  rw [hasB_test, this]; simp
theorem row_ext {a b : List Nat} (hl : a.length = b.length) (ha : Words a) (hb : Words b) (h : ∀ j, j < 64 * a.length → hasB a j = hasB b j) : a = b := by
  apply List.ext_getElem hl
  intro k h1 h2
  have e1 : a[k] = a.getD k 0 := by simp [List.getD_eq_getElem?_getD, List.getElem?_eq_getElem h1]
  have e2 : b[k] = b.getD k 0 := by simp [List.getD_eq_getElem?_getD, List.getElem?_eq_getElem h2]
  rw [e1, e2]
  have l1 := ha.getD k
  have l2 := hb.getD k
  apply Nat.eq_of_testBit_eq
  intro i
  by_cases hi : i < 64
  · have := h (64 * k + i) (by omega)
    rw [hasB_test, hasB_test, show (64 * k + i) / 64 = k by omega, show (64 * k + i) % 64 = i by omega] at this
    exact this
  · have hp : 2 ^ 64 ≤ 2 ^ i := Nat.pow_le_pow_right (by omega) (by omega)
    rw [Nat.testBit_lt_two_pow (by omega), Nat.testBit_lt_two_pow (by omega)]

theorem getD_map_range (f : Nat → Nat) (n j : Nat) : ((List.range n).map f).getD j 0 = if j < n then f j else 0 := by
  rw [List.getD_eq_getElem?_getD, List.getElem?_map]
  by_cases h : j < n
  · rw [List.getElem?_range h, if_pos h]; rfl
  · rw [List.getElem?_eq_none (by simpa using h), if_neg h]; rfl
theorem getD_out {a : List Nat} {j : Nat} (h : a.length ≤ j) : a.getD j 0 = 0 := by
  rw [List.getD_eq_getElem?_getD, List.getElem?_eq_none h]; rfl
theorem list_ext_getD {a b : List Nat} (hl : a.length = b.length) (h : ∀ j < a.length, a.getD j 0 = b.getD j 0) : a = b := by
  apply List.ext_getElem hl
  intro k h1 h2
  have := h k h1
  rwa [List.getD_eq_getElem?_getD, List.getD_eq_getElem?_getD, List.getElem?_eq_getElem h1, List.getElem?_eq_getElem h2] at this

/-- The words that have been mixed. -/
def mixTo (f : Nat → Nat → Nat) (a b : List Nat) (i : Nat) : List Nat := (List.range a.length).map fun j => if j < i then f (a.getD j 0) (b.getD j 0) else a.getD j 0
theorem mixTo_length (f : Nat → Nat → Nat) (a b : List Nat) (i : Nat) : (mixTo f a b i).length = a.length := by simp [mixTo]
theorem mixTo_getD (f : Nat → Nat → Nat) (a b : List Nat) (i j : Nat) (h : j < a.length) : (mixTo f a b i).getD j 0 = if j < i then f (a.getD j 0) (b.getD j 0) else a.getD j 0 := by
  rw [mixTo, getD_map_range, if_pos h]
theorem mixTo_zero (f : Nat → Nat → Nat) (a b : List Nat) : mixTo f a b 0 = a := by
  refine list_ext_getD (mixTo_length _ _ _ _) fun j hj => ?_
  rw [mixTo_length] at hj
  rw [mixTo_getD _ _ _ _ _ hj, if_neg (by omega)]
theorem set_getD (a : List Nat) (i x j : Nat) : (a.set i x).getD j 0 = if i = j ∧ j < a.length then x else a.getD j 0 := by
  rw [List.getD_eq_getElem?_getD, List.getD_eq_getElem?_getD, List.getElem?_set]
  by_cases h : i = j
  · subst h
    by_cases h2 : i < a.length
    · simp [h2]
    · simp [h2]
  · simp [h]
theorem mixTo_set (f : Nat → Nat → Nat) (a b : List Nat) (i : Nat) (h : i < a.length) : (mixTo f a b i).set i (f (a.getD i 0) (b.getD i 0)) = mixTo f a b (i + 1) := by
  refine list_ext_getD (by rw [List.length_set, mixTo_length, mixTo_length]) fun j hj => ?_
  rw [List.length_set, mixTo_length] at hj
  rw [set_getD, mixTo_length, mixTo_getD _ _ _ _ _ hj, mixTo_getD _ _ _ _ _ hj]
  by_cases e : i = j
  · subst e
    rw [if_pos ⟨rfl, h⟩, if_pos (by omega)]
  · rw [if_neg (by omega)]
    by_cases e2 : j < i
    · rw [if_pos e2, if_pos (by omega)]
    · rw [if_neg e2, if_neg (by omega)]

/-! ### What is in all, what is in any -/
def andP (a b : List Nat) : List Nat := (List.range (min a.length b.length)).map fun j => a.getD j 0 &&& b.getD j 0
def orP (a b : List Nat) : List Nat := (List.range (max a.length b.length)).map fun j => a.getD j 0 ||| b.getD j 0
def andR : List (List Nat) → List Nat
  | [] => []
  | r :: rs => rs.foldl andP r
def orR (rs : List (List Nat)) : List Nat := rs.foldl orP []
theorem andP_length (a b : List Nat) : (andP a b).length = min a.length b.length := by simp [andP]
theorem orP_length (a b : List Nat) : (orP a b).length = max a.length b.length := by simp [orP]
theorem andP_getD (a b : List Nat) (j : Nat) : (andP a b).getD j 0 = a.getD j 0 &&& b.getD j 0 := by
  rw [andP, getD_map_range]
  by_cases h : j < min a.length b.length
  · rw [if_pos h]
  · rw [if_neg h]
    rcases Nat.lt_or_ge j a.length with h1 | h1
    · rw [getD_out (a := b) (by omega)]; simp
    · rw [getD_out (a := a) h1]; simp
theorem orP_getD (a b : List Nat) (j : Nat) : (orP a b).getD j 0 = a.getD j 0 ||| b.getD j 0 := by
  rw [orP, getD_map_range]
  by_cases h : j < max a.length b.length
  · rw [if_pos h]
  · rw [if_neg h, getD_out (a := a) (by omega), getD_out (a := b) (by omega)]; rfl
theorem andP_has (a b : List Nat) (i : Nat) : hasB (andP a b) i = (hasB a i && hasB b i) := by
  rw [hasB_test, hasB_test, hasB_test, andP_getD, Nat.testBit_and]
theorem orP_has (a b : List Nat) (i : Nat) : hasB (orP a b) i = (hasB a i || hasB b i) := by
  rw [hasB_test, hasB_test, hasB_test, orP_getD, Nat.testBit_or]
theorem andP_words {a b : List Nat} (ha : Words a) : Words (andP a b) := words_of fun k _ => by
  rw [andP_getD]; exact Nat.lt_of_le_of_lt Nat.and_le_left (ha.getD k)
theorem orP_words {a b : List Nat} (ha : Words a) (hb : Words b) : Words (orP a b) := words_of fun k _ => by
  rw [orP_getD]; exact Nat.or_lt_two_pow (n := 64) (ha.getD k) (hb.getD k)
theorem andF_has (i : Nat) : ∀ (rs : List (List Nat)) (r : List Nat), hasB (rs.foldl andP r) i = (hasB r i && rs.all fun x => hasB x i)
  | [], r => by simp
  | x :: rs, r => by rw [List.foldl_cons, andF_has i rs, andP_has, List.all_cons, Bool.and_assoc]
theorem orF_has (i : Nat) : ∀ (rs : List (List Nat)) (r : List Nat), hasB (rs.foldl orP r) i = (hasB r i || rs.any fun x => hasB x i)
  | [], r => by simp
  | x :: rs, r => by rw [List.foldl_cons, orF_has i rs, orP_has, List.any_cons, Bool.or_assoc]
theorem andF_words : ∀ (rs : List (List Nat)) (r : List Nat), Words r → Words (rs.foldl andP r)
  | [], r, h => h
  | x :: rs, r, h => by rw [List.foldl_cons]; exact andF_words rs _ (andP_words h)
theorem orF_words : ∀ (rs : List (List Nat)) (r : List Nat), Words r → (∀ x ∈ rs, Words x) → Words (rs.foldl orP r)
  | [], r, h, _ => h
  | x :: rs, r, h, hs => by
    rw [List.foldl_cons]
    exact orF_words rs _ (orP_words h (hs x (by simp))) fun y hy => hs y (by simp [hy])
theorem andF_length : ∀ (rs : List (List Nat)) (r : List Nat), (rs.foldl andP r).length = rs.foldl (fun n x => min n x.length) r.length
  | [], r => rfl
  | x :: rs, r => by rw [List.foldl_cons, andF_length rs, andP_length, List.foldl_cons]
theorem orF_length : ∀ (rs : List (List Nat)) (r : List Nat), (rs.foldl orP r).length = rs.foldl (fun n x => max n x.length) r.length
  | [], r => rfl
  | x :: rs, r => by rw [List.foldl_cons, orF_length rs, orP_length, List.foldl_cons]
theorem orR_words {rs : List (List Nat)} (h : ∀ x ∈ rs, Words x) : Words (orR rs) := orF_words rs [] (by simp [Words]) h
theorem andR_words {rs : List (List Nat)} (h : ∀ x ∈ rs, Words x) : Words (andR rs) := by
  cases rs with
  | nil => simp [andR, Words]
  | cons r rs => exact andF_words rs r (h r (by simp))
theorem orR_has (rs : List (List Nat)) (i : Nat) : hasB (orR rs) i = rs.any fun x => hasB x i := by
  rw [orR, orF_has, hasB_out (by simp)]; simp
theorem maxL_le (B : Nat) : ∀ (rs : List (List Nat)) (n : Nat), n ≤ B → (∀ x ∈ rs, x.length ≤ B) → rs.foldl (fun n x => max n x.length) n ≤ B
  | [], n, h, _ => h
  | x :: rs, n, h, hs => by
    rw [List.foldl_cons]
    have := hs x (by simp)
    exact maxL_le B rs _ (by omega) fun y hy => hs y (by simp [hy])
theorem minL_le : ∀ (rs : List (List Nat)) (n : Nat), rs.foldl (fun n x => min n x.length) n ≤ n
  | [], n => Nat.le_refl _
  | x :: rs, n => by
    rw [List.foldl_cons]
    have := minL_le rs (min n x.length)
    omega

/-! ### One more bit set -/
theorem setR_nat {ws : List Nat} {k : Nat} (h : k / 64 < ws.length) : setR ws (k : Int) = ws.set (k / 64) (ws.getD (k / 64) 0 ||| 2 ^ (k % 64)) := by
  have : insR ws.length (k : Int) = true := by simp [insR, h]
  simp only [setR, this, if_true, Int.toNat_natCast]
theorem setR_has {ws : List Nat} {k : Nat} (h : k / 64 < ws.length) (j : Nat) : hasB (setR ws (k : Int)) j = (hasB ws j || decide (j = k)) := by
  rw [setR_nat h, hasB_test, hasB_test, set_getD]
  by_cases e : k / 64 = j / 64
  · rw [if_pos ⟨e, by omega⟩, e, Nat.testBit_or, Nat.testBit_two_pow]
    congr 1
    rw [decide_eq_decide]; omega
  · rw [if_neg (by omega)]
    have : ¬ (j = k) := by omega
    simp [this]

/-- The rows that a slice of slices holds. -/
def RowsOf (h : Heap) (d : D) (rs : List (List Nat)) : Prop :=
  ∃ ds, SlOf h 1 d ds rs.length ∧ ∀ k, k < rs.length → ∃ e, ds[k]? = some e ∧ SlOf h 1 e (u64s (rs.getD k [])) (rs.getD k []).length
theorem RowsOf.low {h : Heap} {d : D} {rs : List (List Nat)} (hr : RowsOf h d rs) (L : Heap) : RowsOf (h ++ L) d rs := by
  obtain ⟨ds, h1, h2⟩ := hr
  refine ⟨ds, h1.low L, fun k hk => ?_⟩
  obtain ⟨e, h3, h4⟩ := h2 k hk
  exact ⟨e, h3, h4.low L⟩
theorem RowsOf.elem {h : Heap} {d : D} {rs : List (List Nat)} (hr : RowsOf h d rs) {k : Nat} (hk : k < rs.length) :
    ∃ p cs e, elemAddr h 1 d (.int .i64 (k : Int)) = some p ∧ ptrCells h p = some cs ∧ cs[0]? = some e ∧ SlOf h 1 e (u64s (rs.getD k [])) (rs.getD k []).length := by
  obtain ⟨ds, h1, h2⟩ := hr
  obtain ⟨e, h3, h4⟩ := h2 k hk
  obtain ⟨p, cs, q1, q2, q3⟩ := h1.elem (k := .i64) (i := (k : Int)) (by omega) (by omega)
  refine ⟨p, cs, e, q1, q2, ?_, h4⟩
  rw [q3 0 (by omega), show ((k : Int).toNat * 1 + 0) = k by omega, h3]
end Go.Proofs
