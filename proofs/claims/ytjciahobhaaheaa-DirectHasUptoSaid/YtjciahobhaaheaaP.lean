/-
  Own work. Tables of wishes: plain laws, and how a table lies in memory.
-/
import Derived.Test.YtjciahobhaaheaaN
namespace Go.Proofs
open Go Go.Ytjciahobhaaheaa
set_option linter.unusedVariables false
set_option linter.unusedSimpArgs false
set_option maxRecDepth 10000


def ints (l : List Int) : List D := l.map (D.int .i64)
theorem ints_length (l : List Int) : (ints l).length = l.length := by simp [ints]
theorem ints_get {l : List Int} {k : Nat} (h : k < l.length) : (ints l)[k]? = some (.int .i64 (l.getD k 0)) := by
  simp [ints, List.getD_eq_getElem?_getD, List.getElem?_eq_getElem h]
/-- Numbers that fit. -/
def Fits (l : List Int) : Prop := ∀ x ∈ l, -9223372036854775808 ≤ x ∧ x < 9223372036854775808
theorem Fits.getD {l : List Int} (h : Fits l) (k : Nat) : -9223372036854775808 ≤ l.getD k 0 ∧ l.getD k 0 < 9223372036854775808 := by
  rw [List.getD_eq_getElem?_getD]
  cases e : l[k]? with
  | none => simp
  | some w => exact h w (List.mem_of_getElem? e)

/-- Which of the first k have it. -/
def idxs (l : List Int) (p : Int → Bool) (k : Nat) : List Nat := (List.range k).filter fun i => p (l.getD i 0)
theorem idxs_succ (l : List Int) (p : Int → Bool) (k : Nat) : idxs l p (k + 1) = idxs l p k ++ if p (l.getD k 0) then [k] else [] := by
  unfold idxs
  rw [List.range_succ, List.filter_append]
  congr 1
  cases h : p (l.getD k 0) <;> simp only [List.filter_cons, h, List.filter_nil] <;> rfl
theorem idxs_mem {l : List Int} {p : Int → Bool} {k x : Nat} : x ∈ idxs l p k ↔ x < k ∧ p (l.getD x 0) = true := by
  simp [idxs, List.mem_filter, List.mem_range]
theorem idxs_le (l : List Int) (p : Int → Bool) (k : Nat) : (idxs l p k).length ≤ k := by
  have := List.length_filter_le (fun i => p (l.getD i 0)) (List.range k)
  simpa [idxs] using this
def qOf (l : List Int) : Nat := (l.length + 63) / 64
def rowP (l : List Int) (p : Int → Bool) (k : Nat) : List Nat := putL (qOf l) (idxs l p k)
theorem rowP_length (l : List Int) (p : Int → Bool) (k : Nat) : (rowP l p k).length = qOf l := putL_length _ _
theorem rowP_words (l : List Int) (p : Int → Bool) (k : Nat) : Words (rowP l p k) := putL_words _ _
theorem rowP_yes {l : List Int} {p : Int → Bool} {k : Nat} (hk : k < l.length) (h : p (l.getD k 0) = true) : rowP l p (k + 1) = (rowP l p k).set (k / 64) ((rowP l p k).getD (k / 64) 0 ||| 2 ^ (k % 64)) := by
  unfold rowP
  rw [idxs_succ, h, if_pos rfl, putL_nat _ _ _ (by unfold qOf; omega)]
theorem rowP_no {l : List Int} {p : Int → Bool} {k : Nat} (h : p (l.getD k 0) = false) : rowP l p (k + 1) = rowP l p k := by
  unfold rowP
  rw [idxs_succ, h]; simp
theorem rowP_none {l : List Int} {p : Int → Bool} {k : Nat} (h : ∀ i < k, p (l.getD i 0) = false) : rowP l p k = List.replicate (qOf l) 0 := by
  unfold rowP
  have : idxs l p k = [] := by
    rw [List.eq_nil_iff_forall_not_mem]
    intro x hx
    obtain ⟨h1, h2⟩ := idxs_mem.1 hx
    rw [h x h1] at h2; cases h2
  rw [this]; rfl
theorem rowP_has {l : List Int} {p : Int → Bool} {k : Nat} (hk : k ≤ l.length) (j : Nat) : hasB (rowP l p k) j = decide (j < k ∧ p (l.getD j 0) = true) := by
  rw [rowP, putL, putF_has j _ _ (by intro x hx; rw [List.length_replicate]; have := (idxs_mem.1 hx).1; unfold qOf; omega), zero_has, Bool.false_or]
  exact decide_eq_decide.2 idxs_mem

/-- What is wrong with wishes. -/
def chkF (l : List Int) (most : Int) : Int × Int :=
  if most < 0 ∨ 65535 < most then (1, 0) else if 256 < l.length then (7, 256) else
    match (List.range l.length).find? (fun i => decide (l.getD i 0 < -1 ∨ most < l.getD i 0)) with
    | some i => (1, (i : Int))
    | none => (0, 0)
theorem chkF_bad {l : List Int} {most : Int} (h1 : ¬ (most < 0 ∨ 65535 < most)) (h2 : ¬ 256 < l.length) {k : Nat} (hk : k < l.length) (hb : l.getD k 0 < -1 ∨ most < l.getD k 0) (hp : ∀ j < k, ¬ (l.getD j 0 < -1 ∨ most < l.getD j 0)) : chkF l most = (1, (k : Int)) := by
  unfold chkF
  rw [if_neg h1, if_neg h2]
  have : (List.range l.length).find? (fun i => decide (l.getD i 0 < -1 ∨ most < l.getD i 0)) = some k := by
    rw [List.find?_range_eq_some]
    exact ⟨by simpa using hb, by simpa using hk, fun j hj => by simpa using hp j hj⟩
  rw [this]
theorem chkF_good {l : List Int} {most : Int} (h1 : ¬ (most < 0 ∨ 65535 < most)) (h2 : ¬ 256 < l.length) (hp : ∀ j < l.length, ¬ (l.getD j 0 < -1 ∨ most < l.getD j 0)) : chkF l most = (0, 0) := by
  unfold chkF
  rw [if_neg h1, if_neg h2]
  have : (List.range l.length).find? (fun i => decide (l.getD i 0 < -1 ∨ most < l.getD i 0)) = none := by
    rw [List.find?_eq_none]
    intro j hj
    simpa using hp j (by simpa using hj)
  rw [this]

/-! ### The table in memory -/
def mapOf (ks : List (Nat × Nat)) (q : Nat) : List (D × D) := ks.map fun e => (.int .i64 (e.1 : Int), .own e.2 q)
structure TabAt (Hp : Heap) (T M ra : Nat) (ks : List (Nat × Nat)) (l : List Int) (most : Int) (k : Nat) : Prop where
  box : Hp[T]? = some (.box [.int .i64 most, .int .i64 (l.length : Int), .own ra (qOf l), .mref M])
  map : Hp[M]? = some (.mapb (mapOf ks (qOf l)))
  any : Hp[ra]? = some (.grow 1 (u64s (rowP l (fun x => x == -1) k)) (qOf l))
  own : ∀ e ∈ ks, Hp[e.2]? = some (.grow 1 (u64s (rowP l (fun x => x == (e.1 : Int)) k)) (qOf l))
  ane : ∀ e ∈ ks, e.2 ≠ ra
  blks : (ks.map (·.2)).Nodup
  keys : (ks.map (·.1)).Nodup
def MemOk (ks : List (Nat × Nat)) (l : List Int) (k : Nat) : Prop := ∀ n : Nat, n ∈ ks.map (·.1) ↔ ∃ i, i < k ∧ l.getD i 0 = (n : Int)
def TabOk (Hp : Heap) (T : Nat) (l : List Int) (most : Int) : Prop := ∃ M ra ks, TabAt Hp T M ra ks l most l.length ∧ MemOk ks l l.length
theorem TabAt.ext {Hp Hp' : Heap} {T M ra : Nat} {ks : List (Nat × Nat)} {l : List Int} {most : Int} {k : Nat} (t : TabAt Hp T M ra ks l most k) (e : Ext Hp Hp') : TabAt Hp' T M ra ks l most k :=
  ⟨e.get t.box, e.get t.map, e.get t.any, fun x hx => e.get (t.own x hx), t.ane, t.blks, t.keys⟩
theorem TabOk.ext {Hp Hp' : Heap} {T : Nat} {l : List Int} {most : Int} (t : TabOk Hp T l most) (e : Ext Hp Hp') : TabOk Hp' T l most := by
  obtain ⟨M, ra, ks, h1, h2⟩ := t
  exact ⟨M, ra, ks, h1.ext e, h2⟩
theorem find_no (n q : Nat) : ∀ (ks : List (Nat × Nat)) (i : Nat), n ∉ ks.map (·.1) → findM .i64 (n : Int) (mapOf ks q) i = some none
  | [], i, _ => rfl
  | e :: ks, i, h => by
    simp only [List.map_cons, List.mem_cons, not_or] at h
    have hne : ¬ ((n : Int) = (e.1 : Int)) := by have := h.1; omega
    simp only [mapOf, List.map_cons, findM, if_true, if_neg hne]
    exact find_no n q ks (i + 1) h.2
theorem find_yes (n r q : Nat) : ∀ (ks : List (Nat × Nat)) (i : Nat), (ks.map (·.1)).Nodup → (n, r) ∈ ks → ∃ j, findM .i64 (n : Int) (mapOf ks q) i = some (some (j, .own r q))
  | [], i, _, h => by cases h
  | e :: ks, i, hn, h => by
    rw [List.map_cons, List.nodup_cons] at hn
    by_cases he : n = e.1
    · have : e = (n, r) := by
        rcases List.mem_cons.1 h with h | h
        · exact h.symm
        · exfalso
          apply hn.1
          rw [← he]
          exact List.mem_map.2 ⟨(n, r), h, rfl⟩
      subst this
      exact ⟨i, by simp [mapOf, findM]⟩
    · have hne : ¬ ((n : Int) = (e.1 : Int)) := by omega
      have hm : (n, r) ∈ ks := by
        rcases List.mem_cons.1 h with h | h
        · exact absurd (congrArg (·.1) h) he
        · exact h
      obtain ⟨j, hj⟩ := find_yes n r q ks (i + 1) hn.2 hm
      refine ⟨j, ?_⟩
      simp only [mapOf, List.map_cons, findM, if_true, if_neg hne]
      exact hj
theorem grow_ne {Hp : Heap} {r s : Nat} {b b' : Blk} (h1 : Hp[r]? = some b) (h2 : Hp[s]? = some b') (hb : b ≠ b') : r ≠ s := by
  rintro rfl
  rw [h1] at h2
  exact hb (Option.some.inj h2)
theorem get_set_ne' {Hp : Heap} {r s : Nat} {b b' : Blk} (hn : r ≠ s) (h : Hp[s]? = some b) : (Hp.set r b')[s]? = some b := by
  rw [List.getElem?_set_ne hn]; exact h
theorem get_set_eq' {Hp : Heap} {r : Nat} {b b' : Blk} (h : Hp[r]? = some b) : (Hp.set r b')[r]? = some b' := by
  rw [List.getElem?_set_self (lt_of_get h)]
theorem set_same' {Hp : Heap} {r : Nat} {b : Blk} (h : Hp[r]? = some b) : Hp.set r b = Hp := by
  apply List.ext_getElem?
  intro i
  by_cases e : r = i
  · subst e
    rw [List.getElem?_set_self (lt_of_get h), h]
  · rw [List.getElem?_set_ne e]

section
variable {Hp : Heap} {T M ra : Nat} {ks : List (Nat × Nat)} {l : List Int} {most : Int} {k : Nat}
theorem TabAt.step_any (t : TabAt Hp T M ra ks l most k) (hk : k < l.length) (hv : l.getD k 0 = -1) :
    TabAt (Hp.set ra (.grow 1 (u64s (rowP l (fun x => x == -1) (k + 1))) (qOf l))) T M ra ks l most (k + 1) := by
  refine ⟨get_set_ne' (grow_ne t.any t.box (by simp)) t.box, get_set_ne' (grow_ne t.any t.map (by simp)) t.map, get_set_eq' t.any, fun e he => ?_, t.ane, t.blks, t.keys⟩
  rw [rowP_no (p := fun x => x == (e.1 : Int)) (beq_eq_false_iff_ne.2 (by rw [hv]; omega))]
  exact get_set_ne' (Ne.symm (t.ane e he)) (t.own e he)
theorem nodup_snd {e e' : Nat × Nat} : ∀ {ks : List (Nat × Nat)}, (ks.map (·.2)).Nodup → e ∈ ks → e' ∈ ks → e.2 = e'.2 → e = e'
  | x :: ks, hn, h1, h2, he => by
    rw [List.map_cons, List.nodup_cons] at hn
    rcases List.mem_cons.1 h1 with h3 | h3 <;> rcases List.mem_cons.1 h2 with h4 | h4
    · rw [h3, h4]
    · exact absurd (by rw [← h3, he]; exact List.mem_map.2 ⟨e', h4, rfl⟩) hn.1
    · exact absurd (by rw [← h4, ← he]; exact List.mem_map.2 ⟨e, h3, rfl⟩) hn.1
    · exact nodup_snd hn.2 h3 h4 he
theorem nodup_fst {e e' : Nat × Nat} : ∀ {ks : List (Nat × Nat)}, (ks.map (·.1)).Nodup → e ∈ ks → e' ∈ ks → e.1 = e'.1 → e = e'
  | x :: ks, hn, h1, h2, he => by
    rw [List.map_cons, List.nodup_cons] at hn
    rcases List.mem_cons.1 h1 with h3 | h3 <;> rcases List.mem_cons.1 h2 with h4 | h4
    · rw [h3, h4]
    · exact absurd (by rw [← h3, he]; exact List.mem_map.2 ⟨e', h4, rfl⟩) hn.1
    · exact absurd (by rw [← h4, ← he]; exact List.mem_map.2 ⟨e, h3, rfl⟩) hn.1
    · exact nodup_fst hn.2 h3 h4 he
theorem TabAt.step_own (t : TabAt Hp T M ra ks l most k) (hk : k < l.length) {n r : Nat} (hm : (n, r) ∈ ks) (hv : l.getD k 0 = (n : Int)) :
    TabAt (Hp.set r (.grow 1 (u64s (rowP l (fun x => x == (n : Int)) (k + 1))) (qOf l))) T M ra ks l most (k + 1) := by
  have hr := t.own _ hm
  refine ⟨get_set_ne' (grow_ne hr t.box (by simp)) t.box, get_set_ne' (grow_ne hr t.map (by simp)) t.map, ?_, fun e he => ?_, t.ane, t.blks, t.keys⟩
  · rw [rowP_no (p := fun x => x == -1) (beq_eq_false_iff_ne.2 (by rw [hv]; omega))]
    exact get_set_ne' (t.ane _ hm) t.any
  · by_cases hee : e.2 = r
    · have : e = (n, r) := nodup_snd t.blks he hm hee
      subst this
      exact get_set_eq' hr
    · rw [rowP_no (p := fun x => x == (e.1 : Int)) (beq_eq_false_iff_ne.2 (by
        rw [hv]
        have : ¬ n = e.1 := fun h => hee (congrArg (·.2) (nodup_fst t.keys he hm h.symm))
        omega))]
      exact get_set_ne' (Ne.symm hee) (t.own e he)
theorem TabAt.add (t : TabAt Hp T M ra ks l most k) {n : Nat} (hn : n ∉ ks.map (·.1)) (hz : ∀ i < k, ¬ l.getD i 0 = (n : Int)) :
    TabAt (Hp.set M (.mapb (mapOf (ks ++ [(n, Hp.length)]) (qOf l))) ++ [.grow 1 (u64s (List.replicate (qOf l) 0)) (qOf l)]) T M ra (ks ++ [(n, Hp.length)]) l most k := by
  have ex : ∀ {r : Nat} {b : Blk}, M ≠ r → Hp[r]? = some b → (Hp.set M (.mapb (mapOf (ks ++ [(n, Hp.length)]) (qOf l))) ++ [.grow 1 (u64s (List.replicate (qOf l) 0)) (qOf l)])[r]? = some b := fun hne hb => by
    rw [List.getElem?_append_left (by rw [List.length_set]; exact lt_of_get hb)]
    exact get_set_ne' hne hb
  have hlt : ∀ e ∈ ks, e.2 < Hp.length := fun e he => lt_of_get (t.own e he)
  refine ⟨ex (grow_ne t.map t.box (by simp)) t.box, ?_, ex (grow_ne t.map t.any (by simp)) t.any, fun e he => ?_, fun e he => ?_, ?_, ?_⟩
  · rw [List.getElem?_append_left (by rw [List.length_set]; exact lt_of_get t.map)]
    exact get_set_eq' t.map
  · rcases List.mem_append.1 he with he | he
    · exact ex (grow_ne t.map (t.own e he) (by simp)) (t.own e he)
    · simp only [List.mem_singleton] at he
      subst he
      rw [rowP_none (fun i hi => by simpa using hz i hi)]
      rw [List.getElem?_append_right (by rw [List.length_set]; exact Nat.le_refl _), List.length_set, Nat.sub_self]; rfl
  · rcases List.mem_append.1 he with he | he
    · exact t.ane e he
    · simp only [List.mem_singleton] at he
      subst he
      have := lt_of_get t.any
      simp only; omega
  · rw [List.map_append, List.nodup_append]
    refine ⟨t.blks, by simp, fun a ha b hb => ?_⟩
    obtain ⟨e, he, rfl⟩ := List.mem_map.1 ha
    simp only [List.map_cons, List.map_nil, List.mem_singleton] at hb
    have := hlt e he
    omega
  · rw [List.map_append, List.nodup_append]
    refine ⟨t.keys, by simp, fun a ha b hb => ?_⟩
    simp only [List.map_cons, List.map_nil, List.mem_singleton] at hb
    rintro rfl
    rw [hb] at ha
    exact hn ha
end

/-- A row of so many bits is one that was made here. -/
theorem newOwn_fc (h : Heap) (k : Nat) (hk : k ≤ 65536) : FC Try.prog 21 [.int .i64 (k : Int)] h fun d h' => d = .own h.length ((k + 63) / 64) ∧ h' = h ++ [.grow 1 (u64s (List.replicate ((k + 63) / 64) 0)) ((k + 63) / 64)] := by
  refine FC.goes cf21 ?_; simp only [c21]; simp only [List.length_cons, List.length_nil, Nat.reduceAdd, Nat.reduceSub, List.replicate_succ, List.replicate_zero, List.cons_append, List.nil_append]
  have hn : ¬ (k : Int) < 0 := by omega
  have hg : ¬ (65536 : Int) < k := by omega
  have e1 : IntKind.i64.wrap ((k : Int) + 64) = ((k + 64 : Nat) : Int) := by rw [w_i64 (by omega) (by omega)]; omega
  have e2 : IntKind.i64.wrap (((k + 64 : Nat) : Int) - 1) = ((k + 63 : Nat) : Int) := by rw [w_i64 (by omega) (by omega)]; omega
  have e3 : IntKind.i64.wrap (((k + 63) / 64 : Nat) : Int) = (((k + 63) / 64 : Nat) : Int) := w_i64 (by omega) (by omega)
  have e4 : (k + 63) / 64 ≤ 1025 := by omega
  have e5 : (0 : Int) ≤ (((k + 63) / 64 : Nat) : Int) := by omega
  have e6 : (((k + 63) / 64 : Nat) : Int) ≤ 1073741824 := by omega
  simp (disch := first | omega | (simp only [List.length_append, List.length_cons, List.length_nil]; omega)) only [c21r0, c21r1, c21r2, c21r3, hn, hg, e1, e2, e3, e5, e6, e4, go_sem, ↓reduceIte, reduceCtorEq, Nat.reduceAdd, Nat.reduceSub, Nat.reducePow, Nat.reduceMul, Nat.reduceEqDiff, Nat.reduceLT, Nat.reduceLeDiff, Int.reduceToNat, Int.reduceLT, Int.reduceLE, Int.reduceEq, Int.reduceNeg, Int.reduceAdd, Int.reduceSub, Int.reduceMul]
  have e7 : (List.replicate ((k + 63) / 64) [D.int .u64 0]).flatten = u64s (List.replicate ((k + 63) / 64) 0) := by
    rw [u64s, List.map_replicate]
    generalize (k + 63) / 64 = q
    induction q with
    | zero => rfl
    | succ q ih => rw [List.replicate_succ, List.flatten_cons, ih, List.replicate_succ]; rfl
  rw [e7]
  exact FinOk.all ⟨rfl, rfl⟩
end Go.Proofs
