/-
  Own work. The plain laws of dotted: what is printed is read.
-/
import Derived.Test.YtgokcidfclghpaaD
namespace Go.Proofs
open Go Go.Ytgokcidfclghpaa
set_option linter.unusedVariables false
set_option linter.unusedSimpArgs false

theorem four {α : Type} {l : List α} (h : l.length = 4) : ∃ a b c d, l = [a, b, c, d] := by
  match l, h with
  | [a, b, c, d], _ => exact ⟨a, b, c, d, rfl⟩
theorem u8_eq {a : UInt8} {n : Nat} (h : n % 256 = a.toNat) : UInt8.ofNat n = a := by
  apply UInt8.toNat_inj.1; simp [h]
theorem ofF_beF {l : List UInt8} (h : l.length = 4) : ofF (beF l) = l := by
  obtain ⟨a, b, c, d, rfl⟩ := four h
  have := a.toNat_lt; have := b.toNat_lt; have := c.toNat_lt; have := d.toNat_lt
  simp only [ofF, beF, List.foldl_cons, List.foldl_nil, List.cons.injEq, and_true]
  refine ⟨u8_eq ?_, u8_eq ?_, u8_eq ?_, u8_eq ?_⟩ <;> omega
theorem beF_ofF {n : Nat} (h : n < 4294967296) : beF (ofF n) = n := by
  simp only [ofF, beF, List.foldl_cons, List.foldl_nil, UInt8.toNat_ofNat']
  omega

/-- Parts, with dots between. -/
def jn : List UInt8 → List UInt8
  | [] => []
  | [b] => decF b.toNat
  | b :: l => decF b.toNat ++ 46 :: jn l
theorem printF_jn {l : List UInt8} (h : l.length = 4) : printF l = jn l := by
  obtain ⟨a, b, c, d, rfl⟩ := four h
  simp [printF, prK, jn]

/-- Digits as they may stand. -/
def canon (d : List UInt8) : Prop := d.all isDig = true ∧ 0 < d.length ∧ d.length ≤ 3 ∧ (1 < d.length → ¬ d.getD 0 0 = 48)
theorem isDig_of {b : UInt8} (h : 48 ≤ b.toNat) (h' : b.toNat ≤ 57) : isDig b = true := by simp [isDig, h, h']
theorem dig_of {n : Nat} (h : n < 10) : isDig (UInt8.ofNat (48 + n)) = true ∧ (UInt8.ofNat (48 + n)).toNat = 48 + n := by
  have e : (UInt8.ofNat (48 + n)).toNat = 48 + n := by simp; omega
  exact ⟨isDig_of (by omega) (by omega), e⟩
theorem decF_canon {n : Nat} (h : n < 1000) : canon (decF n) ∧ digF (decF n) = n := by
  by_cases h1 : n < 10
  · rw [decF_lt h1]
    obtain ⟨a1, a2⟩ := dig_of h1
    refine ⟨⟨by simp only [List.all_cons, List.all_nil, a1, Bool.and_self], by simp, by simp, by simp⟩, ?_⟩
    simp only [digF, List.foldl_cons, List.foldl_nil, a2]; omega
  rw [decF_ge h1]
  by_cases h2 : n / 10 < 10
  · rw [decF_lt h2]
    obtain ⟨a1, a2⟩ := dig_of h2
    obtain ⟨b1, b2⟩ := dig_of (Nat.mod_lt n (show 0 < 10 by decide))
    refine ⟨⟨by simp only [List.cons_append, List.nil_append, List.all_cons, List.all_nil, a1, b1, Bool.and_self], by simp, by simp, fun _ => ?_⟩, ?_⟩
    · intro e
      have e : UInt8.ofNat (48 + n / 10) = 48 := e
      rw [e] at a2; have : (48 : UInt8).toNat = 48 := rfl; omega
    · simp only [digF, List.cons_append, List.nil_append, List.foldl_cons, List.foldl_nil, a2, b2]; omega
  · rw [decF_ge h2, decF_lt (show n / 10 / 10 < 10 by omega)]
    obtain ⟨a1, a2⟩ := dig_of (show n / 10 / 10 < 10 by omega)
    obtain ⟨b1, b2⟩ := dig_of (Nat.mod_lt (n / 10) (show 0 < 10 by decide))
    obtain ⟨c1, c2⟩ := dig_of (Nat.mod_lt n (show 0 < 10 by decide))
    refine ⟨⟨by simp only [List.cons_append, List.nil_append, List.all_cons, List.all_nil, a1, b1, c1, Bool.and_self], by simp, by simp, fun _ => ?_⟩, ?_⟩
    · intro e
      have e : UInt8.ofNat (48 + n / 10 / 10) = 48 := e
      rw [e] at a2; have : (48 : UInt8).toNat = 48 := rfl; omega
    · simp only [digF, List.cons_append, List.nil_append, List.foldl_cons, List.foldl_nil, a2, b2, c2]; omega
theorem decF_digF {d : List UInt8} (h : canon d) : decF (digF d) = d := by
  obtain ⟨h1, h2, h3, h4⟩ := h
  match d, h2, h3 with
  | [x], _, _ =>
    have hx := isDig_ge (b := x) (by simpa using h1)
    simp only [digF, List.foldl_cons, List.foldl_nil]
    rw [decF_lt (by omega), u8_eq]
    omega
  | [x, y], _, _ =>
    simp only [List.all_cons, List.all_nil, Bool.and_true, Bool.and_eq_true] at h1
    have hx := isDig_ge h1.1
    have hy := isDig_ge h1.2
    have h4 : ¬ x = 48 := h4 (by simp)
    have hx0 : ¬ x.toNat = 48 := fun e => h4 (UInt8.toNat_inj.1 e)
    simp only [digF, List.foldl_cons, List.foldl_nil]
    rw [decF_ge (by omega), decF_lt (by omega), u8_eq (a := x) (by omega), u8_eq (a := y) (by omega)]
    rfl
  | [x, y, z], _, _ =>
    simp only [List.all_cons, List.all_nil, Bool.and_true, Bool.and_eq_true] at h1
    have hx := isDig_ge h1.1
    have hy := isDig_ge h1.2.1
    have hz := isDig_ge h1.2.2
    have h4 : ¬ x = 48 := h4 (by simp)
    have hx0 : ¬ x.toNat = 48 := fun e => h4 (UInt8.toNat_inj.1 e)
    simp only [digF, List.foldl_cons, List.foldl_nil]
    rw [decF_ge (by omega), decF_ge (by omega), decF_lt (by omega), u8_eq (a := x) (by omega), u8_eq (a := y) (by omega), u8_eq (a := z) (by omega)]
    rfl

theorem tw_app {p : UInt8 → Bool} : ∀ {d r : List UInt8}, d.all p = true → (r = [] ∨ p (r.getD 0 0) = false) → (d ++ r).takeWhile p = d
  | [], [], _, _ => rfl
  | [], b :: r, _, h => by
    have h : p b = false := by simpa using h
    simp [h]
  | a :: d, r, h1, h => by
    simp only [List.all_cons, Bool.and_eq_true] at h1
    simp only [List.cons_append, List.takeWhile_cons, h1.1, if_true]
    rw [tw_app h1.2 h]
theorem numF_app {d r : List UInt8} (hd : canon d) (hr : r = [] ∨ isDig (r.getD 0 0) = false) : numF (d ++ r) = (digF d, r, true) := by
  unfold numF
  simp only [tw_app hd.1 hr]
  rw [if_neg]
  · simp [hd.2.1]
  · rintro (h | ⟨h1, h2⟩)
    · have := hd.2.2.1; omega
    · exact hd.2.2.2 h1 h2
theorem tw_pre {p : UInt8 → Bool} : ∀ s : List UInt8, s = s.takeWhile p ++ s.drop (s.takeWhile p).length ∧ (s.takeWhile p).all p = true
  | [] => by simp
  | b :: s => by
    by_cases h : p b = true
    · have ih := tw_pre (p := p) s
      simp only [List.takeWhile_cons, h, if_true, List.cons_append, List.length_cons, List.drop_succ_cons, List.all_cons, Bool.true_and]
      exact ⟨by rw [← ih.1], ih.2⟩
    · simp [h]
theorem numF_back {s : List UInt8} (h : (numF s).2.2 = true) : ∃ d, canon d ∧ s = d ++ (numF s).2.1 ∧ (numF s).1 = digF d := by
  unfold numF at h ⊢
  simp only [] at h ⊢
  split at h
  · simp at h
  · rename_i hc
    rw [if_neg hc]
    have hp := tw_pre (p := isDig) s
    refine ⟨s.takeWhile isDig, ⟨hp.2, by simpa using h, ?_, ?_⟩, hp.1, rfl⟩
    · exact Nat.le_of_not_lt fun h => hc (.inl h)
    · exact fun h1 h2 => hc (.inr ⟨h1, h2⟩)

theorem pStep_fwd : ∀ (l a : List UInt8) (r : List UInt8), 0 < l.length → (r = [] ∨ isDig (r.getD 0 0) = false) → pStep l.length a 0 (jn l ++ r) = some (a ++ l, 0, r)
  | [b], a, r, _, hr => by
    obtain ⟨hc, hv⟩ := decF_canon (n := b.toNat) (by have := b.toNat_lt; omega)
    show pStep (0 + 1) a 0 (decF b.toNat ++ r) = _
    rw [pS, numF_app hc hr]
    simp [hv]
    have := b.toNat_lt; omega
  | b :: c :: l, a, r, _, hr => by
    obtain ⟨hc, hv⟩ := decF_canon (n := b.toNat) (by have := b.toNat_lt; omega)
    have hlt := b.toNat_lt
    have hd : isDig ((46 :: (jn (c :: l) ++ r)).getD 0 0) = false := by rfl
    show pStep ((c :: l).length + 1) a 0 ((decF b.toNat ++ 46 :: jn (c :: l)) ++ r) = _
    rw [List.append_assoc, List.cons_append, pS, numF_app hc (.inr hd)]
    have ih := pStep_fwd (c :: l) (a ++ [b]) r (by simp) hr
    rw [if_neg (by simp), if_neg (by simp), if_neg (by simp), if_pos (by rfl), hv, if_neg (by omega)]
    simp only [List.drop_succ_cons, List.drop_zero, UInt8.ofNat_toNat]
    rw [ih]
    simp

theorem pStep_one : ∀ (k : Nat) (a : List UInt8) (s a' : List UInt8) (e' : Int) (r : List UInt8), pStep k a 1 s = some (a', e', r) → e' = 1
  | 0, a, s, a', e', r, h => by simp [pStep] at h; exact h.2.1.symm
  | k + 1, a, s, a', e', r, h => by
    rw [pS] at h
    split at h
    · cases h
    · split at h
      · simp at h; exact h.2.1.symm
      · split at h
        · cases h
        · split at h
          · have e : (if 255 < (numF s).1 then (1 : Int) else 1) = 1 := by split <;> rfl
            rw [e] at h
            exact pStep_one k _ _ _ _ _ h
          · cases h

theorem pStep_back : ∀ (k : Nat) (a s a' r : List UInt8), pStep (k + 1) a 0 s = some (a', 0, r) → ∃ l, l.length = k + 1 ∧ a' = a ++ l ∧ s = jn l ++ r := by
  intro k
  induction k with
  | zero =>
    intro a s a' r h
    rw [pS] at h
    split at h
    · cases h
    · rename_i hb
      obtain ⟨d, hc, hs, hv⟩ := numF_back (s := s) (by simpa using hb)
      simp only [if_true, Option.some.injEq, Prod.mk.injEq] at h
      obtain ⟨h1, h2, h3⟩ := h
      have hle : ¬ 255 < (numF s).1 := by intro hh; rw [if_pos hh] at h2; simp at h2
      refine ⟨[UInt8.ofNat (numF s).1], rfl, h1.symm, ?_⟩
      rw [← h3]
      show s = decF (UInt8.ofNat (numF s).1).toNat ++ _
      rw [UInt8.toNat_ofNat_of_lt' (by show _ < 256; omega), hv, decF_digF hc]
      exact hs
  | succ k ih =>
    intro a s a' r h
    rw [pS] at h
    split at h
    · cases h
    · rename_i hb
      obtain ⟨d, hc, hs, hv⟩ := numF_back (s := s) (by simpa using hb)
      rw [if_neg (by omega)] at h
      split at h
      · cases h
      · rename_i hn
        split at h
        · rename_i hdot
          have hle : ¬ 255 < (numF s).1 := by
            intro hh; rw [if_pos hh] at h
            have := pStep_one _ _ _ _ _ _ h
            simp at this
          rw [if_neg hle] at h
          obtain ⟨l, h1, h2, h3⟩ := ih _ _ _ _ h
          refine ⟨UInt8.ofNat (numF s).1 :: l, by simp [h1], by rw [h2]; simp, ?_⟩
          have hj : jn (UInt8.ofNat (numF s).1 :: l) = decF (UInt8.ofNat (numF s).1).toNat ++ 46 :: jn l := by
            match l, h1 with
            | c :: l, _ => rfl
          rw [hj, UInt8.toNat_ofNat_of_lt' (by show _ < 256; omega), hv, decF_digF hc, List.append_assoc, List.cons_append, ← h3]
          have : (numF s).2.1 = 46 :: (numF s).2.1.drop 1 := by
            match hq : (numF s).2.1 with
            | [] => exact absurd hq hn
            | x :: q => rw [hq] at hdot; simp at hdot; simp [hdot]
          rw [← this]; exact hs
        · cases h

theorem parse_print {l : List UInt8} (h : l.length = 4) : parseF (printF l) = (l, 0) := by
  have := pStep_fwd l [] [] (by omega) (.inl rfl)
  rw [h] at this
  rw [printF_jn h]
  simp only [List.append_nil, List.nil_append] at this
  unfold parseF
  rw [this]
  simp
theorem print_parse {s : List UInt8} (h : (parseF s).2 = 0) : printF (parseF s).1 = s ∧ (parseF s).1.length = 4 := by
  unfold parseF at h ⊢
  split at h
  · simp at h
  · rename_i a e r hp
    by_cases hr : r = []
    · subst hr
      by_cases he : e = 0
      · subst he
        simp only [not_true_eq_false, if_false]
        obtain ⟨l, h1, h2, h3⟩ := pStep_back 3 _ _ _ _ hp
        simp only [List.nil_append] at h2
        subst h2
        rw [printF_jn h1, h3]
        exact ⟨by simp, h1⟩
      · simp [he] at h
    · simp [hr] at h
theorem parse_len (s : List UInt8) : (parseF s).1.length = 4 := by
  by_cases h : (parseF s).2 = 0
  · exact (print_parse h).2
  · unfold parseF at h ⊢
    split
    · rfl
    · rename_i a e r hp
      rw [hp] at h
      by_cases hr : r = []
      · by_cases he : e = 0
        · simp [hr, he] at h
        · simp [hr, he]
      · simp [hr]
end Go.Proofs
