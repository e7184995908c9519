/-
  Own work. The plain law of dotted: Parse answers as the document.
-/
import Derived.Test.YtgokcidfclghpaaK
namespace Go.Proofs
open Go Go.Ytgokcidfclghpaa
set_option linter.unusedVariables false
set_option linter.unusedSimpArgs false

/-- Parts between signs. -/
def spl (c : UInt8) : List UInt8 → List (List UInt8)
  | [] => [[]]
  | b :: s => if b = c then [] :: spl c s else match spl c s with
    | [] => [[b]]
    | p :: ps => (b :: p) :: ps

theorem spl_ne (c : UInt8) (s : List UInt8) : spl c s ≠ [] := by
  cases s with
  | nil => simp [spl]
  | cons b s => rw [spl]; split; simp; split <;> simp

theorem spl_app {c : UInt8} : ∀ {d r : List UInt8}, (∀ b ∈ d, b ≠ c) → spl c (d ++ c :: r) = d :: spl c r
  | [], r, _ => by simp [spl]
  | b :: d, r, h => by
    have hb : ¬ b = c := h b (by simp)
    rw [List.cons_append, spl, if_neg hb, spl_app fun x hx => h x (by simp [hx])]
theorem spl_one {c : UInt8} : ∀ {d : List UInt8}, (∀ b ∈ d, b ≠ c) → spl c d = [d]
  | [], _ => rfl
  | b :: d, h => by
    have hb : ¬ b = c := h b (by simp)
    rw [spl, if_neg hb, spl_one fun x hx => h x (by simp [hx])]

theorem drop_split {s : List UInt8} {f k : Nat} (hf : f ≤ k) (hk : k < s.length) : s.drop f = (s.take k).drop f ++ s.getD k 0 :: s.drop (k + 1) := by
  have h1 : s = s.take k ++ s.getD k 0 :: s.drop (k + 1) := by
    have e : s.getD k 0 = s[k] := by simp [List.getD_eq_getElem?_getD, List.getElem?_eq_getElem hk]
    rw [e, List.getElem_cons_drop, List.take_append_drop]
  have h2 : s.drop f = (s.take k ++ s.getD k 0 :: s.drop (k + 1)).drop f := by rw [← h1]
  rw [h2, List.drop_append_of_le_length (by simp; omega)]
theorem cutK_spl (c : UInt8) (s : List UInt8) : ∀ k, k ≤ s.length → spl c s = (cutK c s k).1 ++ spl c (s.drop (cutK c s k).2) ∧ ∀ b ∈ (s.take k).drop (cutK c s k).2, b ≠ c
  | 0, _ => by simp [cutK]
  | k + 1, hk => by
    obtain ⟨h1, h2⟩ := cutK_spl c s k (by omega)
    have hle := (cutK_le c s k).1
    rw [cutK]
    split
    · rename_i hc
      refine ⟨?_, by simp⟩
      rw [h1, drop_split hle (show k < s.length by omega), hc, spl_app h2]
      simp
    · rename_i hc
      refine ⟨h1, ?_⟩
      intro b hb
      rw [List.take_add_one, getB (show k < s.length by omega), List.drop_append_of_le_length (by simp; omega)] at hb
      rcases List.mem_append.1 hb with hb | hb
      · exact h2 b hb
      · rw [show b = s.getD k 0 by simpa using hb]; exact hc
theorem cutR_spl (c : UInt8) (s : List UInt8) : cutR c s = spl c s := by
  obtain ⟨h1, h2⟩ := cutK_spl c s s.length (Nat.le_refl _)
  rw [List.take_length] at h2
  rw [cutR, h1, spl_one h2]

theorem spl_inv {c : UInt8} : ∀ {s p : List UInt8} {ps : List (List UInt8)}, spl c s = p :: ps → (∀ b ∈ p, b ≠ c) ∧ ((ps = [] ∧ s = p) ∨ ∃ t, s = p ++ c :: t ∧ spl c t = ps)
  | [], p, ps, h => by simp [spl] at h; obtain ⟨rfl, rfl⟩ := h; simp
  | b :: s, p, ps, h => by
    rw [spl] at h
    split at h
    · rename_i hb
      simp only [List.cons.injEq] at h
      obtain ⟨rfl, h2⟩ := h
      exact ⟨by simp, .inr ⟨s, by rw [hb]; rfl, h2⟩⟩
    · rename_i hb
      split at h
      · rename_i hn; exact absurd hn (spl_ne c s)
      · rename_i q qs hq
        simp only [List.cons.injEq] at h
        obtain ⟨rfl, rfl⟩ := h
        obtain ⟨h1, h2⟩ := spl_inv hq
        refine ⟨fun x hx => (List.mem_cons.1 hx).elim (fun e => e ▸ hb) (h1 x), ?_⟩
        rcases h2 with ⟨h3, rfl⟩ | ⟨t, rfl, h3⟩
        · exact .inl ⟨h3, rfl⟩
        · exact .inr ⟨t, rfl, h3⟩

theorem numR_canon {p : List UInt8} (h : canon p) : numR p 3 = digF p := by
  obtain ⟨h1, h2, h3, h4⟩ := h
  unfold numR
  rw [if_neg, if_pos h1]
  rintro (a | a | a)
  · omega
  · omega
  · exact h4 a.1 a.2
theorem numR_not {p : List UInt8} (h : ¬ canon p) : numR p 3 = -1 := by
  unfold numR
  by_cases a : p.length < 1 ∨ (3 : Int) < p.length ∨ (1 < p.length ∧ p.getD 0 0 = 48)
  · rw [if_pos a]
  · rw [if_neg a, if_neg]
    intro ha
    refine h ⟨ha, ?_, ?_, fun h1 h2 => a (.inr (.inr ⟨h1, h2⟩))⟩
    · exact Nat.pos_of_ne_zero fun e => a (.inl (by omega))
    · exact Nat.le_of_not_lt fun e => a (.inr (.inl (by omega)))
theorem canon_dot {p : List UInt8} (h : canon p) : ∀ b ∈ p, b ≠ 46 := by
  intro b hb e
  have := List.all_eq_true.1 h.1 b hb
  rw [e] at this; exact absurd this (by decide)

/-- What a part that is none leaves. -/
theorem numF_bad {s p : List UInt8} {ps : List (List UInt8)} (hs : spl 46 s = p :: ps) (hp : ¬ canon p) (hn : (numF s).2.2 = true) : (numF s).2.1 ≠ [] ∧ ¬ (numF s).2.1.getD 0 0 = 46 := by
  obtain ⟨d, hc, hd, _⟩ := numF_back hn
  constructor
  · intro e
    rw [e, List.append_nil] at hd
    rw [hd, spl_one (canon_dot hc)] at hs
    simp only [List.cons.injEq] at hs
    exact hp (hs.1 ▸ hc)
  · intro e
    match hq : (numF s).2.1 with
    | [] => rw [hq] at e; simp at e
    | x :: q =>
      rw [hq] at e hd
      simp at e
      rw [hd, e, spl_app (canon_dot hc)] at hs
      simp only [List.cons.injEq] at hs
      exact hp (hs.1 ▸ hc)

def outP (o : Option (List UInt8 × Int × List UInt8)) : List UInt8 × Int :=
  match o with
  | none => ([0, 0, 0, 0], 3)
  | some (a, e, r) => if ¬ r = [] then ([0, 0, 0, 0], 3) else if ¬ e = 0 then ([0, 0, 0, 0], e) else (a, 0)
def outR (n : Nat) (a : List UInt8) (e : Int) (l : List (List UInt8)) : List UInt8 × Int :=
  if ¬ l.length = n then ([0, 0, 0, 0], 3)
  else if l.any (fun p => numR p 3 < 0) then ([0, 0, 0, 0], 3)
  else if ¬ e = 0 ∨ l.any (fun p => 255 < numR p 3) then ([0, 0, 0, 0], 1)
  else (a ++ l.map fun p => UInt8.ofNat (numR p 3).toNat, 0)

theorem out_neg {n : Nat} {a : List UInt8} {e : Int} {p : List UInt8} {ps : List (List UInt8)} (hp : ¬ canon p) : outR n a e (p :: ps) = ([0, 0, 0, 0], 3) := by
  unfold outR
  split
  · rfl
  · rw [if_pos]
    simp [numR_not hp]

theorem pStep_out : ∀ (n : Nat) (a : List UInt8) (e : Int) (s : List UInt8), (e = 0 ∨ e = 1) → outP (pStep (n + 1) a e s) = outR (n + 1) a e (spl 46 s) := by
  intro n
  induction n with
  | zero =>
    intro a e s he
    match hs : spl 46 s with
    | [] => exact absurd hs (spl_ne _ _)
    | p :: ps =>
      by_cases hp : canon p
      · obtain ⟨h1, h2⟩ := spl_inv hs
        have hnum : ∃ r, s = p ++ r ∧ (r = [] ∨ isDig (r.getD 0 0) = false) ∧ (r = [] ↔ ps = []) := by
          rcases h2 with ⟨h3, rfl⟩ | ⟨t, rfl, h3⟩
          · exact ⟨[], by simp, .inl rfl, by simp [h3]⟩
          · refine ⟨46 :: t, rfl, .inr rfl, by simp; intro h; rw [← h3] at h; exact spl_ne _ _ h⟩
        obtain ⟨r, rfl, hr, hrp⟩ := hnum
        rw [pS, numF_app hp hr]
        have hv := numR_canon hp
        by_cases hps : ps = []
        · have hr0 := hrp.2 hps
          subst hps hr0
          by_cases hbig : 255 < digF p
          · have : (255 : Int) < digF p := by omega
            have hge : ¬ ((digF p : Nat) : Int) < 0 := by omega
            simp [outP, outR, hv, hbig, hge, this]
          · have : ¬ (255 : Int) < digF p := by omega
            simp only [outP, outR, hv, hbig, if_false, Bool.true_eq_false, if_true, not_true_eq_false, List.length_cons, List.length_nil, List.any_cons, List.any_nil, Bool.or_false, this, decide_false, Bool.false_eq_true, or_false, List.map_cons, List.map_nil, Int.toNat_natCast]
            rcases he with rfl | rfl
            · simp
            · simp
        · have hr0 : ¬ r = [] := fun h => hps (hrp.1 h)
          have hl : ¬ (p :: ps).length = 1 := by simp [hps]
          simp [outP, outR, hr0, hl, hps]
      · rw [out_neg hp, pS]
        by_cases hn : (numF s).2.2 = true
        · have hb := (numF_bad hs hp hn).1
          simp [outP, hn, hb]
        · simp [outP, hn]
  | succ n ih =>
    intro a e s he
    match hs : spl 46 s with
    | [] => exact absurd hs (spl_ne _ _)
    | p :: ps =>
      by_cases hp : canon p
      · obtain ⟨h1, h2⟩ := spl_inv hs
        have hv := numR_canon hp
        rcases h2 with ⟨rfl, rfl⟩ | ⟨t, rfl, h3⟩
        · rw [pS, show numF s = (digF s, [], true) by have := numF_app (r := []) hp (.inl rfl); rwa [List.append_nil] at this]
          simp [outP, outR]
        · rw [pS, numF_app hp (.inr rfl)]
          rw [if_neg (by simp), if_neg (by omega), if_neg (by simp), if_pos (by rfl)]
          simp only [List.drop_succ_cons, List.drop_zero]
          rw [ih _ _ _ (by split; exact .inr rfl; exact he), h3]
          have hge : ¬ ((digF p : Nat) : Int) < 0 := by omega
          unfold outR
          simp only [List.length_cons, Nat.add_right_cancel_iff, List.any_cons, hv, hge, decide_false, Bool.false_or, List.map_cons, Int.toNat_natCast, List.append_assoc, List.cons_append, List.nil_append]
          by_cases hbig : 255 < digF p
          · have hb2 : (255 : Int) < digF p := by omega
            simp [hbig, hb2]
          · have hb2 : ¬ (255 : Int) < digF p := by omega
            simp [hbig, hb2]
      · rw [out_neg hp, pS]
        by_cases hn : (numF s).2.2 = true
        · obtain ⟨hb1, hb2⟩ := numF_bad hs hp hn
          simp only [hn, Bool.true_eq_false, if_false, Nat.add_eq_zero_iff, hb1, hb2]
          simp [outP]
        · simp [outP, hn]

/-- THE PLAIN LAW. -/
theorem parse_same (s : List UInt8) : parseF s = parseR s := by
  have h := pStep_out 3 [] 0 s (.inl rfl)
  have h1 : parseF s = outP (pStep 4 [] 0 s) := by
    unfold parseF outP; rfl
  have h2 : parseR s = outR 4 [] 0 (spl 46 s) := by
    unfold parseR outR
    rw [cutR_spl]
    simp
  rw [h1, h, h2]
end Go.Proofs
