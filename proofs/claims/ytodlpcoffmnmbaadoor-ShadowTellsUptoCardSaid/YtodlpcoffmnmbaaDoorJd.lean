/-
  Own work. Plain laws: what a rule covers, and what has both of two.
-/
import Derived.Test.YtodlpcoffmnmbaaDoorJb
namespace Go.Proofs
open Go Go.YtodlpcoffmnmbaaDoor
set_option linter.unusedVariables false
set_option linter.unusedSimpArgs false
set_option maxRecDepth 10000

/-! ### Prefixes -/
theorem has_iff {p n v : Int} {a b : List UInt8} : hasF p a n v b = true ↔ checkF p a n = 0 ∧ v = p ∧ frontTo b n.toNat = a := by
  simp only [hasF, Bool.and_eq_true, decide_eq_true_eq]
theorem within_iff {v n w m : Int} {a b : List UInt8} : withinF v a n w b m = true ↔ checkF v a n = 0 ∧ m ≤ n ∧ checkF w b m = 0 ∧ v = w ∧ frontTo a m.toNat = b := by
  simp only [withinF, Bool.and_eq_true, decide_eq_true_eq, has_iff]
theorem check_facts {v n : Int} {a : List UInt8} (h : checkF v a n = 0) : 0 ≤ n ∧ n ≤ 128 ∧ frontTo a n.toNat = a := by
  have h1 := check_fits h
  obtain ⟨m, _, _, h2, h3, h4⟩ := fits_most h1
  refine ⟨h2, by omega, ?_⟩
  unfold checkF at h
  rw [if_neg (by simp [h1])] at h
  split at h
  · assumption
  · cases h
theorem front_front (c : List UInt8) {m n : Nat} (hmn : m ≤ n) (hn : n ≤ 128) : frontTo (frontTo c n) m = frontTo c m := by
  refine addr_ext (frontTo_length _ _) (frontTo_length _ _) fun i hi => ?_
  rw [frontTo_bit _ _ (by omega), frontTo_bit _ _ hn, frontTo_bit _ _ (by omega)]
  by_cases h : i < m
  · simp [h, show i < n by omega]
  · simp [h]
/-- What is in a prefix is in a wider one. -/
theorem has_wider {v n w m x : Int} {a b c : List UInt8} (h1 : hasF v a n x c = true) (h2 : withinF v a n w b m = true) : hasF w b m x c = true := by
  rw [has_iff] at h1 ⊢
  rw [within_iff] at h2
  obtain ⟨h3, rfl, h5⟩ := h1
  obtain ⟨_, h7, h8, h9, h10⟩ := h2
  have f1 := check_facts h3
  have f2 := check_facts h8
  refine ⟨h8, h9, ?_⟩
  rw [← h10, ← h5, front_front _ (by omega) (by omega)]
/-- What has an address in common lies in one another. -/
theorem has_both {v n w m x : Int} {a b c : List UInt8} (h1 : hasF v a n x c = true) (h2 : hasF w b m x c = true) : (withinF v a n w b m || withinF w b m v a n) = true := by
  rw [has_iff] at h1 h2
  obtain ⟨h3, rfl, h5⟩ := h1
  obtain ⟨h6, h7, h8⟩ := h2
  have f1 := check_facts h3
  have f2 := check_facts h6
  rw [Bool.or_eq_true, within_iff, within_iff]
  by_cases h : m ≤ n
  · exact .inl ⟨h3, h, h6, h7, by rw [← h5, front_front _ (by omega) (by omega), h8]⟩
  · exact .inr ⟨h6, by omega, h3, h7.symm, by rw [← h8, front_front _ (by omega) (by omega), h5]⟩
/-- The longer one's address has both. -/
theorem longer_both {v n w m : Int} {a b : List UInt8} (h : (withinF v a n w b m || withinF w b m v a n) = true) :
    hasF v a n v (if m < n then a else b) = true ∧ hasF w b m v (if m < n then a else b) = true := by
  rw [Bool.or_eq_true, within_iff, within_iff] at h
  rw [has_iff, has_iff]
  rcases h with ⟨h1, h2, h3, h4, h5⟩ | ⟨h1, h2, h3, h4, h5⟩
  · have f1 := check_facts h1
    have f2 := check_facts h3
    by_cases hc : m < n
    · rw [if_pos hc]; exact ⟨⟨h1, rfl, f1.2.2⟩, h3, h4, h5⟩
    · rw [if_neg hc]
      have e : m = n := by omega
      rw [e, f1.2.2] at h5
      subst h5
      exact ⟨⟨h1, rfl, f1.2.2⟩, h3, h4, by rw [e]; exact f1.2.2⟩
  · have f1 := check_facts h1
    have f2 := check_facts h3
    rw [if_neg (by omega)]
    exact ⟨⟨h3, rfl, h5⟩, h1, h4.symm, f1.2.2⟩

/-! ### Spans, numbers -/
theorem span_iff {lo hi : Int} : spanChk lo hi = 0 ↔ 0 ≤ lo ∧ lo ≤ hi ∧ hi ≤ 65535 := by
  unfold spanChk
  split
  · split <;> omega
  · constructor
    · intro h; cases h
    · intro h; omega
theorem port_iff {lo hi n : Int} {p : Bool} : portOk lo hi p n = true ↔ (lo = 0 ∧ hi = 65535) ∨ (p = true ∧ spanChk lo hi = 0 ∧ lo ≤ n ∧ n ≤ hi) := by
  simp only [portOk, spanHas, Bool.or_eq_true, Bool.and_eq_true, beq_iff_eq, decide_eq_true_eq]
theorem meet_iff {a b c d : Int} : meetB a b c d = true ↔ spanChk a b = 0 ∧ spanChk c d = 0 ∧ ¬ min b d < max a c := by
  simp only [meetB, Bool.and_eq_true, decide_eq_true_eq, Bool.not_eq_true', decide_eq_false_iff_not]
theorem wider_iff {a b c d : Int} : widerF a b c d = true ↔ (a = 0 ∧ b = 65535) ∨ (¬ (c = 0 ∧ d = 65535) ∧ a ≤ c ∧ d ≤ b) := by
  simp only [widerF, Bool.or_eq_true, Bool.and_eq_true, beq_iff_eq, decide_eq_true_eq, Bool.not_eq_true', Bool.and_eq_false_iff, beq_eq_false_iff_ne]
  constructor
  · rintro (h | ⟨h, h2⟩)
    · exact .inl h
    · exact .inr ⟨by omega, h2⟩
  · rintro (h | ⟨h, h2⟩)
    · exact .inl h
    · exact .inr ⟨by omega, h2⟩
theorem wish_iff {w n : Int} : wishOk w n = true ↔ w = -1 ∨ w = n := by simp only [wishOk, Bool.or_eq_true, decide_eq_true_eq]
structure RuFacts (r : Ru) : Prop where
  src : checkF r.sv r.sa r.sn = 0
  dst : checkF r.dv r.da r.dn = 0
  ver : r.sv = r.dv
  sp : spanChk r.slo r.shi = 0
  dp : spanChk r.dlo r.dhi = 0
  pr : -1 ≤ r.proto ∧ r.proto ≤ 255
  ds : -1 ≤ r.dscp ∧ r.dscp ≤ 63
  cl : 0 ≤ r.cls ∧ r.cls < 16
theorem ru_facts {r : Ru} (h : ruChk r = 0) : RuFacts r := by
  unfold ruChk at h
  by_cases h1 : checkF r.sv r.sa r.sn = 0
  · by_cases h2 : checkF r.dv r.da r.dn = 0
    · by_cases h3 : r.sv = r.dv
      · by_cases h4 : spanChk r.slo r.shi = 0
        · by_cases h5 : spanChk r.dlo r.dhi = 0
          · rw [if_neg (fun f => f h1), if_neg (fun f => f h2), if_neg (fun f => f h3), if_neg (fun f => f h4), if_neg (fun f => f h5)] at h
            split at h
            · cases h
            · split at h
              · cases h
              · split at h
                · cases h
                · exact ⟨h1, h2, h3, h4, h5, by omega, by omega, by omega⟩
          · rw [if_neg (fun f => f h1), if_neg (fun f => f h2), if_neg (fun f => f h3), if_neg (fun f => f h4), if_pos h5] at h; exact absurd h h5
        · rw [if_neg (fun f => f h1), if_neg (fun f => f h2), if_neg (fun f => f h3), if_pos h4] at h; exact absurd h h4
      · rw [if_neg (fun f => f h1), if_neg (fun f => f h2), if_pos h3] at h; cases h
    · rw [if_neg (fun f => f h1), if_pos h2] at h; exact absurd h h2
  · rw [if_pos h1] at h; exact absurd h h1
theorem match_iff {r : Ru} {k : Ky} : ruMatch r k = true ↔ ruChk r = 0 ∧ hasF r.sv r.sa r.sn k.v k.s = true ∧ hasF r.dv r.da r.dn k.v k.d = true ∧ portOk r.slo r.shi k.ports k.sp = true ∧ portOk r.dlo r.dhi k.ports k.dp = true ∧ wishOk r.proto k.proto = true ∧ wishOk r.dscp k.dscp = true := by
  simp only [ruMatch, Bool.and_eq_true, decide_eq_true_eq]
theorem covers_iff {a b : Ru} : coversF a b = true ↔ (ruChk a = 0 ∧ ruChk b = 0) ∧ withinF b.sv b.sa b.sn a.sv a.sa a.sn = true ∧ withinF b.dv b.da b.dn a.dv a.da a.dn = true ∧ widerF a.slo a.shi b.slo b.shi = true ∧ widerF a.dlo a.dhi b.dlo b.dhi = true ∧ wishOk a.proto b.proto = true ∧ wishOk a.dscp b.dscp = true := by
  simp only [coversF, bothOk, Bool.and_eq_true, decide_eq_true_eq]
theorem wit_iff {a b : Ru} : witB a b = true ↔ (ruChk a = 0 ∧ ruChk b = 0) ∧ (withinF a.sv a.sa a.sn b.sv b.sa b.sn || withinF b.sv b.sa b.sn a.sv a.sa a.sn) = true ∧ (withinF a.dv a.da a.dn b.dv b.da b.dn || withinF b.dv b.da b.dn a.dv a.da a.dn) = true ∧
    meetB a.slo a.shi b.slo b.shi = true ∧ meetB a.dlo a.dhi b.dlo b.dhi = true ∧ (a.proto = -1 ∨ b.proto = -1 ∨ a.proto = b.proto) ∧ (a.dscp = -1 ∨ b.dscp = -1 ∨ a.dscp = b.dscp) := by
  have hn : ∀ x y : Int, numP x y = false ↔ (x = -1 ∨ y = -1 ∨ x = y) := by
    intro x y
    simp only [numP, decide_eq_false_iff_not]; omega
  simp only [witB, witP, witS, witD, bothOk, Bool.and_eq_true, decide_eq_true_eq, Bool.not_eq_true', Bool.or_eq_false_iff, Bool.not_eq_false', hn]
  constructor
  · rintro ⟨h, ⟨⟨⟨⟨h1, h2⟩, h3⟩, h4⟩, h5⟩, h6⟩
    exact ⟨h, h1, h2, h3, h4, h5, h6⟩
  · rintro ⟨h, h1, h2, h3, h4, h5, h6⟩
    exact ⟨h, ⟨⟨⟨⟨h1, h2⟩, h3⟩, h4⟩, h5⟩, h6⟩

/-! ### What ShadowTrue says -/
theorem port_covers {a b c d n : Int} {p : Bool} (ha : spanChk a b = 0) (hw : widerF a b c d = true) (h : portOk c d p n = true) : portOk a b p n = true := by
  rw [port_iff] at h ⊢
  rw [wider_iff] at hw
  rcases hw with hw | ⟨h1, h2, h3⟩
  · exact .inl hw
  · rcases h with h | ⟨h4, h5, h6, h7⟩
    · exact absurd h h1
    · exact .inr ⟨h4, ha, by omega, by omega⟩
theorem port_both {a b c d n : Int} {p : Bool} (ha : spanChk a b = 0) (hc : spanChk c d = 0) (h1 : portOk a b p n = true) (h2 : portOk c d p n = true) : meetB a b c d = true := by
  rw [port_iff] at h1 h2
  rw [meet_iff]
  refine ⟨ha, hc, ?_⟩
  rw [span_iff] at ha hc
  rcases h1 with h1 | ⟨_, _, h3, h4⟩ <;> rcases h2 with h2 | ⟨_, _, h5, h6⟩ <;> omega
theorem port_lo {a b c d : Int} (h : meetB a b c d = true) : portOk a b true (meetLo a b c d) = true ∧ portOk c d true (meetLo a b c d) = true := by
  have e : meetLo a b c d = max a c := by rw [meetLo, if_pos h]
  rw [e, port_iff, port_iff]
  rw [meet_iff] at h
  obtain ⟨ha, hc, h1⟩ := h
  refine ⟨.inr ⟨rfl, ha, ?_, ?_⟩, .inr ⟨rfl, hc, ?_, ?_⟩⟩ <;> omega
theorem wider_meet {a b c d : Int} (ha : spanChk a b = 0) (hc : spanChk c d = 0) (h : widerF a b c d = true) : meetB a b c d = true := by
  rw [wider_iff] at h
  rw [meet_iff]
  refine ⟨ha, hc, ?_⟩
  rw [span_iff] at ha hc
  rcases h with h | ⟨_, h1, h2⟩ <;> omega
/-- What a rule covers has no key without it. -/
theorem covers_match {a b : Ru} {k : Ky} (h : coversF a b = true) (hb : ruMatch b k = true) : ruMatch a k = true := by
  rw [covers_iff] at h
  rw [match_iff] at hb ⊢
  obtain ⟨⟨h1, _⟩, h2, h3, h4, h5, h6, h7⟩ := h
  obtain ⟨_, g1, g2, g3, g4, g5, g6⟩ := hb
  have fa := ru_facts h1
  refine ⟨h1, has_wider g1 h2, has_wider g2 h3, port_covers fa.sp h4 g3, port_covers fa.dp h5 g4, ?_, ?_⟩
  · rw [wish_iff] at *; omega
  · rw [wish_iff] at *; omega
/-- What has a key in common meets. -/
theorem match_meets {a b : Ru} {k : Ky} (ha : ruMatch a k = true) (hb : ruMatch b k = true) : witB a b = true := by
  rw [match_iff] at ha hb
  obtain ⟨f0, f1, f2, f3, f4, f5, f6⟩ := ha
  obtain ⟨g0, g1, g2, g3, g4, g5, g6⟩ := hb
  have fa := ru_facts f0
  have fb := ru_facts g0
  rw [wish_iff] at f5 f6 g5 g6
  rw [wit_iff]
  exact ⟨⟨f0, g0⟩, has_both f1 g1, has_both f2 g2, port_both fa.sp fb.sp f3 g3, port_both fa.dp fb.dp f4 g4, by omega, by omega⟩
/-- A witness has both. -/
theorem wit_match {a b : Ru} (h : witB a b = true) : ruMatch a (witK a b) = true ∧ ruMatch b (witK a b) = true := by
  have e : witK a b = witK' a b := by rw [witK, if_pos h]
  rw [e]
  rw [wit_iff] at h
  obtain ⟨⟨h0, h1⟩, h2, h3, h4, h5, h6, h7⟩ := h
  have fa := ru_facts h0
  have fb := ru_facts h1
  obtain ⟨s1, s2⟩ := longer_both h2
  obtain ⟨d1, d2⟩ := longer_both h3
  rw [← fa.ver] at d1 d2
  obtain ⟨p1, p2⟩ := port_lo h4
  obtain ⟨q1, q2⟩ := port_lo h5
  have num : ∀ x y o : Int, (x = -1 ∨ y = -1 ∨ x = y) → wishOk x (numF x y o) = true ∧ wishOk y (numF x y o) = true := by
    intro x y o hxy
    rw [wish_iff, wish_iff]
    unfold numF
    split
    · omega
    · split <;> omega
  rw [match_iff, match_iff]
  refine ⟨⟨h0, s1, ?_, p1, q1, (num _ _ 6 h6).1, (num _ _ 0 h7).1⟩, h1, s2, d2, p2, q2, (num _ _ 6 h6).2, (num _ _ 0 h7).2⟩
  show hasF a.dv a.da a.dn a.sv _ = true
  rw [← fa.ver]; exact d1
/-- What covers another one that may be meets it. -/
theorem covers_meets {a b : Ru} (h : coversF a b = true) : witB a b = true := by
  rw [covers_iff] at h
  obtain ⟨⟨h0, h1⟩, h2, h3, h4, h5, h6, h7⟩ := h
  have fa := ru_facts h0
  have fb := ru_facts h1
  rw [wish_iff] at h6 h7
  rw [wit_iff]
  exact ⟨⟨h0, h1⟩, by rw [h2, Bool.or_true], by rw [h3, Bool.or_true], wider_meet fa.sp fb.sp h4, wider_meet fa.dp fb.dp h5, by omega, by omega⟩
end Go.Proofs
