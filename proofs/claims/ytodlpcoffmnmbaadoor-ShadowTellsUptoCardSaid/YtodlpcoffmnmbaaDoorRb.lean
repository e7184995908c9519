/-
  Own work. Rules and keys as arguments.
-/
import Derived.Test.YtodlpcoffmnmbaaDoorRa
import Derived.Test.YtodlpcoffmnmbaaDoorPg
namespace Go.Proofs
open Go Go.YtodlpcoffmnmbaaDoor
set_option linter.unusedVariables false
set_option linter.unusedSimpArgs false
set_option maxRecDepth 10000

theorem ru_enc {x : (Sh.pair (.pair (.int .i64) (.pair (.arr 16 (.int .u8)) (.pair (.int .i64) .unit))) (.pair (.pair (.int .i64) (.pair (.arr 16 (.int .u8)) (.pair (.int .i64) .unit))) (.pair (.pair (.int .i64) (.pair (.int .i64) .unit)) (.pair (.pair (.int .i64) (.pair (.int .i64) .unit)) (.pair (.int .i64) (.pair (.int .i64) (.pair (.int .i64) .unit))))))).T} {cs : List D}
    (ok : (Sh.pair (.pair (.int .i64) (.pair (.arr 16 (.int .u8)) (.pair (.int .i64) .unit))) (.pair (.pair (.int .i64) (.pair (.arr 16 (.int .u8)) (.pair (.int .i64) .unit))) (.pair (.pair (.int .i64) (.pair (.int .i64) .unit)) (.pair (.pair (.int .i64) (.pair (.int .i64) .unit)) (.pair (.int .i64) (.pair (.int .i64) (.pair (.int .i64) .unit))))))).ok x)
    (en : (Sh.pair (.pair (.int .i64) (.pair (.arr 16 (.int .u8)) (.pair (.int .i64) .unit))) (.pair (.pair (.int .i64) (.pair (.arr 16 (.int .u8)) (.pair (.int .i64) .unit))) (.pair (.pair (.int .i64) (.pair (.int .i64) .unit)) (.pair (.pair (.int .i64) (.pair (.int .i64) .unit)) (.pair (.int .i64) (.pair (.int .i64) (.pair (.int .i64) .unit))))))).Enc x cs) :
    ∃ r : Ru, r.Ok ∧ cs = ru r := by
  obtain ⟨c1, r1, e1, ⟨c2, r2, e2, ⟨c3, r3, ⟨c31, r31, e31, ⟨c32, r32, e32, e33, rfl⟩, rfl⟩, ⟨c4, r4, ⟨c41, r41, e41, ⟨c42, r42, e42, e43, rfl⟩, rfl⟩, ⟨c5, r5, e5, ⟨c6, r6, e6, ⟨c7, r7, e7, e8, rfl⟩, rfl⟩, rfl⟩, rfl⟩, rfl⟩, rfl⟩, rfl⟩ := en
  simp only [Sh.Enc] at e31 e32 e33 e41 e42 e43 e5 e6 e7 e8
  subst e31; subst e32; subst e33; subst e41; subst e42; subst e43; subst e5; subst e6; subst e7; subst e8
  obtain ⟨v, a, n, h2, rfl, h3⟩ := pc_enc ok.1 e1
  obtain ⟨w, b, m, h4, rfl, h5⟩ := pc_enc ok.2.1 e2
  exact ⟨⟨v, a, n, w, b, m, _, _, _, _, _, _, _⟩, ⟨h2, h4⟩, rfl⟩
theorem ru_open {x : (Sh.pair (.pair (.int .i64) (.pair (.arr 16 (.int .u8)) (.pair (.int .i64) .unit))) (.pair (.pair (.int .i64) (.pair (.arr 16 (.int .u8)) (.pair (.int .i64) .unit))) (.pair (.pair (.int .i64) (.pair (.int .i64) .unit)) (.pair (.pair (.int .i64) (.pair (.int .i64) .unit)) (.pair (.int .i64) (.pair (.int .i64) (.pair (.int .i64) .unit))))))).T} {d : D}
    (ok : (Sh.pair (.pair (.int .i64) (.pair (.arr 16 (.int .u8)) (.pair (.int .i64) .unit))) (.pair (.pair (.int .i64) (.pair (.arr 16 (.int .u8)) (.pair (.int .i64) .unit))) (.pair (.pair (.int .i64) (.pair (.int .i64) .unit)) (.pair (.pair (.int .i64) (.pair (.int .i64) .unit)) (.pair (.int .i64) (.pair (.int .i64) (.pair (.int .i64) .unit))))))).ok x)
    (en : (Sh.pair (.pair (.int .i64) (.pair (.arr 16 (.int .u8)) (.pair (.int .i64) .unit))) (.pair (.pair (.int .i64) (.pair (.arr 16 (.int .u8)) (.pair (.int .i64) .unit))) (.pair (.pair (.int .i64) (.pair (.int .i64) .unit)) (.pair (.pair (.int .i64) (.pair (.int .i64) .unit)) (.pair (.int .i64) (.pair (.int .i64) (.pair (.int .i64) .unit))))))).EncV x d) :
    ∃ r : Ru, r.Ok ∧ d = .agg (ru r) := by
  obtain ⟨cs, h1, rfl⟩ := en
  obtain ⟨r, h2, rfl⟩ := ru_enc ok h1
  exact ⟨r, h2, rfl⟩
theorem ky_open {x : (Sh.pair (.int .i64) (.pair (.arr 16 (.int .u8)) (.pair (.arr 16 (.int .u8)) (.pair (.int .i64) (.pair (.int .i64) (.pair .bool (.pair (.int .i64) (.pair (.int .i64) .unit)))))))).T} {d : D}
    (ok : (Sh.pair (.int .i64) (.pair (.arr 16 (.int .u8)) (.pair (.arr 16 (.int .u8)) (.pair (.int .i64) (.pair (.int .i64) (.pair .bool (.pair (.int .i64) (.pair (.int .i64) .unit)))))))).ok x)
    (en : (Sh.pair (.int .i64) (.pair (.arr 16 (.int .u8)) (.pair (.arr 16 (.int .u8)) (.pair (.int .i64) (.pair (.int .i64) (.pair .bool (.pair (.int .i64) (.pair (.int .i64) .unit)))))))).EncV x d) :
    ∃ k : Ky, k.Ok ∧ d = .agg (ky k) := by
  obtain ⟨cs, ⟨c1, r1, e1, ⟨c2, r2, e2, ⟨c3, r3, e3, ⟨c4, r4, e4, ⟨c5, r5, e5, ⟨c6, r6, e6, ⟨c7, r7, e7, ⟨c8, r8, e8, e9, rfl⟩, rfl⟩, rfl⟩, rfl⟩, rfl⟩, rfl⟩, rfl⟩, rfl⟩, rfl⟩ := en
  simp only [Sh.Enc] at e1 e4 e5 e6 e7 e8 e9
  subst e1; subst e4; subst e5; subst e6; subst e7; subst e8; subst e9
  have h2 : c2 = (x.2.1 : List Int).map (D.int .u8) := encL_map.1 e2
  have h3 : c3 = (x.2.2.1 : List Int).map (D.int .u8) := encL_map.1 e3
  obtain ⟨l, h4, _, h5⟩ := u8_bytes (zs := (x.2.1 : List Int)) ok.2.1.2
  obtain ⟨m, h6, _, h7⟩ := u8_bytes (zs := (x.2.2.1 : List Int)) ok.2.2.1.2
  refine ⟨⟨x.1, l, m, x.2.2.2.1, x.2.2.2.2.1, x.2.2.2.2.2.1, x.2.2.2.2.2.2.1, x.2.2.2.2.2.2.2.1⟩, ⟨by simp only; rw [h5]; exact ok.2.1.1, by simp only; rw [h7]; exact ok.2.2.1.1⟩, ?_⟩
  rw [h2, h3, h4, h6]; rfl
end Go.Proofs
