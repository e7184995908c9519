/-
  Own work. Prefixes as arguments.
-/
import Derived.Test.YtodlpcoffmnmbaaDoorPf
namespace Go.Proofs
open Go Go.YtodlpcoffmnmbaaDoor
set_option linter.unusedVariables false
set_option linter.unusedSimpArgs false
set_option maxRecDepth 10000

theorem pc_enc {x : (Sh.pair (.int .i64) (.pair (.arr 16 (.int .u8)) (.pair (.int .i64) .unit))).T} {cs : List D} (ok : (Sh.pair (.int .i64) (.pair (.arr 16 (.int .u8)) (.pair (.int .i64) .unit))).ok x) (en : (Sh.pair (.int .i64) (.pair (.arr 16 (.int .u8)) (.pair (.int .i64) .unit))).Enc x cs) :
    ∃ (v : Int) (a : List UInt8) (n : Int), a.length = 16 ∧ cs = pc v a n ∧ (-9223372036854775808 ≤ v ∧ v ≤ 9223372036854775807) ∧ (-9223372036854775808 ≤ n ∧ n ≤ 9223372036854775807) := by
  obtain ⟨c1, r1, e1, ⟨c2, r2, e2, ⟨c3, r3, e3, e4, rfl⟩, rfl⟩, rfl⟩ := en
  simp only [Sh.Enc] at e1 e3 e4
  subst e1; subst e3; subst e4
  have h2 : c2 = (x.2.1 : List Int).map (D.int .u8) := encL_map.1 e2
  obtain ⟨l, h3, _, h4⟩ := u8_bytes (zs := (x.2.1 : List Int)) ok.2.1.2
  refine ⟨x.1, l, x.2.2.1, by rw [h4]; exact ok.2.1.1, ?_, ok.1, ok.2.2.1⟩
  rw [h2, h3]; rfl
theorem pc_open {x : (Sh.pair (.int .i64) (.pair (.arr 16 (.int .u8)) (.pair (.int .i64) .unit))).T} {d : D} (ok : (Sh.pair (.int .i64) (.pair (.arr 16 (.int .u8)) (.pair (.int .i64) .unit))).ok x) (en : (Sh.pair (.int .i64) (.pair (.arr 16 (.int .u8)) (.pair (.int .i64) .unit))).EncV x d) :
    ∃ (v : Int) (a : List UInt8) (n : Int), a.length = 16 ∧ d = .agg (pc v a n) ∧ (-9223372036854775808 ≤ v ∧ v ≤ 9223372036854775807) ∧ (-9223372036854775808 ≤ n ∧ n ≤ 9223372036854775807) := by
  obtain ⟨cs, h1, rfl⟩ := en
  obtain ⟨v, a, n, h2, rfl, h3⟩ := pc_enc ok h1
  exact ⟨v, a, n, h2, rfl, h3⟩
/-- An array of two. -/
theorem encL_two {α : Type} {E : α → List D → Prop} {xs : List α} {cs : List D} (hl : xs.length = 2) (h : EncL E xs cs) : ∃ x y a b, xs = [x, y] ∧ E x a ∧ E y b ∧ cs = a ++ b := by
  match xs, hl with
  | [x, y], _ =>
    obtain ⟨a, b, h1, ⟨c, d, h2, h3, rfl⟩, rfl⟩ := h
    simp only [EncL] at h3
    subst h3
    exact ⟨x, y, a, c, rfl, h1, h2, by rw [List.append_nil]⟩
theorem encL_three {α : Type} {E : α → List D → Prop} {xs : List α} {cs : List D} (hl : xs.length = 3) (h : EncL E xs cs) : ∃ x y z a b c, xs = [x, y, z] ∧ E x a ∧ E y b ∧ E z c ∧ cs = a ++ (b ++ c) := by
  match xs, hl with
  | [x, y, z], _ =>
    obtain ⟨a, b, h1, ⟨c, d, h2, ⟨e, f, h3, h4, rfl⟩, rfl⟩, rfl⟩ := h
    simp only [EncL] at h4
    subst h4
    exact ⟨x, y, z, a, c, e, rfl, h1, h2, h3, by rw [List.append_nil]⟩
end Go.Proofs
