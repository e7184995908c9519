/-
  Own work. What is known of wide.Text, for closed runs.
-/
import Derived.Test.YtodlpcoffmnmbaaWd
import Derived.Test.YtodlpcoffmnmbaaVw
namespace Go.Proofs
open Go Go.Ytodlpcoffmnmbaa
set_option linter.unusedVariables false
set_option linter.unusedSimpArgs false
set_option maxRecDepth 10000

/-- A number's digits, as the kernel reckons them. -/
def decK : Nat → Nat → List UInt8
  | 0, _ => []
  | f + 1, n => bif Nat.blt n 10 then [UInt8.ofNat (48 + n)] else decK f (n / 10) ++ [UInt8.ofNat (48 + n % 10)]
theorem blt_dec (a b : Nat) : Nat.blt a b = decide (a < b) := by
  unfold Nat.blt
  rw [Bool.eq_iff_iff, Nat.ble_eq, decide_eq_true_eq]; omega
theorem decK_eq : ∀ (f n : Nat), n < 10 ^ f → 0 < f → decK f n = decF n
  | 0, _, _, h => by omega
  | f + 1, n, h, _ => by
    unfold decK
    by_cases hn : n < 10
    · have : Nat.blt n 10 = true := by rw [blt_dec]; exact decide_eq_true hn
      rw [this, decF_lt hn]; rfl
    · have : Nat.blt n 10 = false := by rw [blt_dec]; exact decide_eq_false hn
      have hf : 0 < f := by
        refine Nat.pos_of_ne_zero fun e => ?_
        subst e
        simp at h; omega
      rw [this, decF_ge hn, cond_false, decK_eq f (n / 10) (by rw [Nat.pow_succ] at h; exact Nat.div_lt_of_lt_mul (by rw [Nat.mul_comm]; exact h)) hf]
def textR : List D → Option D
  | [.agg [.int .u64 (.ofNat hi), .int .u64 (.ofNat lo)]] => bif Nat.blt hi 18446744073709551616 && Nat.blt lo 18446744073709551616 then some (.str (bs (decK 40 (hi * 18446744073709551616 + lo)))) else none
  | _ => none
theorem textR_ok : ∀ args h d, textR args = some d → FC Try.prog 69 args h fun d' h' => d' = d ∧ h' = h := by
  intro args h d hr
  unfold textR at hr
  split at hr
  · rename_i hi lo
    by_cases hc : hi < 18446744073709551616 ∧ lo < 18446744073709551616
    · have e1 : Nat.blt hi 18446744073709551616 = true := by rw [blt_dec]; exact decide_eq_true hc.1
      have e2 : Nat.blt lo 18446744073709551616 = true := by rw [blt_dec]; exact decide_eq_true hc.2
      rw [e1, e2, Bool.and_self, cond_true] at hr
      injection hr with hr
      subst hr
      have hw : wideD (hi * 18446744073709551616 + lo) = [.int .u64 (.ofNat hi), .int .u64 (.ofNat lo)] := by
        unfold wideD
        rw [show (hi * 18446744073709551616 + lo) / 18446744073709551616 = hi by omega, show (hi * 18446744073709551616 + lo) % 18446744073709551616 = lo by omega]; rfl
      rw [decK_eq 40 _ (by omega) (by omega), ← hw]
      exact ptext_fc h _ (by omega)
    · have e : (Nat.blt hi 18446744073709551616 && Nat.blt lo 18446744073709551616) = false := by
        rw [blt_dec, blt_dec, ← Bool.decide_and]
        exact decide_eq_false hc
      rw [e, cond_false] at hr; cases hr
  · cases hr
end Go.Proofs
