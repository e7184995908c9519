/-
  Own work. A number's digits; a wide number as data.
-/
import Derived.Test.YtodlpcoffmnmbaaB0
namespace Go.Proofs
open Go Go.Ytodlpcoffmnmbaa
set_option linter.unusedVariables false
set_option linter.unusedSimpArgs false
set_option maxRecDepth 10000

/-- A number's digits. -/
def decF (n : Nat) : List UInt8 := if h : n < 10 then [UInt8.ofNat (48 + n)] else decF (n / 10) ++ [UInt8.ofNat (48 + n % 10)]
termination_by n

theorem decF_lt {n : Nat} (h : n < 10) : decF n = [UInt8.ofNat (48 + n)] := by unfold decF; simp [h]
theorem decF_ge {n : Nat} (h : ¬ n < 10) : decF n = decF (n / 10) ++ [UInt8.ofNat (48 + n % 10)] := by
  rw [decF]; simp [h]
theorem decF_len {n : Nat} (h : n < 1000) : (decF n).length ≤ 3 := by
  by_cases h1 : n < 10
  · rw [decF_lt h1]; simp
  · rw [decF_ge h1]
    by_cases h2 : n / 10 < 10
    · rw [decF_lt h2]; simp
    · rw [decF_ge h2, decF_lt (by omega)]; simp

/-- A wide number as data. -/
def wideD (n : Nat) : List D := [.int .u64 ((n / 18446744073709551616 : Nat) : Int), .int .u64 ((n % 18446744073709551616 : Nat) : Int)]
theorem wideD_len (n : Nat) : (wideD n).length = 2 := rfl
theorem wideD_one (n : Nat) : (wideD n).all D.one = true := rfl
theorem wideD_under (k n : Nat) : underL k (wideD n) = true := rfl
theorem spw {x y : D} {n : Nat} : splice [x, y] 0 (wideD n) = wideD n := rfl
theorem spw2 {m n : Nat} : splice (wideD m) 0 (wideD n) = wideD n := rfl
theorem tkw {n : Nat} : List.take 2 (wideD n) = wideD n := rfl
end Go.Proofs
