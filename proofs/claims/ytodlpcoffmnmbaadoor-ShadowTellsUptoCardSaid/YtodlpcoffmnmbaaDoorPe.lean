/-
  Own work. Plain laws: what Make, Halves, Within, Last tell.
-/
import Derived.Test.YtodlpcoffmnmbaaDoorPd
namespace Go.Proofs
open Go Go.YtodlpcoffmnmbaaDoor
set_option linter.unusedVariables false
set_option linter.unusedSimpArgs false
set_option maxRecDepth 10000

theorem mostF_of {v : Int} {m : Nat} (h : mostF v = some m) : (v = 4 ∧ m = 32) ∨ (v = 6 ∧ m = 128) := by
  unfold mostF at h
  split at h
  · rename_i h4; injection h with h; exact .inl ⟨h4, h.symm⟩
  · split at h
    · rename_i h6; injection h with h; exact .inr ⟨h6, h.symm⟩
    · cases h
theorem check_fits {v n : Int} {a : List UInt8} (h : checkF v a n = 0) : fitsF v n = 0 := by
  unfold checkF at h
  split at h
  · rename_i h1; exact absurd h h1
  · rename_i h1; simpa using h1
theorem fits_most {v n : Int} (h : fitsF v n = 0) : ∃ m, mostF v = some m ∧ mostN v = (m : Int) ∧ 0 ≤ n ∧ n ≤ (m : Int) ∧ m ≤ 128 := by
  have h0 := checkF_le h
  unfold fitsF at h
  cases hm : mostF v with
  | none => rw [hm] at h; cases h
  | some m =>
    rw [hm] at h
    simp only at h
    have h2 := mostF_le hm
    refine ⟨m, rfl, by rw [mostN, hm], h0.1, ?_, h2⟩
    split at h
    · cases h
    · omega
/-- The prefix of so many bits that an address has: its cells' parts, and what is wrong. -/
def makeV (v n : Int) : Int := if fitsF v n = 0 then v else 0
def makeA (v : Int) (a : List UInt8) (n : Int) : List UInt8 := if fitsF v n = 0 then frontTo a n.toNat else zeros 16
def makeN (v n : Int) : Int := if fitsF v n = 0 then n else 0
theorem makeA_length (v : Int) (a : List UInt8) (n : Int) : (makeA v a n).length = 16 := by
  unfold makeA; split
  · exact frontTo_length _ _
  · simp [zeros]
/-- Are there two of one bit more? -/
def halfB (v : Int) (a : List UInt8) (n : Int) : Bool := decide (checkF v a n = 0) && !decide (n = mostN v)
def halfV (v : Int) (a : List UInt8) (n : Int) : Int := if halfB v a n then v else 0
def halfL (v : Int) (a : List UInt8) (n : Int) : List UInt8 := if halfB v a n then a else zeros 16
def halfH (v : Int) (a : List UInt8) (n : Int) : List UInt8 := if halfB v a n then setA a n.toNat else zeros 16
def halfN (v : Int) (a : List UInt8) (n : Int) : Int := if halfB v a n then n + 1 else 0
/-- Has all that has one prefix another one? -/
def withinF (v : Int) (a : List UInt8) (n : Int) (w : Int) (b : List UInt8) (m : Int) : Bool := decide (checkF v a n = 0) && (decide (m ≤ n) && hasF w b m v a)
/-- Bits that are set one by one. -/
def setsTo (a : List UInt8) (n : Nat) : Nat → List UInt8
  | 0 => a
  | k + 1 => setA (setsTo a n k) (n + k)
theorem setsTo_length (a : List UInt8) (n : Nat) : ∀ k, (setsTo a n k).length = a.length
  | 0 => rfl
  | k + 1 => by rw [setsTo, setA_length, setsTo_length a n k]
theorem setsTo_bit {a : List UInt8} (ha : a.length = 16) (n : Nat) : ∀ k, n + k ≤ 128 → ∀ j, abit (setsTo a n k) j = (decide (n ≤ j ∧ j < n + k) || abit a j)
  | 0, _, j => by
    have : ¬ (n ≤ j ∧ j < n + 0) := by omega
    rw [decide_eq_false this, Bool.false_or]; rfl
  | k + 1, h, j => by
    rw [setsTo, setA_bit (by rw [setsTo_length, ha]; omega), setsTo_bit ha n k (by omega), ← Bool.or_assoc]
    congr 1
    rw [Bool.eq_iff_iff]
    simp only [Bool.or_eq_true, decide_eq_true_eq]
    omega
theorem sets_last {a : List UInt8} (ha : a.length = 16) {v : Int} {n m : Nat} (hm : mostF v = some m) (hn : n ≤ m) : setsTo a n (m - n) = lastTo a n (m / 8) := by
  have hmm := mostF_of hm
  refine addr_ext (by rw [setsTo_length, ha]) (lastTo_length _ _ _) fun i hi => ?_
  rw [setsTo_bit ha n (m - n) (by omega), lastTo_bit _ _ _ _ hi]
  split
  · congr 1
    rw [decide_eq_decide]; omega
  · have : ¬ (n ≤ i ∧ i < n + (m - n)) := by omega
    simp [this]
end Go.Proofs
