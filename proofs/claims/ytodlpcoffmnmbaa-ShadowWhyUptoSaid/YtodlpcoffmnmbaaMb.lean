import Derived.Test.YtodlpcoffmnmbaaVz
/-
  Own work. The walk over the bits that are set, as a loop over a function.
-/
namespace Go.Proofs
open Go Go.Ytodlpcoffmnmbaa
set_option linter.unusedVariables false
set_option linter.unusedSimpArgs false
set_option maxRecDepth 10000



def u64s (ws : List Nat) : List D := ws.map fun n : Nat => D.int .u64 (n : Int)
/-- Is a bit set? -/
def hasB (ws : List Nat) (i : Nat) : Bool := decide ((ws.getD (i / 64) 0) / 2 ^ (i % 64) % 2 = 1)
/-- The bits below n that are set. -/
def onesTo (ws : List Nat) (n : Nat) : List Nat := (List.range n).filter (hasB ws)

theorem onesTo_zero (ws : List Nat) : onesTo ws 0 = [] := rfl
theorem onesTo_succ (ws : List Nat) (n : Nat) : onesTo ws (n + 1) = onesTo ws n ++ if hasB ws n then [n] else [] := by
  unfold onesTo
  rw [List.range_succ, List.filter_append]
  congr 1
  cases hb : hasB ws n <;> simp [hb]
theorem u64s_length (ws : List Nat) : (u64s ws).length = ws.length := by simp [u64s]
theorem u64s_get {ws : List Nat} {k : Nat} (h : k < ws.length) : (u64s ws)[k]? = some (.int .u64 ((ws.getD k 0 : Nat) : Int)) := by
  simp [u64s, List.getD_eq_getElem?_getD, List.getElem?_eq_getElem h]
theorem hasB_at {ws : List Nat} {k j : Nat} (hj : j < 64) : hasB ws (64 * k + j) = decide ((ws.getD k 0) / 2 ^ j % 2 = 1) := by
  unfold hasB
  rw [show (64 * k + j) / 64 = k by omega, show (64 * k + j) % 64 = j by omega]
/-- When what is left of a word is nothing, none of the bits that are left is set. -/
theorem onesTo_rest {ws : List Nat} {k j : Nat} (h0 : (ws.getD k 0) / 2 ^ j = 0) : ∀ d, j + d ≤ 64 → onesTo ws (64 * k + (j + d)) = onesTo ws (64 * k + j)
  | 0, _ => rfl
  | d + 1, h => by
    rw [show 64 * k + (j + (d + 1)) = (64 * k + (j + d)) + 1 by omega, onesTo_succ, onesTo_rest h0 d (by omega), hasB_at (by omega)]
    have : (ws.getD k 0) / 2 ^ (j + d) = 0 := by
      rw [Nat.pow_add, ← Nat.div_div_eq_div_mul, h0, Nat.zero_div]
    rw [this]; simp

theorem one_sl {d : D} (h : d.sortOf = 2) : laid d = true ∧ vcells d = [d] ∧ d.one = true := by
  cases d <;> first | exact ⟨rfl, rfl, rfl⟩ | (simp [D.sortOf] at h)

end Go.Proofs

/-
  Own work. The walks of bitrow.First and bitrow.List: loops over a function.
-/
namespace Go.Proofs
open Go Go.Ytodlpcoffmnmbaa
set_option linter.unusedVariables false
set_option linter.unusedSimpArgs false
set_option maxRecDepth 10000



theorem onesTo_split (ws : List Nat) (n : Nat) : ∀ d, ∃ l, onesTo ws (n + d) = onesTo ws n ++ l ∧ (0 < d → hasB ws n = true → ∃ l', l = n :: l')
  | 0 => ⟨[], by simp, fun h => absurd h (by omega)⟩
  | d + 1 => by
    obtain ⟨l, h1, h2⟩ := onesTo_split ws n d
    rw [show n + (d + 1) = (n + d) + 1 by omega, onesTo_succ, h1, List.append_assoc]
    refine ⟨_, rfl, fun _ hb => ?_⟩
    rcases Nat.eq_zero_or_pos d with rfl | hd
    · have hl : l = [] := by simpa using h1.symm
      rw [hl, Nat.add_zero, hb]; simp
    · obtain ⟨l', rfl⟩ := h2 hd hb
      exact ⟨_, rfl⟩
def i64s (l : List Nat) : List D := l.map fun n : Nat => D.int .i64 (n : Int)
theorem i64s_snoc (l : List Nat) (n : Nat) : i64s (l ++ [n]) = i64s l ++ [.int .i64 (n : Int)] := by simp [i64s]
theorem underL_i64s (k : Nat) (l : List Nat) : underL k (i64s l) = true := by
  induction l with
  | nil => rfl
  | cons a l ih => exact (by simpa [i64s, underL, underD] using ih)
/-- All the bits that are set. -/
def onesL (ws : List Nat) : List Nat := onesTo ws (64 * ws.length)
def firstB (ws : List Nat) : Int := match onesL ws with
  | [] => -1
  | x :: _ => x

end Go.Proofs

/-
  Own work. The walks of bitrow: inside, Has, Clone, Set, New.
-/
namespace Go.Proofs
open Go Go.Ytodlpcoffmnmbaa
set_option linter.unusedVariables false
set_option linter.unusedSimpArgs false
set_option maxRecDepth 10000



/-- A slice that was made here, or nil. -/
def NewSl (h : Heap) (cs : List D) (n : Nat) (d : D) (h' : Heap) : Prop := (d = .nils ∧ cs = [] ∧ n = 0 ∧ h' = h) ∨ (d = .own h.length n ∧ h' = h ++ [.grow 1 cs n])
theorem NewSl.sl {h h' : Heap} {cs : List D} {n : Nat} {d : D} (hn : NewSl h cs n d h') (hl : cs.length = n) : SlOf h' 1 d cs n := by
  rcases hn with ⟨rfl, rfl, rfl, rfl⟩ | ⟨rfl, rfl⟩
  · exact SlOf.of rfl rfl
  · exact SlOf.of (by simp [slCells]) (by simp [hl])

def insR (n : Nat) (i : Int) : Bool := decide (0 ≤ i ∧ i.toNat / 64 < n)
/-- Is the bit set? -/
def hasR (ws : List Nat) (i : Int) : Bool := insR ws.length i && hasB ws i.toNat
theorem nil_or {h : Heap} {sz : Nat} {d : D} {cs : List D} {n : Nat} (s : SlOf h sz d cs n) : (d = .nils ∧ cs = [] ∧ n = 0) ∨ isNil h d = some false := by
  have h1 := s.sort
  have h2 := s.slen
  have h3 := s.cells
  cases d <;> first | exact .inr rfl | (simp [D.sortOf] at h1; done) | skip
  · simp only [slCells, Option.some.injEq, Prod.mk.injEq] at h3
    exact .inl ⟨rfl, h3.1.symm, h3.2.symm⟩
  all_goals
    right
    simp only [isNil, h2, Option.map_some]

theorem src_of {h : Heap} {sz : Nat} {d : D} {cs : List D} {n : Nat} (s : SlOf h sz d cs n) : srcCells h sz d = some (cs, n) := by
  have h1 := s.sort
  have h3 := s.cells
  cases d <;> first | exact h3 | (simp [D.sortOf] at h1; done)
theorem one_u64s (ws : List Nat) : (u64s ws).all D.one = true := by
  rw [List.all_eq_true]
  intro d hd
  obtain ⟨n, _, rfl⟩ := List.mem_map.1 hd
  rfl
theorem under_u64s (k : Nat) (ws : List Nat) : underL k (u64s ws) = true := by
  induction ws with
  | nil => rfl
  | cons a l ih => simpa [u64s, underL, underD] using ih

/-- A row with a bit set. -/
def setR (ws : List Nat) (i : Int) : List Nat := if insR ws.length i then ws.set (i.toNat / 64) (ws.getD (i.toNat / 64) 0 ||| 2 ^ (i.toNat % 64)) else ws
theorem setR_length (ws : List Nat) (i : Int) : (setR ws i).length = ws.length := by unfold setR; split <;> simp
theorem u64s_set (ws : List Nat) (k n : Nat) : u64s (ws.set k n) = (u64s ws).set k (.int .u64 (n : Int)) := by simp [u64s, List.map_set]
theorem setR_lt {ws : List Nat} (hw : ∀ w ∈ ws, w < 18446744073709551616) (i : Int) : ∀ w ∈ setR ws i, w < 18446744073709551616 := by
  unfold setR
  split
  · rename_i hb
    simp only [insR, decide_eq_true_eq] at hb
    intro w hm
    rcases List.mem_or_eq_of_mem_set hm with hm | rfl
    · exact hw w hm
    · have h1 : ws.getD (i.toNat / 64) 0 < 2 ^ 64 := hw _ (by simp [List.getD_eq_getElem?_getD, List.getElem?_eq_getElem hb.2])
      have h2 : 2 ^ (i.toNat % 64) < 2 ^ 64 := Nat.pow_lt_pow_right (by omega) (by omega)
      exact Nat.or_lt_two_pow h1 h2
  · exact hw
/-- A row of so many bits. -/
def newR (n : Int) : List Nat := if n < 0 ∨ 65536 < n then [] else List.replicate ((n.toNat + 63) / 64) 0
theorem newR_lt (n : Int) : ∀ w ∈ newR n, w < 18446744073709551616 := by
  unfold newR
  split
  · simp
  · intro w hw; rw [(List.mem_replicate.1 hw).2]; omega
theorem newR_len (n : Int) : (newR n).length ≤ 1025 := by
  unfold newR
  split
  · simp
  · rw [List.length_replicate]; omega
end Go.Proofs

/-
  Own work. The walks of bitrow: All, Count.
-/
namespace Go.Proofs
open Go Go.Ytodlpcoffmnmbaa
set_option linter.unusedVariables false
set_option linter.unusedSimpArgs false
set_option maxRecDepth 10000



/-- The first n bits set, word k of it. -/
def allW (n k : Nat) : Nat := if n - 64 * k < 64 then 2 ^ (n - 64 * k) - 1 else 18446744073709551615
def allR (n : Int) : List Nat := (List.range (newR n).length).map (allW n.toNat)
theorem allW_lt (n k : Nat) : allW n k < 18446744073709551616 := by
  unfold allW
  split
  · rename_i h
    have : 2 ^ (n - 64 * k) < 18446744073709551616 := Nat.lt_of_lt_of_eq (Nat.pow_lt_pow_right (n := 64) (by omega) (by omega)) (by rfl)
    omega
  · omega
theorem allR_length (n : Int) : (allR n).length = (newR n).length := by simp [allR]
theorem allR_lt (n : Int) : ∀ w ∈ allR n, w < 18446744073709551616 := by
  intro w hw
  obtain ⟨k, _, rfl⟩ := List.mem_map.1 hw
  exact allW_lt _ _
/-- The words that have been laid. -/
def allTo (n q k : Nat) : List Nat := (List.range k).map (allW n) ++ List.replicate (q - k) 0
theorem allTo_length {n q k : Nat} (h : k ≤ q) : (allTo n q k).length = q := by simp [allTo]; omega
theorem allTo_set {n q k : Nat} (h : k < q) : (allTo n q k).set k (allW n k) = allTo n q (k + 1) := by
  unfold allTo
  have hl : ((List.range k).map (allW n)).length = k := by simp
  rw [List.set_append_right _ _ (by omega), hl, Nat.sub_self, show q - k = (q - (k + 1)) + 1 by omega, List.replicate_succ, List.set_cons_zero, List.range_succ, List.map_append]
  simp

/-! ### Count -/
def popc : Nat → Nat → Nat
  | _, 0 => 0
  | w, n + 1 => w % 2 + popc (w / 2) n
theorem popc_top : ∀ (n w : Nat), popc w (n + 1) = popc w n + w / 2 ^ n % 2
  | 0, w => by simp [popc]
  | n + 1, w => by
    rw [popc, popc_top n (w / 2), popc, Nat.div_div_eq_div_mul, Nat.pow_succ, Nat.mul_comm (2 ^ n) 2]
    omega
theorem popc_le : ∀ (n w : Nat), popc w n ≤ n
  | 0, _ => Nat.le_refl _
  | n + 1, w => by rw [popc]; have := popc_le n (w / 2); omega
theorem popc_zero : ∀ n, popc 0 n = 0
  | 0 => rfl
  | n + 1 => by rw [popc]; simp [popc_zero n]
theorem kern : ∀ (n w : Nat), w ≠ 0 → w < 2 ^ n → popc (w &&& (w - 1)) n + 1 = popc w n
  | 0, w, h0, h => by simp at h; omega
  | n + 1, w, h0, h => by
    have hm : (w &&& (w - 1)) % 2 = 0 := by
      have := Nat.and_mod_two_pow (a := w) (b := w - 1) (n := 1)
      rw [Nat.pow_one] at this
      rw [this]
      rcases Nat.mod_two_eq_zero_or_one w with e | e
      · rw [e]; simp
      · rw [show (w - 1) % 2 = 0 by omega]; simp
    have hd : (w &&& (w - 1)) / 2 = w / 2 &&& (w - 1) / 2 := Nat.and_div_two
    rw [popc, popc, hm, hd]
    rcases Nat.mod_two_eq_zero_or_one w with e | e
    · rw [show (w - 1) / 2 = w / 2 - 1 by omega]
      have := kern n (w / 2) (by omega) (by rw [Nat.pow_succ] at h; omega)
      omega
    · rw [show (w - 1) / 2 = w / 2 by omega, Nat.and_self]
      omega
theorem onesTo_pc (ws : List Nat) (k : Nat) : ∀ n, n ≤ 64 → (onesTo ws (64 * k + n)).length = (onesTo ws (64 * k)).length + popc (ws.getD k 0) n
  | 0, _ => by simp [popc]
  | n + 1, h => by
    have hb2 := Nat.mod_two_eq_zero_or_one (ws.getD k 0 / 2 ^ n)
    rw [show 64 * k + (n + 1) = (64 * k + n) + 1 by omega, onesTo_succ, List.length_append, onesTo_pc ws k n (by omega), popc_top, hasB_at (by omega)]
    generalize ws.getD k 0 / 2 ^ n % 2 = b at *
    by_cases e : b = 1
    · simp [e]; omega
    · have : b = 0 := by omega
      simp [this]

end Go.Proofs

/-
  Own work. The walks of the document's bits: bit, are, Bits, SetBits; Same, SameInts, Has, New.
-/
namespace Go.Proofs
open Go Go.Ytodlpcoffmnmbaa
set_option linter.unusedVariables false
set_option linter.unusedSimpArgs false
set_option maxRecDepth 10000

/-! ### weighbridge/weighbridgeref01.bit, params 2 -/
def c98r0 : List AStm := [.op (some 4) none (.mv (.c (.int .u64 0)))]
def c98r1 : List AStm := [.op (some 5) none (.mv (.t 1)),
    .op (some 6) none (.bin .gtr (.t 5) (.c (.int .i64 0)))]
def c98r2 : List AStm := [.op (some 9) none (.mv (.t 0)),
    .op (some 10) none (.bin .quo (.t 9) (.c (.int .u64 2))),
    .op (some 0) none (.mv (.t 10))]
def c98r3 : List AStm := [.op (some 7) none (.mv (.t 1)),
    .op (some 8) none (.bin .sub (.t 7) (.c (.int .i64 1))),
    .op (some 1) none (.mv (.t 8))]
def c98l4 : AC := .seq (.seq (.reg c98r1) (.cond (.t 6) (.skip) (.exit 0))) (.seq (.block 1 (.reg c98r2)) (.reg c98r3))
def c98r5 : List AStm := [.op (some 11) none (.mv (.t 0)),
    .op (some 12) none (.bin .rem (.t 11) (.c (.int .u64 2))),
    .op (some 4) none (.mv (.t 12))]
def c98 : CF := ⟨.seq (.reg c98r0) (.seq (.block 0 (.loop c98l4)) (.seq (.reg c98r5) (.ret))), [.tmp 4], 13⟩
theorem cf98 : cfun Try.prog 98 = some c98 := by kernel_rfl

/-! ### weighbridge/weighbridgeref01.are, params 2 -/
def c97r0 : List AStm := [.op (some 4) none (.mv (.c (.bool false)))]
def c97r1 : List AStm := [.op (some 5) none (.mv (.t 0)),
    .op (some 6) none (.bin .geq (.t 5) (.c (.int .i64 0))),
    .op (some 7) none (.mv (.t 6)),
    .op (some 8) (some (7, true)) (.mv (.t 0)),
    .op (some 9) (some (7, true)) (.bin .leq (.t 8) (.c (.int .i64 63))),
    .op (some 10) none (.pick (.t 7) (.t 9) (.c (.bool false))),
    .op (some 11) none (.mv (.t 10)),
    .op (some 12) (some (11, true)) (.mv (.t 1)),
    .op (some 13) (some (11, true)) (.bin .geq (.t 12) (.c (.int .i64 0))),
    .op (some 14) none (.pick (.t 11) (.t 13) (.c (.bool false))),
    .op (some 15) none (.mv (.t 14)),
    .op (some 16) (some (15, true)) (.mv (.t 1)),
    .op (some 17) (some (15, true)) (.mv (.t 0)),
    .op (some 18) (some (15, true)) (.bin .sub (.c (.int .i64 64)) (.t 17)),
    .op (some 19) (some (15, true)) (.bin .leq (.t 16) (.t 18)),
    .op (some 20) none (.pick (.t 15) (.t 19) (.c (.bool false))),
    .op (some 4) none (.mv (.t 20))]
def c97 : CF := ⟨.seq (.reg c97r0) (.seq (.reg c97r1) (.ret)), [.tmp 4], 21⟩
theorem cf97 : cfun Try.prog 97 = some c97 := by kernel_rfl

/-! ### weighbridge/weighbridgeref01.Bits, params 3 -/
def c82r0 : List AStm := [.op (some 6) none (.mv (.c (.int .u64 0)))]
def c82r1 : List AStm := [.op (some 9) none (.mv (.t 1)),
    .op (some 10) none (.mv (.t 2)),
    .call (some 11) none (.c (.fn (.func 97) [] [])) [(.t 9), (.t 10)],
    .op (some 12) none (.un .not (.t 11))]
def c82r2 : List AStm := [.op (some 6) none (.mv (.c (.int .u64 0)))]
def c82r3 : List AStm := [.op (some 7) none (.mv (.c (.int .u64 0)))]
def c82r4 : List AStm := [.op (some 13) none (.mv (.t 2)),
    .op (some 14) none (.bin .sub (.t 13) (.c (.int .i64 1))),
    .op (some 8) none (.mv (.t 14))]
def c82r5 : List AStm := [.op (some 15) none (.mv (.t 8)),
    .op (some 16) none (.bin .geq (.t 15) (.c (.int .i64 0)))]
def c82r6 : List AStm := [.op (some 19) none (.mv (.t 7)),
    .op (some 20) none (.bin .mul (.t 19) (.c (.int .u64 2))),
    .op (some 21) none (.mv (.t 0)),
    .op (some 22) none (.mv (.t 1)),
    .op (some 23) none (.mv (.t 8)),
    .op (some 24) none (.bin .add (.t 22) (.t 23)),
    .call (some 25) none (.c (.fn (.func 98) [] [])) [(.t 21), (.t 24)],
    .op (some 26) none (.bin .add (.t 20) (.t 25)),
    .op (some 7) none (.mv (.t 26))]
def c82r7 : List AStm := [.op (some 17) none (.mv (.t 8)),
    .op (some 18) none (.bin .sub (.t 17) (.c (.int .i64 1))),
    .op (some 8) none (.mv (.t 18))]
def c82l8 : AC := .seq (.seq (.reg c82r5) (.cond (.t 16) (.skip) (.exit 0))) (.seq (.block 1 (.reg c82r6)) (.reg c82r7))
def c82r9 : List AStm := [.op (some 27) none (.mv (.t 7)),
    .op (some 6) none (.mv (.t 27))]
def c82 : CF := ⟨.seq (.reg c82r0) (.seq (.seq (.reg c82r1) (.cond (.t 12) (.seq (.reg c82r2) (.ret)) (.skip))) (.seq (.reg c82r3) (.seq (.seq (.reg c82r4) (.block 0 (.loop c82l8))) (.seq (.reg c82r9) (.ret))))), [.tmp 6], 28⟩
theorem cf82 : cfun Try.prog 82 = some c82 := by kernel_rfl

/-! ### weighbridge/weighbridgeref01.SetBits, params 4 -/
def c106r0 : List AStm := [.op (some 8) none (.mv (.c (.int .u64 0)))]
def c106r1 : List AStm := [.op (some 11) none (.mv (.t 1)),
    .op (some 12) none (.mv (.t 2)),
    .call (some 13) none (.c (.fn (.func 97) [] [])) [(.t 11), (.t 12)],
    .op (some 14) none (.un .not (.t 13))]
def c106r2 : List AStm := [.op (some 15) none (.mv (.t 0)),
    .op (some 8) none (.mv (.t 15))]
def c106r3 : List AStm := [.op (some 9) none (.mv (.c (.int .u64 0)))]
def c106r4 : List AStm := [.op (some 10) none (.mv (.c (.int .i64 63)))]
def c106r5 : List AStm := [.op (some 16) none (.mv (.t 10)),
    .op (some 17) none (.bin .geq (.t 16) (.c (.int .i64 0)))]
def c106r6 : List AStm := [.op (some 20) none (.mv (.t 10)),
    .op (some 21) none (.mv (.t 1)),
    .op (some 22) none (.bin .geq (.t 20) (.t 21)),
    .op (some 23) none (.mv (.t 22)),
    .op (some 24) (some (23, true)) (.mv (.t 10)),
    .op (some 25) (some (23, true)) (.mv (.t 1)),
    .op (some 26) (some (23, true)) (.mv (.t 2)),
    .op (some 27) (some (23, true)) (.bin .add (.t 25) (.t 26)),
    .op (some 28) (some (23, true)) (.bin .lss (.t 24) (.t 27)),
    .op (some 29) none (.pick (.t 23) (.t 28) (.c (.bool false)))]
def c106r7 : List AStm := [.op (some 30) none (.mv (.t 9)),
    .op (some 31) none (.bin .mul (.t 30) (.c (.int .u64 2))),
    .op (some 32) none (.mv (.t 3)),
    .op (some 33) none (.mv (.t 10)),
    .op (some 34) none (.mv (.t 1)),
    .op (some 35) none (.bin .sub (.t 33) (.t 34)),
    .call (some 36) none (.c (.fn (.func 98) [] [])) [(.t 32), (.t 35)],
    .op (some 37) none (.bin .add (.t 31) (.t 36)),
    .op (some 9) none (.mv (.t 37))]
def c106r8 : List AStm := [.op (some 38) none (.mv (.t 9)),
    .op (some 39) none (.bin .mul (.t 38) (.c (.int .u64 2))),
    .op (some 40) none (.mv (.t 0)),
    .op (some 41) none (.mv (.t 10)),
    .call (some 42) none (.c (.fn (.func 98) [] [])) [(.t 40), (.t 41)],
    .op (some 43) none (.bin .add (.t 39) (.t 42)),
    .op (some 9) none (.mv (.t 43))]
def c106r9 : List AStm := [.op (some 18) none (.mv (.t 10)),
    .op (some 19) none (.bin .sub (.t 18) (.c (.int .i64 1))),
    .op (some 10) none (.mv (.t 19))]
def c106l10 : AC := .seq (.seq (.reg c106r5) (.cond (.t 17) (.skip) (.exit 0))) (.seq (.block 1 (.seq (.reg c106r6) (.cond (.t 29) (.reg c106r7) (.reg c106r8)))) (.reg c106r9))
def c106r11 : List AStm := [.op (some 44) none (.mv (.t 9)),
    .op (some 8) none (.mv (.t 44))]
def c106 : CF := ⟨.seq (.reg c106r0) (.seq (.seq (.reg c106r1) (.cond (.t 14) (.seq (.reg c106r2) (.ret)) (.skip))) (.seq (.reg c106r3) (.seq (.seq (.reg c106r4) (.block 0 (.loop c106l10))) (.seq (.reg c106r11) (.ret))))), [.tmp 8], 45⟩
theorem cf106 : cfun Try.prog 106 = some c106 := by kernel_rfl

/-! ### weighbridge/weighbridgeref18.Has, params 2 -/
def c55r0 : List AStm := [.op (some 4) none (.mv (.c (.bool false)))]
def c55r1 : List AStm := [.op (some 5) none (.mv (.t 1)),
    .op (some 6) none (.bin .lss (.t 5) (.c (.int .i64 0))),
    .op (some 7) none (.mv (.t 6)),
    .op (some 8) (some (7, false)) (.mv (.t 1)),
    .op (some 9) (some (7, false)) (.bin .quo (.t 8) (.c (.int .i64 64))),
    .op (some 10) (some (7, false)) (.mv (.t 0)),
    .op (some 11) (some (7, false)) (.len false (.t 10)),
    .op (some 12) (some (7, false)) (.bin .geq (.t 9) (.t 11)),
    .op (some 13) none (.pick (.t 7) (.c (.bool true)) (.t 12))]
def c55r2 : List AStm := [.op (some 4) none (.mv (.c (.bool false)))]
def c55r3 : List AStm := [.op (some 14) none (.mv (.t 0)),
    .op (some 15) none (.mv (.t 1)),
    .op (some 16) none (.bin .quo (.t 15) (.c (.int .i64 64))),
    .op (some 17) none (.ixs 1 (.t 14) (.t 16)),
    .op (some 18) none (.load none (.t 17)),
    .op (some 19) none (.mv (.t 1)),
    .op (some 20) none (.bin .rem (.t 19) (.c (.int .i64 64))),
    .call (some 21) none (.c (.fn (.func 82) [] [])) [(.t 18), (.t 20), (.c (.int .i64 1))],
    .op (some 22) none (.bin .eql (.t 21) (.c (.int .u64 1))),
    .op (some 4) none (.mv (.t 22))]
def c55 : CF := ⟨.seq (.reg c55r0) (.seq (.seq (.reg c55r1) (.cond (.t 13) (.seq (.reg c55r2) (.ret)) (.skip))) (.seq (.reg c55r3) (.ret))), [.tmp 4], 23⟩
theorem cf55 : cfun Try.prog 55 = some c55 := by kernel_rfl



theorem bit_fc (h : Heap) (n m : Nat) (hn : n < 18446744073709551616) (hm : m ≤ 1000) :
    FC Try.prog 98 [.int .u64 (n : Int), .int .i64 (m : Int)] h fun d h' => d = .int .u64 ((n / 2 ^ m % 2 : Nat) : Int) ∧ h' = h := by
  refine FC.goes cf98 ?_; simp only [c98]; simp only [List.length_cons, List.length_nil, Nat.reduceAdd, Nat.reduceSub, List.replicate_succ, List.replicate_zero, List.cons_append, List.nil_append]
  simp (disch := first | omega | (simp only [List.length_append, List.length_cons, List.length_nil]; omega)) only [c98r0, c98r1, c98r2, c98r3, c98l4, c98r5, go_sem, fill_c, ↓reduceIte, reduceCtorEq, Nat.reduceAdd, Nat.reduceSub, Nat.reducePow, Nat.reduceMul, Nat.reduceEqDiff, Nat.reduceLT, Nat.reduceLeDiff, Int.reduceToNat, Int.reduceLT, Int.reduceLE, Int.reduceEq, Int.reduceNeg, Int.reduceAdd, Int.reduceSub, Int.reduceMul]
  refine loop_to m (fun k st => ∃ (v : Nat) (i : Nat), v = n / 2 ^ k ∧ i + k = m ∧ ∃ (j : Nat → D), st = ⟨(.int .u64 (v : Int) :: .int .i64 (i : Int) :: j 2 :: j 3 :: j 4 :: j 5 :: j 6 :: j 7 :: j 8 :: j 9 :: j 10 :: j 11 :: j 12 :: []), h⟩) ⟨n, m, by simp, by omega, junk rfl⟩ ?_
  rintro k st hk ⟨v, i, hv, hi, j, rfl⟩
  have hvl : v < 18446744073709551616 := by
    have : n / 2 ^ k ≤ n := Nat.div_le_self _ _
    omega
  by_cases hkm : k < m
  · have h0 : (0 : Int) < i := by omega
    have e1 : IntKind.u64.wrap ((v / 2 : Nat) : Int) = ((v / 2 : Nat) : Int) := w_u64 (by omega) (by omega)
    have e2 : IntKind.i64.wrap ((i : Int) - 1) = ((i - 1 : Nat) : Int) := by rw [w_i64 (by omega) (by omega)]; omega
    simp (disch := first | omega | (simp only [List.length_append, List.length_cons, List.length_nil]; omega)) only [c98r0, c98r1, c98r2, c98r3, c98l4, c98r5, h0, e1, e2, go_sem, fill_c, ↓reduceIte, reduceCtorEq, Nat.reduceAdd, Nat.reduceSub, Nat.reducePow, Nat.reduceMul, Nat.reduceEqDiff, Nat.reduceLT, Nat.reduceLeDiff, Int.reduceToNat, Int.reduceLT, Int.reduceLE, Int.reduceEq, Int.reduceNeg, Int.reduceAdd, Int.reduceSub, Int.reduceMul]
    refine ⟨hkm, v / 2, i - 1, ?_, by omega, junk rfl⟩
    rw [hv, Nat.pow_succ, Nat.div_div_eq_div_mul]
  · have h0 : ¬ (0 : Int) < i := by omega
    have : k = m := by omega
    subst this
    have e1 : IntKind.u64.wrap ((v % 2 : Nat) : Int) = ((v % 2 : Nat) : Int) := w_u64 (by omega) (by omega)
    simp (disch := first | omega | (simp only [List.length_append, List.length_cons, List.length_nil]; omega)) only [c98r0, c98r1, c98r2, c98r3, c98l4, c98r5, h0, e1, go_sem, fill_c, ↓reduceIte, reduceCtorEq, Nat.reduceAdd, Nat.reduceSub, Nat.reducePow, Nat.reduceMul, Nat.reduceEqDiff, Nat.reduceLT, Nat.reduceLeDiff, Int.reduceToNat, Int.reduceLT, Int.reduceLE, Int.reduceEq, Int.reduceNeg, Int.reduceAdd, Int.reduceSub, Int.reduceMul]
    rw [hv]
    exact FinOk.all ⟨rfl, rfl⟩

theorem are_fc (h : Heap) (m : Nat) (hm : m < 64) :
    FC Try.prog 97 [.int .i64 (m : Int), .int .i64 1] h fun d h' => d = .bool true ∧ h' = h := by
  refine FC.goes cf97 ?_; simp only [c97]; simp only [List.length_cons, List.length_nil, Nat.reduceAdd, Nat.reduceSub, List.replicate_succ, List.replicate_zero, List.cons_append, List.nil_append]
  have h1 : (0 : Int) ≤ m := by omega
  have h2 : (m : Int) ≤ 63 := by omega
  have e1 : IntKind.i64.wrap (64 - (m : Int)) = 64 - (m : Int) := w_i64 (by omega) (by omega)
  have h3 : (1 : Int) ≤ 64 - m := by omega
  simp (disch := first | omega | (simp only [List.length_append, List.length_cons, List.length_nil]; omega)) only [c97r0, c97r1, h1, h2, e1, h3, go_sem, fill_c, ↓reduceIte, reduceCtorEq, Nat.reduceAdd, Nat.reduceSub, Nat.reducePow, Nat.reduceMul, Nat.reduceEqDiff, Nat.reduceLT, Nat.reduceLeDiff, Int.reduceToNat, Int.reduceLT, Int.reduceLE, Int.reduceEq, Int.reduceNeg, Int.reduceAdd, Int.reduceSub, Int.reduceMul]
  exact FinOk.all ⟨rfl, rfl⟩

theorem bitsR_fc (h : Heap) (n m : Nat) (hn : n < 18446744073709551616) (hm : m < 64) :
    FC Try.prog 82 [.int .u64 (n : Int), .int .i64 (m : Int), .int .i64 1] h fun d h' => d = .int .u64 ((n / 2 ^ m % 2 : Nat) : Int) ∧ h' = h := by
  refine FC.goes cf82 ?_; simp only [c82]; simp only [List.length_cons, List.length_nil, Nat.reduceAdd, Nat.reduceSub, List.replicate_succ, List.replicate_zero, List.cons_append, List.nil_append]
  simp (disch := first | omega | (simp only [List.length_append, List.length_cons, List.length_nil]; omega)) only [c82r0, c82r1, c82r2, c82r3, c82r4, c82r5, c82r6, c82r7, c82l8, c82r9, go_sem, fill_c, ↓reduceIte, reduceCtorEq, Nat.reduceAdd, Nat.reduceSub, Nat.reducePow, Nat.reduceMul, Nat.reduceEqDiff, Nat.reduceLT, Nat.reduceLeDiff, Int.reduceToNat, Int.reduceLT, Int.reduceLE, Int.reduceEq, Int.reduceNeg, Int.reduceAdd, Int.reduceSub, Int.reduceMul]
  refine gfc_of (are_fc _ m hm) ?_
  rintro d h2 ⟨rfl, e⟩
  rw [e]
  simp (disch := first | omega | (simp only [List.length_append, List.length_cons, List.length_nil]; omega)) only [go_sem, fill_c, ↓reduceIte, reduceCtorEq, Nat.reduceAdd, Nat.reduceSub, Nat.reducePow, Nat.reduceMul, Nat.reduceEqDiff, Nat.reduceLT, Nat.reduceLeDiff, Int.reduceToNat, Int.reduceLT, Int.reduceLE, Int.reduceEq, Int.reduceNeg, Int.reduceAdd, Int.reduceSub, Int.reduceMul]
  have hb : n / 2 ^ m % 2 < 2 := Nat.mod_lt _ (by omega)
  refine loop_to 1 (fun k st => ((k = 0 ∧ ∃ (j : Nat → D), st = ⟨(.int .u64 (n : Int) :: .int .i64 (m : Int) :: j 2 :: j 3 :: j 4 :: j 5 :: j 6 :: .int .u64 0 :: .int .i64 0 :: j 9 :: j 10 :: j 11 :: j 12 :: j 13 :: j 14 :: j 15 :: j 16 :: j 17 :: j 18 :: j 19 :: j 20 :: j 21 :: j 22 :: j 23 :: j 24 :: j 25 :: j 26 :: j 27 :: []), h⟩) ∨ (k = 1 ∧ ∃ (j : Nat → D), st = ⟨(.int .u64 (n : Int) :: .int .i64 (m : Int) :: j 2 :: j 3 :: j 4 :: j 5 :: j 6 :: .int .u64 ((n / 2 ^ m % 2 : Nat) : Int) :: .int .i64 (-1) :: j 9 :: j 10 :: j 11 :: j 12 :: j 13 :: j 14 :: j 15 :: j 16 :: j 17 :: j 18 :: j 19 :: j 20 :: j 21 :: j 22 :: j 23 :: j 24 :: j 25 :: j 26 :: j 27 :: []), h⟩))) (.inl ⟨rfl, junk rfl⟩) ?_
  rintro k st hk (⟨rfl, j, rfl⟩ | ⟨rfl, j, rfl⟩)
  · have e1 : IntKind.i64.wrap ((m : Int) + 0) = ((m : Nat) : Int) := by rw [w_i64 (by omega) (by omega)]; omega
    simp (disch := first | omega | (simp only [List.length_append, List.length_cons, List.length_nil]; omega)) only [c82r0, c82r1, c82r2, c82r3, c82r4, c82r5, c82r6, c82r7, c82l8, c82r9, e1, go_sem, fill_c, ↓reduceIte, reduceCtorEq, Nat.reduceAdd, Nat.reduceSub, Nat.reducePow, Nat.reduceMul, Nat.reduceEqDiff, Nat.reduceLT, Nat.reduceLeDiff, Int.reduceToNat, Int.reduceLT, Int.reduceLE, Int.reduceEq, Int.reduceNeg, Int.reduceAdd, Int.reduceSub, Int.reduceMul]
    refine gfc_of (bit_fc _ n m hn (by omega)) ?_
    rintro d h2 ⟨rfl, e⟩
    rw [e]
    generalize n / 2 ^ m % 2 = b at *
    have e2 : IntKind.u64.wrap (0 + (b : Int)) = (b : Int) := by rw [w_u64 (by omega) (by omega)]; omega
    simp (disch := first | omega | (simp only [List.length_append, List.length_cons, List.length_nil]; omega)) only [e2, go_sem, fill_c, ↓reduceIte, reduceCtorEq, Nat.reduceAdd, Nat.reduceSub, Nat.reducePow, Nat.reduceMul, Nat.reduceEqDiff, Nat.reduceLT, Nat.reduceLeDiff, Int.reduceToNat, Int.reduceLT, Int.reduceLE, Int.reduceEq, Int.reduceNeg, Int.reduceAdd, Int.reduceSub, Int.reduceMul]
    exact .inr (junk rfl)
  · simp (disch := first | omega | (simp only [List.length_append, List.length_cons, List.length_nil]; omega)) only [c82r0, c82r1, c82r2, c82r3, c82r4, c82r5, c82r6, c82r7, c82l8, c82r9, go_sem, fill_c, ↓reduceIte, reduceCtorEq, Nat.reduceAdd, Nat.reduceSub, Nat.reducePow, Nat.reduceMul, Nat.reduceEqDiff, Nat.reduceLT, Nat.reduceLeDiff, Int.reduceToNat, Int.reduceLT, Int.reduceLE, Int.reduceEq, Int.reduceNeg, Int.reduceAdd, Int.reduceSub, Int.reduceMul]
    exact FinOk.all ⟨rfl, rfl⟩

theorem testBit_def (n i : Nat) : n.testBit i = decide (n / 2 ^ i % 2 = 1) := Nat.testBit_eq_decide_div_mod_eq
theorem or_bit (n m i : Nat) : (n ||| 2 ^ m) / 2 ^ i % 2 = if i = m then 1 else n / 2 ^ i % 2 := by
  have h := testBit_def (n ||| 2 ^ m) i
  rw [Nat.testBit_or, Nat.testBit_two_pow, testBit_def] at h
  have h1 := Nat.mod_two_eq_zero_or_one ((n ||| 2 ^ m) / 2 ^ i)
  have h2 := Nat.mod_two_eq_zero_or_one (n / 2 ^ i)
  by_cases e : i = m
  · subst e
    simp only [decide_true, Bool.or_true] at h
    have := of_decide_eq_true h.symm
    simp [this]
  · rw [if_neg e]
    have e' : ¬ m = i := fun h => e h.symm
    simp only [e', decide_false, Bool.or_false] at h
    rw [decide_eq_decide] at h
    omega
theorem bit_up (v i : Nat) : v / 2 ^ i = v / 2 ^ (i + 1) * 2 + v / 2 ^ i % 2 := by
  rw [Nat.pow_succ, ← Nat.div_div_eq_div_mul]; omega

theorem setBits_fc (h : Heap) (n m : Nat) (hn : n < 18446744073709551616) (hm : m < 64) :
    FC Try.prog 106 [.int .u64 (n : Int), .int .i64 (m : Int), .int .i64 1, .int .u64 1] h fun d h' => d = .int .u64 ((n ||| 2 ^ m : Nat) : Int) ∧ h' = h := by
  refine FC.goes cf106 ?_; simp only [c106]; simp only [List.length_cons, List.length_nil, Nat.reduceAdd, Nat.reduceSub, List.replicate_succ, List.replicate_zero, List.cons_append, List.nil_append]
  simp (disch := first | omega | (simp only [List.length_append, List.length_cons, List.length_nil]; omega)) only [c106r0, c106r1, c106r2, c106r3, c106r4, c106r5, c106r6, c106r7, c106r8, c106r9, c106l10, c106r11, go_sem, fill_c, ↓reduceIte, reduceCtorEq, Nat.reduceAdd, Nat.reduceSub, Nat.reducePow, Nat.reduceMul, Nat.reduceEqDiff, Nat.reduceLT, Nat.reduceLeDiff, Int.reduceToNat, Int.reduceLT, Int.reduceLE, Int.reduceEq, Int.reduceNeg, Int.reduceAdd, Int.reduceSub, Int.reduceMul]
  refine gfc_of (are_fc _ m hm) ?_
  rintro d h2 ⟨rfl, e⟩
  rw [e]
  simp (disch := first | omega | (simp only [List.length_append, List.length_cons, List.length_nil]; omega)) only [go_sem, fill_c, ↓reduceIte, reduceCtorEq, Nat.reduceAdd, Nat.reduceSub, Nat.reducePow, Nat.reduceMul, Nat.reduceEqDiff, Nat.reduceLT, Nat.reduceLeDiff, Int.reduceToNat, Int.reduceLT, Int.reduceLE, Int.reduceEq, Int.reduceNeg, Int.reduceAdd, Int.reduceSub, Int.reduceMul]
  have hp : 2 ^ m < 2 ^ 64 := Nat.pow_lt_pow_right (by omega) hm
  have hV : (n ||| 2 ^ m) < 2 ^ 64 := Nat.or_lt_two_pow (by omega) hp
  have hob := or_bit n m
  generalize hVe : (n ||| 2 ^ m) = V at *
  refine loop_to 64 (fun k st => ∃ (v : Nat), v = V / 2 ^ (64 - k) ∧ ∃ (j : Nat → D), st = ⟨(.int .u64 (n : Int) :: .int .i64 (m : Int) :: .int .i64 1 :: .int .u64 1 :: j 4 :: j 5 :: j 6 :: j 7 :: j 8 :: .int .u64 (v : Int) :: .int .i64 (63 - (k : Int)) :: j 11 :: j 12 :: j 13 :: j 14 :: j 15 :: j 16 :: j 17 :: j 18 :: j 19 :: j 20 :: j 21 :: j 22 :: j 23 :: j 24 :: j 25 :: j 26 :: j 27 :: j 28 :: j 29 :: j 30 :: j 31 :: j 32 :: j 33 :: j 34 :: j 35 :: j 36 :: j 37 :: j 38 :: j 39 :: j 40 :: j 41 :: j 42 :: j 43 :: j 44 :: []), h⟩) ⟨0, by rw [Nat.div_eq_of_lt hV], junk rfl⟩ ?_
  rintro k st hk ⟨v, hv, j, rfl⟩
  have hvl : v < 18446744073709551616 := by
    have : V / 2 ^ (64 - k) ≤ V := Nat.div_le_self _ _
    omega
  by_cases hk64 : k < 64
  · obtain ⟨i, hi⟩ : ∃ i, i + k = 63 := ⟨63 - k, by omega⟩
    have ei : (63 - (k : Int)) = (i : Int) := by omega
    have hup := bit_up V i
    rw [show 64 - k = i + 1 by omega] at hv
    rw [← hv, hob i] at hup
    have hvb : V / 2 ^ i < 18446744073709551616 := by
      have : V / 2 ^ i ≤ V := Nat.div_le_self _ _
      omega
    have hnb : n / 2 ^ i % 2 < 2 := Nat.mod_lt _ (by omega)
    have h0 : (0 : Int) ≤ i := by omega
    have e2 : IntKind.i64.wrap ((m : Int) + 1) = (m : Int) + 1 := w_i64 (by omega) (by omega)
    rw [ei]
    by_cases him : i = m
    · subst him
      have h3 : (i : Int) < (i : Int) + 1 := by omega
      have e3 : IntKind.u64.wrap ((v : Int) * 2) = ((v * 2 : Nat) : Int) := by rw [w_u64 (by omega) (by omega)]; omega
      have e4 : IntKind.i64.wrap ((i : Int) - i) = 0 := by rw [w_i64 (by omega) (by omega)]; omega
      simp (disch := first | omega | (simp only [List.length_append, List.length_cons, List.length_nil]; omega)) only [c106r0, c106r1, c106r2, c106r3, c106r4, c106r5, c106r6, c106r7, c106r8, c106r9, c106l10, c106r11, h0, Int.le_refl, e2, h3, e3, e4, go_sem, fill_c, ↓reduceIte, reduceCtorEq, Nat.reduceAdd, Nat.reduceSub, Nat.reducePow, Nat.reduceMul, Nat.reduceEqDiff, Nat.reduceLT, Nat.reduceLeDiff, Int.reduceToNat, Int.reduceLT, Int.reduceLE, Int.reduceEq, Int.reduceNeg, Int.reduceAdd, Int.reduceSub, Int.reduceMul]
      refine gfc_of (bit_fc _ 1 0 (by omega) (by omega)) ?_
      rintro d h2 ⟨rfl, e⟩
      rw [e]
      have e5 : IntKind.u64.wrap (((v * 2 : Nat) : Int) + ((1 / 2 ^ 0 % 2 : Nat) : Int)) = ((V / 2 ^ i : Nat) : Int) := by
        rw [if_pos rfl] at hup
        rw [show 1 / 2 ^ 0 % 2 = 1 by decide, w_u64 (by omega) (by omega)]; omega
      have e6 : IntKind.i64.wrap ((i : Int) - 1) = 63 - ((k + 1 : Nat) : Int) := by rw [w_i64 (by omega) (by omega)]; omega
      simp (disch := first | omega | (simp only [List.length_append, List.length_cons, List.length_nil]; omega)) only [e5, e6, go_sem, fill_c, ↓reduceIte, reduceCtorEq, Nat.reduceAdd, Nat.reduceSub, Nat.reducePow, Nat.reduceMul, Nat.reduceEqDiff, Nat.reduceLT, Nat.reduceLeDiff, Int.reduceToNat, Int.reduceLT, Int.reduceLE, Int.reduceEq, Int.reduceNeg, Int.reduceAdd, Int.reduceSub, Int.reduceMul]
      refine ⟨hk64, V / 2 ^ i, by rw [show 64 - (k + 1) = i by omega], junk rfl⟩
    · have e3 : IntKind.u64.wrap ((v : Int) * 2) = ((v * 2 : Nat) : Int) := by rw [w_u64 (by omega) (by omega)]; omega
      have e5 : IntKind.u64.wrap (((v * 2 : Nat) : Int) + ((n / 2 ^ i % 2 : Nat) : Int)) = ((V / 2 ^ i : Nat) : Int) := by
        rw [if_neg him] at hup
        rw [w_u64 (by omega) (by omega)]; omega
      have e6 : IntKind.i64.wrap ((i : Int) - 1) = 63 - ((k + 1 : Nat) : Int) := by rw [w_i64 (by omega) (by omega)]; omega
      by_cases hlt : (m : Int) ≤ i
      · have h3 : ¬ (i : Int) < (m : Int) + 1 := by omega
        simp (disch := first | omega | (simp only [List.length_append, List.length_cons, List.length_nil]; omega)) only [c106r0, c106r1, c106r2, c106r3, c106r4, c106r5, c106r6, c106r7, c106r8, c106r9, c106l10, c106r11, h0, hlt, e2, h3, e3, go_sem, fill_c, ↓reduceIte, reduceCtorEq, Nat.reduceAdd, Nat.reduceSub, Nat.reducePow, Nat.reduceMul, Nat.reduceEqDiff, Nat.reduceLT, Nat.reduceLeDiff, Int.reduceToNat, Int.reduceLT, Int.reduceLE, Int.reduceEq, Int.reduceNeg, Int.reduceAdd, Int.reduceSub, Int.reduceMul]
        refine gfc_of (bit_fc _ n i hn (by omega)) ?_
        rintro d h2 ⟨rfl, e⟩
        rw [e]
        simp (disch := first | omega | (simp only [List.length_append, List.length_cons, List.length_nil]; omega)) only [e5, e6, go_sem, fill_c, ↓reduceIte, reduceCtorEq, Nat.reduceAdd, Nat.reduceSub, Nat.reducePow, Nat.reduceMul, Nat.reduceEqDiff, Nat.reduceLT, Nat.reduceLeDiff, Int.reduceToNat, Int.reduceLT, Int.reduceLE, Int.reduceEq, Int.reduceNeg, Int.reduceAdd, Int.reduceSub, Int.reduceMul]
        first
          | exact ⟨hk64, V / 2 ^ i, by rw [show 64 - (k + 1) = i by omega], junk rfl⟩
          | exact ⟨V / 2 ^ i, by rw [show 64 - (k + 1) = i by omega], junk rfl⟩
      · simp (disch := first | omega | (simp only [List.length_append, List.length_cons, List.length_nil]; omega)) only [c106r0, c106r1, c106r2, c106r3, c106r4, c106r5, c106r6, c106r7, c106r8, c106r9, c106l10, c106r11, h0, hlt, e2, e3, go_sem, fill_c, ↓reduceIte, reduceCtorEq, Nat.reduceAdd, Nat.reduceSub, Nat.reducePow, Nat.reduceMul, Nat.reduceEqDiff, Nat.reduceLT, Nat.reduceLeDiff, Int.reduceToNat, Int.reduceLT, Int.reduceLE, Int.reduceEq, Int.reduceNeg, Int.reduceAdd, Int.reduceSub, Int.reduceMul]
        refine gfc_of (bit_fc _ n i hn (by omega)) ?_
        rintro d h2 ⟨rfl, e⟩
        rw [e]
        simp (disch := first | omega | (simp only [List.length_append, List.length_cons, List.length_nil]; omega)) only [e5, e6, go_sem, fill_c, ↓reduceIte, reduceCtorEq, Nat.reduceAdd, Nat.reduceSub, Nat.reducePow, Nat.reduceMul, Nat.reduceEqDiff, Nat.reduceLT, Nat.reduceLeDiff, Int.reduceToNat, Int.reduceLT, Int.reduceLE, Int.reduceEq, Int.reduceNeg, Int.reduceAdd, Int.reduceSub, Int.reduceMul]
        refine ⟨hk64, V / 2 ^ i, by rw [show 64 - (k + 1) = i by omega], junk rfl⟩
  · have : k = 64 := by omega
    subst this
    have h0 : ¬ (0 : Int) ≤ 63 - ((64 : Nat) : Int) := by omega
    simp (disch := first | omega | (simp only [List.length_append, List.length_cons, List.length_nil]; omega)) only [c106r0, c106r1, c106r2, c106r3, c106r4, c106r5, c106r6, c106r7, c106r8, c106r9, c106l10, c106r11, h0, go_sem, fill_c, ↓reduceIte, reduceCtorEq, Nat.reduceAdd, Nat.reduceSub, Nat.reducePow, Nat.reduceMul, Nat.reduceEqDiff, Nat.reduceLT, Nat.reduceLeDiff, Int.reduceToNat, Int.reduceLT, Int.reduceLE, Int.reduceEq, Int.reduceNeg, Int.reduceAdd, Int.reduceSub, Int.reduceMul]
    have : v = V := by rw [hv]; simp
    rw [this]
    exact FinOk.all ⟨rfl, rfl⟩

/-! ### Same, SameInts -/
theorem i64s_get {ws : List Nat} {k : Nat} (h : k < ws.length) : (i64s ws)[k]? = some (.int .i64 ((ws.getD k 0 : Nat) : Int)) := by
  simp [i64s, List.getD_eq_getElem?_getD, List.getElem?_eq_getElem h]
/-! ### Has -/
theorem hasRef_fc (h : Heap) (row : D) (ws : List Nat) (s : SlOf h 1 row (u64s ws) ws.length) (hlen : ws.length ≤ 1048576) (hw : ∀ w ∈ ws, w < 18446744073709551616) (i : Int) (h0 : -9223372036854775808 ≤ i) (h1 : i < 9223372036854775808) :
    FC Try.prog 55 [row, .int .i64 i] h fun d h' => d = .bool (hasR ws i) ∧ h' = h := by
  refine FC.goes cf55 ?_; simp only [c55]; simp only [List.length_cons, List.length_nil, Nat.reduceAdd, Nat.reduceSub, List.replicate_succ, List.replicate_zero, List.cons_append, List.nil_append]
  by_cases hi : i < 0
  · simp (disch := first | omega | (simp only [List.length_append, List.length_cons, List.length_nil]; omega)) only [c55r0, c55r1, c55r2, c55r3, hi, go_sem, fill_c, ↓reduceIte, reduceCtorEq, Nat.reduceAdd, Nat.reduceSub, Nat.reducePow, Nat.reduceMul, Nat.reduceEqDiff, Nat.reduceLT, Nat.reduceLeDiff, Int.reduceToNat, Int.reduceLT, Int.reduceLE, Int.reduceEq, Int.reduceNeg, Int.reduceAdd, Int.reduceSub, Int.reduceMul]
    refine FinOk.all ⟨congrArg D.bool ?_, rfl⟩
    have : ¬ (0 ≤ i) := by omega
    simp [hasR, insR, this]
  · obtain ⟨m, rfl⟩ := Int.eq_ofNat_of_zero_le (by omega : 0 ≤ i)
    have e2 : ((m : Int)).toNat = m := rfl
    have e1 : IntKind.i64.wrap ((m / 64 : Nat) : Int) = ((m / 64 : Nat) : Int) := w_i64 (by omega) (by omega)
    have e5 : IntKind.i64.wrap ((m % 64 : Nat) : Int) = ((m % 64 : Nat) : Int) := w_i64 (by omega) (by omega)
    by_cases hlt : m / 64 < ws.length
    · have hlt' : ¬ (ws.length : Int) ≤ ((m / 64 : Nat) : Int) := by omega
      obtain ⟨p, cs, q1, q2, q3⟩ := s.elem (k := .i64) (i := ((m / 64 : Nat) : Int)) (by omega) (by omega)
      have q4 := q3 0 (by omega)
      rw [show ((((m / 64 : Nat) : Int)).toNat * 1 + 0) = m / 64 by omega, u64s_get hlt] at q4
      have hwk : ws.getD (m / 64) 0 < 18446744073709551616 := hw _ (by simp [List.getD_eq_getElem?_getD, List.getElem?_eq_getElem hlt])
      simp (disch := first | omega | (simp only [List.length_append, List.length_cons, List.length_nil]; omega)) only [c55r0, c55r1, c55r2, c55r3, hi, e1, e5, s.lend, s.sort, hlt', q1, q2, q4, go_sem, fill_c, ↓reduceIte, reduceCtorEq, Nat.reduceAdd, Nat.reduceSub, Nat.reducePow, Nat.reduceMul, Nat.reduceEqDiff, Nat.reduceLT, Nat.reduceLeDiff, Int.reduceToNat, Int.reduceLT, Int.reduceLE, Int.reduceEq, Int.reduceNeg, Int.reduceAdd, Int.reduceSub, Int.reduceMul]
      refine gfc_of (bitsR_fc _ _ (m % 64) hwk (by omega)) ?_
      rintro d h2 ⟨rfl, e⟩
      rw [e]
      simp (disch := first | omega | (simp only [List.length_append, List.length_cons, List.length_nil]; omega)) only [go_sem, fill_c, ↓reduceIte, reduceCtorEq, Nat.reduceAdd, Nat.reduceSub, Nat.reducePow, Nat.reduceMul, Nat.reduceEqDiff, Nat.reduceLT, Nat.reduceLeDiff, Int.reduceToNat, Int.reduceLT, Int.reduceLE, Int.reduceEq, Int.reduceNeg, Int.reduceAdd, Int.reduceSub, Int.reduceMul]
      refine FinOk.all ⟨congrArg D.bool ?_, rfl⟩
      have hb : hasB ws m = decide ((ws.getD (m / 64) 0) / 2 ^ (m % 64) % 2 = 1) := rfl
      have hi : insR ws.length (m : Int) = true := by simp [insR, e2, hlt]
      rw [hasR, hi, e2, hb, Bool.true_and]
      generalize (ws.getD (m / 64) 0) / 2 ^ (m % 64) % 2 = b at *
      exact decide_eq_decide.2 (by omega)
    · have hlt' : (ws.length : Int) ≤ ((m / 64 : Nat) : Int) := by omega
      simp (disch := first | omega | (simp only [List.length_append, List.length_cons, List.length_nil]; omega)) only [c55r0, c55r1, c55r2, c55r3, hi, e1, s.lend, s.sort, hlt', go_sem, fill_c, ↓reduceIte, reduceCtorEq, Nat.reduceAdd, Nat.reduceSub, Nat.reducePow, Nat.reduceMul, Nat.reduceEqDiff, Nat.reduceLT, Nat.reduceLeDiff, Int.reduceToNat, Int.reduceLT, Int.reduceLE, Int.reduceEq, Int.reduceNeg, Int.reduceAdd, Int.reduceSub, Int.reduceMul]
      refine FinOk.all ⟨congrArg D.bool ?_, rfl⟩
      simp [hasR, insR, e2, hlt]
end Go.Proofs

/-
  Own work. The walks of the document's rows: New, Set, List, First.
-/
namespace Go.Proofs
open Go Go.Ytodlpcoffmnmbaa
set_option linter.unusedVariables false
set_option linter.unusedSimpArgs false
set_option maxRecDepth 10000

/-! ### weighbridge/weighbridgeref18.New, params 1 -/
def c95r0 : List AStm := [.op (some 2) none (.mv (.c .nils))]
def c95r1 : List AStm := [.op (some 3) none (.mv (.c .nils))]
def c95r2 : List AStm := [.op (some 4) none (.mv (.c (.int .i64 0)))]
def c95r3 : List AStm := [.op (some 5) none (.mv (.t 4)),
    .op (some 6) none (.mv (.t 0)),
    .op (some 7) none (.bin .lss (.t 5) (.t 6)),
    .op (some 8) none (.mv (.t 7)),
    .op (some 9) (some (8, true)) (.mv (.t 0)),
    .op (some 10) (some (8, true)) (.bin .leq (.t 9) (.c (.int .i64 65536))),
    .op (some 11) none (.pick (.t 8) (.t 10) (.c (.bool false)))]
def c95r4 : List AStm := [.op (some 14) none (.mv (.t 3)),
    .op (some 15) none (.bslice 1 [(.int .u64 0)] 1 [(0, 1, (.c (.int .u64 0)))]),
    .op (some 16) none (.append false 1 8 (.t 14) (.t 15)),
    .op (some 3) none (.mv (.t 16))]
def c95r5 : List AStm := [.op (some 12) none (.mv (.t 4)),
    .op (some 13) none (.bin .add (.t 12) (.c (.int .i64 64))),
    .op (some 4) none (.mv (.t 13))]
def c95l6 : AC := .seq (.seq (.reg c95r3) (.cond (.t 11) (.skip) (.exit 0))) (.seq (.block 1 (.reg c95r4)) (.reg c95r5))
def c95r7 : List AStm := [.op (some 17) none (.mv (.t 3)),
    .op (some 2) none (.mv (.t 17))]
def c95 : CF := ⟨.seq (.reg c95r0) (.seq (.reg c95r1) (.seq (.seq (.reg c95r2) (.block 0 (.loop c95l6))) (.seq (.reg c95r7) (.ret)))), [.tmp 2], 18⟩
theorem cf95 : cfun Try.prog 95 = some c95 := by kernel_rfl

/-! ### weighbridge/weighbridgeref18.Set, params 2 -/
def c96r0 : List AStm := [.op (some 4) none (.mv (.c .nils))]
def c96r1 : List AStm := [.op (some 5) none (.mv (.c .nils))]
def c96r2 : List AStm := [.op (some 6) none (.mv (.c (.int .i64 0)))]
def c96r3 : List AStm := [.op (some 7) none (.mv (.t 6)),
    .op (some 8) none (.mv (.t 0)),
    .op (some 9) none (.len false (.t 8)),
    .op (some 10) none (.bin .lss (.t 7) (.t 9))]
def c96r4 : List AStm := [.op (some 13) none (.mv (.t 5)),
    .op (some 14) none (.mv (.t 0)),
    .op (some 15) none (.mv (.t 6)),
    .op (some 16) none (.ixs 1 (.t 14) (.t 15)),
    .op (some 17) none (.load none (.t 16)),
    .op (some 18) none (.bslice 1 [(.int .u64 0)] 1 [(0, 1, (.t 17))]),
    .op (some 19) none (.append false 1 8 (.t 13) (.t 18)),
    .op (some 5) none (.mv (.t 19))]
def c96r5 : List AStm := [.op (some 11) none (.mv (.t 6)),
    .op (some 12) none (.bin .add (.t 11) (.c (.int .i64 1))),
    .op (some 6) none (.mv (.t 12))]
def c96l6 : AC := .seq (.seq (.reg c96r3) (.cond (.t 10) (.skip) (.exit 0))) (.seq (.block 1 (.reg c96r4)) (.reg c96r5))
def c96r7 : List AStm := [.op (some 20) none (.mv (.t 1)),
    .op (some 21) none (.bin .geq (.t 20) (.c (.int .i64 0))),
    .op (some 22) none (.mv (.t 21)),
    .op (some 23) (some (22, true)) (.mv (.t 1)),
    .op (some 24) (some (22, true)) (.bin .quo (.t 23) (.c (.int .i64 64))),
    .op (some 25) (some (22, true)) (.mv (.t 0)),
    .op (some 26) (some (22, true)) (.len false (.t 25)),
    .op (some 27) (some (22, true)) (.bin .lss (.t 24) (.t 26)),
    .op (some 28) none (.pick (.t 22) (.t 27) (.c (.bool false)))]
def c96r8 : List AStm := [.op (some 29) none (.mv (.t 5)),
    .op (some 30) none (.mv (.t 1)),
    .op (some 31) none (.bin .quo (.t 30) (.c (.int .i64 64))),
    .op (some 32) none (.mv (.t 5)),
    .op (some 33) none (.mv (.t 1)),
    .op (some 34) none (.bin .quo (.t 33) (.c (.int .i64 64))),
    .op (some 35) none (.ixs 1 (.t 32) (.t 34)),
    .op (some 36) none (.load none (.t 35)),
    .op (some 37) none (.mv (.t 1)),
    .op (some 38) none (.bin .rem (.t 37) (.c (.int .i64 64))),
    .call (some 39) none (.c (.fn (.func 106) [] [])) [(.t 36), (.t 38), (.c (.int .i64 1)), (.c (.int .u64 1))],
    .op (some 40) none (.ixs 1 (.t 29) (.t 31)),
    .op none none (.store 1 (.t 40) (.t 39))]
def c96r9 : List AStm := [.op (some 41) none (.mv (.t 5)),
    .op (some 4) none (.mv (.t 41))]
def c96 : CF := ⟨.seq (.reg c96r0) (.seq (.reg c96r1) (.seq (.seq (.reg c96r2) (.block 0 (.loop c96l6))) (.seq (.seq (.reg c96r7) (.cond (.t 28) (.reg c96r8) (.skip))) (.seq (.reg c96r9) (.ret))))), [.tmp 4], 42⟩
theorem cf96 : cfun Try.prog 96 = some c96 := by kernel_rfl



/-- A slice that grows by appends of one, behind the heap h: nil at first. -/
def AppSt (h : Heap) (cs : List D) (n : Nat) (d : D) (H : Heap) : Prop :=
  (n = 0 ∧ cs = [] ∧ d = .nils ∧ H = []) ∨ (0 < n ∧ d = .own (h.length + 1) n ∧ ∃ b L, H = b :: .grow 1 cs n :: L)
theorem AppSt.app {h H : Heap} {cs : List D} {n : Nat} {d : D} (ha : AppSt h cs n d H) (x : D) (hn : n ≤ 1000000000) (bytes : Nat) (hb : bytes ≤ 65536) :
    ∃ H', appendD (h ++ (H ++ [.grow 1 [x] 1])) 1 bytes d [x] 1 = some (.own (h.length + 1) (n + 1), h ++ H') ∧ AppSt h (cs ++ [x]) (n + 1) (.own (h.length + 1) (n + 1)) H' := by
  rcases ha with ⟨rfl, rfl, rfl, rfl⟩ | ⟨h0, rfl, b, L, rfl⟩
  · refine ⟨[.grow 1 [x] 1, .grow 1 [x] 1], ?_, .inr ⟨by omega, rfl, _, _, rfl⟩⟩
    rw [ap_nils, if_neg (by omega), if_pos ⟨by omega, hb⟩]
    simp
  · refine ⟨b :: .grow 1 (cs ++ [x]) (n + 1) :: (L ++ [.grow 1 [x] 1]), ?_, .inr ⟨by omega, rfl, _, _, rfl⟩⟩
    have hg : (h ++ (b :: .grow 1 cs n :: L ++ [.grow 1 [x] 1]))[h.length + 1]? = some (.grow 1 cs n) := by
      rw [List.getElem?_append_right (by omega), show h.length + 1 - h.length = 1 by omega]; rfl
    rw [ap_own, hg]
    simp only [growW_grow, Option.bind_some]
    rw [if_pos ⟨trivial, trivial, by omega, hb⟩]
    rw [List.set_append_right _ _ (by omega), show h.length + 1 - h.length = 1 by omega]
    rfl
theorem AppSt.sl {h H : Heap} {cs : List D} {n : Nat} {d : D} (ha : AppSt h cs n d H) (hl : cs.length = n) : SlOf (h ++ H) 1 d cs n := by
  rcases ha with ⟨rfl, rfl, rfl, rfl⟩ | ⟨h0, rfl, b, L, rfl⟩
  · exact nils_of _ _
  · refine own_of (cs := cs) ?_ (by omega)
    rw [List.getElem?_append_right (by omega), show h.length + 1 - h.length = 1 by omega]; rfl
theorem AppSt.fin {h H : Heap} {cs : List D} {n : Nat} {d : D} (ha : AppSt h cs n d H) (hu : ∀ k, underL k cs = true) : FinOk h (h ++ H) [d] (NewSl h cs n) := by
  rcases ha with ⟨rfl, rfl, rfl, rfl⟩ | ⟨h0, rfl, b, L, rfl⟩
  · exact FinOk.drop (.inl rfl) rfl (.inl ⟨rfl, rfl, rfl, rfl⟩)
  · exact FinOk.one (pre := []) (post := []) (sz := 1) (cs := cs) (n' := n) (.inl rfl) (by omega) (by rw [Nat.add_sub_cancel_left]; rfl) (hu _) rfl rfl (.inr ⟨rfl, rfl⟩)

theorem newRef_fc (h : Heap) (n : Int) (h0 : -9223372036854775808 ≤ n) (h1 : n < 9223372036854775808) :
    FC Try.prog 95 [.int .i64 n] h (NewSl h (u64s (newR n)) (newR n).length) := by
  refine FC.goes cf95 ?_; simp only [c95]; simp only [List.length_cons, List.length_nil, Nat.reduceAdd, Nat.reduceSub, List.replicate_succ, List.replicate_zero, List.cons_append, List.nil_append]
  simp (disch := first | omega | (simp only [List.length_append, List.length_cons, List.length_nil]; omega)) only [c95r0, c95r1, c95r2, c95r3, c95r4, c95r5, c95l6, c95r7, go_sem, fill_c, ↓reduceIte, reduceCtorEq, Nat.reduceAdd, Nat.reduceSub, Nat.reducePow, Nat.reduceMul, Nat.reduceEqDiff, Nat.reduceLT, Nat.reduceLeDiff, Int.reduceToNat, Int.reduceLT, Int.reduceLE, Int.reduceEq, Int.reduceNeg, Int.reduceAdd, Int.reduceSub, Int.reduceMul]
  by_cases hc : n < 0 ∨ 65536 < n
  · refine loop_to 0 (fun k st => ∃ (j : Nat → D), st = ⟨(.int .i64 n :: j 1 :: j 2 :: .nils :: .int .i64 0 :: j 5 :: j 6 :: j 7 :: j 8 :: j 9 :: j 10 :: j 11 :: j 12 :: j 13 :: j 14 :: j 15 :: j 16 :: j 17 :: []), h⟩) (junk rfl) ?_
    rintro k st hk ⟨j, rfl⟩
    have he : newR n = [] := by unfold newR; rw [if_pos hc]
    rw [he]
    by_cases hn : (0 : Int) < n
    · have hn2 : ¬ (n ≤ 65536) := by omega
      simp (disch := first | omega | (simp only [List.length_append, List.length_cons, List.length_nil]; omega)) only [c95r0, c95r1, c95r2, c95r3, c95r4, c95r5, c95l6, c95r7, hn, hn2, go_sem, fill_c, ↓reduceIte, reduceCtorEq, Nat.reduceAdd, Nat.reduceSub, Nat.reducePow, Nat.reduceMul, Nat.reduceEqDiff, Nat.reduceLT, Nat.reduceLeDiff, Int.reduceToNat, Int.reduceLT, Int.reduceLE, Int.reduceEq, Int.reduceNeg, Int.reduceAdd, Int.reduceSub, Int.reduceMul]
      exact FinOk.all (.inl ⟨rfl, rfl, rfl, rfl⟩)
    · simp (disch := first | omega | (simp only [List.length_append, List.length_cons, List.length_nil]; omega)) only [c95r0, c95r1, c95r2, c95r3, c95r4, c95r5, c95l6, c95r7, hn, go_sem, fill_c, ↓reduceIte, reduceCtorEq, Nat.reduceAdd, Nat.reduceSub, Nat.reducePow, Nat.reduceMul, Nat.reduceEqDiff, Nat.reduceLT, Nat.reduceLeDiff, Int.reduceToNat, Int.reduceLT, Int.reduceLE, Int.reduceEq, Int.reduceNeg, Int.reduceAdd, Int.reduceSub, Int.reduceMul]
      exact FinOk.all (.inl ⟨rfl, rfl, rfl, rfl⟩)
  · obtain ⟨m, rfl⟩ := Int.eq_ofNat_of_zero_le (by omega : 0 ≤ n)
    have he : newR (m : Int) = List.replicate ((m + 63) / 64) 0 := by
      unfold newR
      rw [if_neg hc]; rfl
    have hn2 : ((m : Int) ≤ 65536) := by omega
    refine loop_to ((m + 63) / 64) (fun k st => ∃ (d : D) (H : Heap), AppSt h (u64s (List.replicate k 0)) k d H ∧ ∃ (j : Nat → D), st = ⟨(.int .i64 (m : Int) :: j 1 :: j 2 :: d :: .int .i64 ((64 * k : Nat) : Int) :: j 5 :: j 6 :: j 7 :: j 8 :: j 9 :: j 10 :: j 11 :: j 12 :: j 13 :: j 14 :: j 15 :: j 16 :: j 17 :: []), h ++ H⟩) ⟨.nils, [], .inl ⟨rfl, rfl, rfl, rfl⟩, by rw [List.append_nil]; exact junk rfl⟩ ?_
    rintro k st hk ⟨d, H, ha, j, rfl⟩
    by_cases hkm : 64 * k < m
    · have hkm' : ((64 * k : Nat) : Int) < m := by omega
      obtain ⟨H', q1, q2⟩ := ha.app (.int .u64 0) (by omega) 8 (by omega)
      have e1 : IntKind.i64.wrap (((64 * k : Nat) : Int) + 64) = ((64 * (k + 1) : Nat) : Int) := by rw [w_i64 (by omega) (by omega)]; omega
      simp (disch := first | omega | (simp only [List.length_append, List.length_cons, List.length_nil]; omega)) only [c95r0, c95r1, c95r2, c95r3, c95r4, c95r5, c95l6, c95r7, hkm', hn2, List.append_assoc, q1, e1, go_sem, fill_c, ↓reduceIte, reduceCtorEq, Nat.reduceAdd, Nat.reduceSub, Nat.reducePow, Nat.reduceMul, Nat.reduceEqDiff, Nat.reduceLT, Nat.reduceLeDiff, Int.reduceToNat, Int.reduceLT, Int.reduceLE, Int.reduceEq, Int.reduceNeg, Int.reduceAdd, Int.reduceSub, Int.reduceMul]
      refine ⟨by omega, _, H', ?_, junk rfl⟩
      rw [show u64s (List.replicate (k + 1) 0) = u64s (List.replicate k 0) ++ [.int .u64 0] by rw [List.replicate_succ', u64s, List.map_append]; rfl]
      exact q2
    · have hkm' : ¬ ((64 * k : Nat) : Int) < m := by omega
      have : k = (m + 63) / 64 := by omega
      simp (disch := first | omega | (simp only [List.length_append, List.length_cons, List.length_nil]; omega)) only [c95r0, c95r1, c95r2, c95r3, c95r4, c95r5, c95l6, c95r7, hkm', hn2, go_sem, fill_c, ↓reduceIte, reduceCtorEq, Nat.reduceAdd, Nat.reduceSub, Nat.reducePow, Nat.reduceMul, Nat.reduceEqDiff, Nat.reduceLT, Nat.reduceLeDiff, Int.reduceToNat, Int.reduceLT, Int.reduceLE, Int.reduceEq, Int.reduceNeg, Int.reduceAdd, Int.reduceSub, Int.reduceMul]
      rw [he, List.length_replicate, ← this]
      exact ha.fin fun k => under_u64s k _

theorem u64s_take (ws : List Nat) {k : Nat} (h : k < ws.length) : u64s (ws.take (k + 1)) = u64s (ws.take k) ++ [.int .u64 ((ws.getD k 0 : Nat) : Int)] := by
  rw [List.take_add_one, u64s, List.map_append, List.getElem?_eq_getElem h]
  simp [u64s, List.getD_eq_getElem?_getD, List.getElem?_eq_getElem h]

theorem setRef_fc (h : Heap) (row : D) (ws : List Nat) (s : SlOf h 1 row (u64s ws) ws.length) (hlen : ws.length ≤ 1048576) (hw : ∀ w ∈ ws, w < 18446744073709551616) (i : Int) (h0 : -9223372036854775808 ≤ i) (h1 : i < 9223372036854775808) :
    FC Try.prog 96 [row, .int .i64 i] h (NewSl h (u64s (setR ws i)) ws.length) := by
  refine FC.goes cf96 ?_; simp only [c96]; simp only [List.length_cons, List.length_nil, Nat.reduceAdd, Nat.reduceSub, List.replicate_succ, List.replicate_zero, List.cons_append, List.nil_append]
  simp (disch := first | omega | (simp only [List.length_append, List.length_cons, List.length_nil]; omega)) only [c96r0, c96r1, c96r2, c96r3, c96r4, c96r5, c96l6, c96r7, c96r8, c96r9, go_sem, fill_c, ↓reduceIte, reduceCtorEq, Nat.reduceAdd, Nat.reduceSub, Nat.reducePow, Nat.reduceMul, Nat.reduceEqDiff, Nat.reduceLT, Nat.reduceLeDiff, Int.reduceToNat, Int.reduceLT, Int.reduceLE, Int.reduceEq, Int.reduceNeg, Int.reduceAdd, Int.reduceSub, Int.reduceMul]
  refine loop_to ws.length (fun k st => ∃ (d : D) (H : Heap), AppSt h (u64s (ws.take k)) k d H ∧ ∃ (j : Nat → D), st = ⟨(row :: .int .i64 i :: j 2 :: j 3 :: j 4 :: d :: .int .i64 (k : Int) :: j 7 :: j 8 :: j 9 :: j 10 :: j 11 :: j 12 :: j 13 :: j 14 :: j 15 :: j 16 :: j 17 :: j 18 :: j 19 :: j 20 :: j 21 :: j 22 :: j 23 :: j 24 :: j 25 :: j 26 :: j 27 :: j 28 :: j 29 :: j 30 :: j 31 :: j 32 :: j 33 :: j 34 :: j 35 :: j 36 :: j 37 :: j 38 :: j 39 :: j 40 :: j 41 :: []), h ++ H⟩) ⟨.nils, [], .inl ⟨rfl, rfl, rfl, rfl⟩, by rw [List.append_nil]; exact junk rfl⟩ ?_
  rintro k st hk ⟨d, H, ha, j, rfl⟩
  have s' := s.low H
  by_cases hkn : k < ws.length
  · have hkn' : (k : Int) < ws.length := by omega
    obtain ⟨p, cs, e1, e2, e3⟩ := s'.elem (k := .i64) (i := (k : Int)) (by omega) (by omega)
    have e4 := e3 0 (by omega)
    rw [show ((k : Int).toNat * 1 + 0) = k by omega, u64s_get hkn] at e4
    have ht := u64s_take ws hkn
    obtain ⟨H', q1, q2⟩ := ha.app (.int .u64 ((ws.getD k 0 : Nat) : Int)) (by omega) 8 (by omega)
    rw [← ht] at q2
    generalize ws.getD k 0 = w at *
    have e5 : IntKind.i64.wrap ((k : Int) + 1) = ((k + 1 : Nat) : Int) := by rw [w_i64 (by omega) (by omega)]; omega
    simp (disch := first | omega | (simp only [List.length_append, List.length_cons, List.length_nil]; omega)) only [c96r0, c96r1, c96r2, c96r3, c96r4, c96r5, c96l6, c96r7, c96r8, c96r9, s'.lend, s'.sort, hkn', e1, e2, e4, List.append_assoc, q1, e5, go_sem, fill_c, ↓reduceIte, reduceCtorEq, Nat.reduceAdd, Nat.reduceSub, Nat.reducePow, Nat.reduceMul, Nat.reduceEqDiff, Nat.reduceLT, Nat.reduceLeDiff, Int.reduceToNat, Int.reduceLT, Int.reduceLE, Int.reduceEq, Int.reduceNeg, Int.reduceAdd, Int.reduceSub, Int.reduceMul]
    exact ⟨hkn, _, H', q2, junk rfl⟩
  · have hkn' : ¬ (k : Int) < ws.length := by omega
    have : k = ws.length := by omega
    subst this
    rw [List.take_length] at ha
    by_cases hi : 0 ≤ i
    · obtain ⟨m, rfl⟩ := Int.eq_ofNat_of_zero_le hi
      have e1 : IntKind.i64.wrap ((m / 64 : Nat) : Int) = ((m / 64 : Nat) : Int) := w_i64 (by omega) (by omega)
      have e3 : IntKind.i64.wrap ((m % 64 : Nat) : Int) = ((m % 64 : Nat) : Int) := w_i64 (by omega) (by omega)
      have e2 : ((m : Int)).toNat = m := rfl
      by_cases hlt : m / 64 < ws.length
      · have hlt' : ((m / 64 : Nat) : Int) < ws.length := by omega
        rcases ha with ⟨hn0, _⟩ | ⟨hn0, rfl, b, L, rfl⟩
        · omega
        have hb : insR ws.length (m : Int) = true := by simp [insR, e2, hlt]
        have q4 : (List.drop (m / 64) (u64s ws))[0]? = some (.int .u64 ((ws.getD (m / 64) 0 : Nat) : Int)) := by
          rw [List.getElem?_drop, Nat.add_zero, u64s_get hlt]
        have hwk : ws.getD (m / 64) 0 < 18446744073709551616 := hw _ (by simp [List.getD_eq_getElem?_getD, List.getElem?_eq_getElem hlt])
        have hl := u64s_length ws
        simp (disch := first | omega | (simp only [List.length_append, List.length_cons, List.length_nil]; omega)) only [c96r0, c96r1, c96r2, c96r3, c96r4, c96r5, c96l6, c96r7, c96r8, c96r9, s'.lend, s'.sort, hkn', hi, e1, e3, hlt', hl, q4, go_sem, fill_c, ↓reduceIte, reduceCtorEq, Nat.reduceAdd, Nat.reduceSub, Nat.reducePow, Nat.reduceMul, Nat.reduceEqDiff, Nat.reduceLT, Nat.reduceLeDiff, Int.reduceToNat, Int.reduceLT, Int.reduceLE, Int.reduceEq, Int.reduceNeg, Int.reduceAdd, Int.reduceSub, Int.reduceMul]
        refine gfc_of (setBits_fc _ _ (m % 64) hwk (by omega)) ?_
        rintro d h2 ⟨rfl, e⟩
        rw [e]
        simp (disch := first | omega | (simp only [List.length_append, List.length_cons, List.length_nil]; omega)) only [hl, go_sem, fill_c, ↓reduceIte, reduceCtorEq, Nat.reduceAdd, Nat.reduceSub, Nat.reducePow, Nat.reduceMul, Nat.reduceEqDiff, Nat.reduceLT, Nat.reduceLeDiff, Int.reduceToNat, Int.reduceLT, Int.reduceLE, Int.reduceEq, Int.reduceNeg, Int.reduceAdd, Int.reduceSub, Int.reduceMul]
        have hset : u64s (setR ws (m : Int)) = (u64s ws).set (m / 64) (.int .u64 ((ws.getD (m / 64) 0 ||| 2 ^ (m % 64) : Nat) : Int)) := by
          simp only [setR, hb, if_true, e2]
          exact u64s_set _ _ _
        rw [← hset]
        exact FinOk.one (pre := []) (post := []) (sz := 1) (cs := u64s (setR ws (m : Int))) (n' := ws.length) (.inl rfl) (by omega) (by rw [Nat.add_sub_cancel_left]; rfl) (under_u64s _ _) rfl rfl (.inr ⟨rfl, rfl⟩)
      · have hlt' : ¬ ((m / 64 : Nat) : Int) < ws.length := by omega
        simp (disch := first | omega | (simp only [List.length_append, List.length_cons, List.length_nil]; omega)) only [c96r0, c96r1, c96r2, c96r3, c96r4, c96r5, c96l6, c96r7, c96r8, c96r9, s'.lend, s'.sort, hkn', hi, e1, hlt', go_sem, fill_c, ↓reduceIte, reduceCtorEq, Nat.reduceAdd, Nat.reduceSub, Nat.reducePow, Nat.reduceMul, Nat.reduceEqDiff, Nat.reduceLT, Nat.reduceLeDiff, Int.reduceToNat, Int.reduceLT, Int.reduceLE, Int.reduceEq, Int.reduceNeg, Int.reduceAdd, Int.reduceSub, Int.reduceMul]
        have : setR ws (m : Int) = ws := by simp [setR, insR, e2, hlt]
        rw [this]
        exact ha.fin fun k => under_u64s k _
    · simp (disch := first | omega | (simp only [List.length_append, List.length_cons, List.length_nil]; omega)) only [c96r0, c96r1, c96r2, c96r3, c96r4, c96r5, c96l6, c96r7, c96r8, c96r9, s'.lend, s'.sort, hkn', hi, go_sem, fill_c, ↓reduceIte, reduceCtorEq, Nat.reduceAdd, Nat.reduceSub, Nat.reducePow, Nat.reduceMul, Nat.reduceEqDiff, Nat.reduceLT, Nat.reduceLeDiff, Int.reduceToNat, Int.reduceLT, Int.reduceLE, Int.reduceEq, Int.reduceNeg, Int.reduceAdd, Int.reduceSub, Int.reduceMul]
      have : setR ws i = ws := by simp [setR, insR, hi]
      rw [this]
      exact ha.fin fun k => under_u64s k _

theorem onesTo_le (ws : List Nat) (n : Nat) : (onesTo ws n).length ≤ n := by
  have := List.length_filter_le (hasB ws) (List.range n)
  simpa [onesTo] using this
theorem i64s_length (l : List Nat) : (i64s l).length = l.length := by simp [i64s]
end Go.Proofs

/-
  Own work. Plain laws of rows: bits, what is in all, what is in any.
-/
namespace Go.Proofs
open Go Go.Ytodlpcoffmnmbaa
set_option linter.unusedVariables false
set_option linter.unusedSimpArgs false
set_option maxRecDepth 10000

abbrev Words (ws : List Nat) : Prop := ∀ w ∈ ws, w < 18446744073709551616
theorem Words.getD {ws : List Nat} (hw : Words ws) (k : Nat) : ws.getD k 0 < 18446744073709551616 := by
  rw [List.getD_eq_getElem?_getD]
  cases h : ws[k]? with
  | none => simp
  | some w => exact hw w (List.mem_of_getElem? h)
theorem words_of {ws : List Nat} (h : ∀ k < ws.length, ws.getD k 0 < 18446744073709551616) : Words ws := by
  intro w hw
  obtain ⟨k, hk, rfl⟩ := List.getElem_of_mem hw
  have := h k hk
  rwa [List.getD_eq_getElem?_getD, List.getElem?_eq_getElem hk] at this
theorem hasB_test (ws : List Nat) (i : Nat) : hasB ws i = (ws.getD (i / 64) 0).testBit (i % 64) := by
  rw [testBit_def]; rfl
theorem hasB_out {ws : List Nat} {i : Nat} (h : 64 * ws.length ≤ i) : hasB ws i = false := by
  have : ws.getD (i / 64) 0 = 0 := by
    rw [List.getD_eq_getElem?_getD, List.getElem?_eq_none (by omega)]; rfl
  rw [hasB_test, this]; simp
theorem row_ext {a b : List Nat} (hl : a.length = b.length) (ha : Words a) (hb : Words b) (h : ∀ j, j < 64 * a.length → hasB a j = hasB b j) : a = b := by
  apply List.ext_getElem hl
  intro k h1 h2
  have e1 : a[k] = a.getD k 0 := by simp [List.getD_eq_getElem?_getD, List.getElem?_eq_getElem h1]
  have e2 : b[k] = b.getD k 0 := by simp [List.getD_eq_getElem?_getD, List.getElem?_eq_getElem h2]
  rw [e1, e2]
  have l1 := ha.getD k
  have l2 := hb.getD k
  apply Nat.eq_of_testBit_eq
  intro i
  by_cases hi : i < 64
  · have := h (64 * k + i) (by omega)
    rw [hasB_test, hasB_test, show (64 * k + i) / 64 = k by omega, show (64 * k + i) % 64 = i by omega] at this
    exact this
  · have hp : 2 ^ 64 ≤ 2 ^ i := Nat.pow_le_pow_right (by omega) (by omega)
    rw [Nat.testBit_lt_two_pow (by omega), Nat.testBit_lt_two_pow (by omega)]

theorem getD_map_range (f : Nat → Nat) (n j : Nat) : ((List.range n).map f).getD j 0 = if j < n then f j else 0 := by
  rw [List.getD_eq_getElem?_getD, List.getElem?_map]
  by_cases h : j < n
  · rw [List.getElem?_range h, if_pos h]; rfl
  · rw [List.getElem?_eq_none (by simpa using h), if_neg h]; rfl
theorem getD_out {a : List Nat} {j : Nat} (h : a.length ≤ j) : a.getD j 0 = 0 := by
  rw [List.getD_eq_getElem?_getD, List.getElem?_eq_none h]; rfl
theorem list_ext_getD {a b : List Nat} (hl : a.length = b.length) (h : ∀ j < a.length, a.getD j 0 = b.getD j 0) : a = b := by
  apply List.ext_getElem hl
  intro k h1 h2
  have := h k h1
  rwa [List.getD_eq_getElem?_getD, List.getD_eq_getElem?_getD, List.getElem?_eq_getElem h1, List.getElem?_eq_getElem h2] at this

/-- The words that have been mixed. -/
def mixTo (f : Nat → Nat → Nat) (a b : List Nat) (i : Nat) : List Nat := (List.range a.length).map fun j => if j < i then f (a.getD j 0) (b.getD j 0) else a.getD j 0
theorem mixTo_length (f : Nat → Nat → Nat) (a b : List Nat) (i : Nat) : (mixTo f a b i).length = a.length := by simp [mixTo]
theorem mixTo_getD (f : Nat → Nat → Nat) (a b : List Nat) (i j : Nat) (h : j < a.length) : (mixTo f a b i).getD j 0 = if j < i then f (a.getD j 0) (b.getD j 0) else a.getD j 0 := by
  rw [mixTo, getD_map_range, if_pos h]
theorem mixTo_zero (f : Nat → Nat → Nat) (a b : List Nat) : mixTo f a b 0 = a := by
  refine list_ext_getD (mixTo_length _ _ _ _) fun j hj => ?_
  rw [mixTo_length] at hj
  rw [mixTo_getD _ _ _ _ _ hj, if_neg (by omega)]
theorem set_getD (a : List Nat) (i x j : Nat) : (a.set i x).getD j 0 = if i = j ∧ j < a.length then x else a.getD j 0 := by
  rw [List.getD_eq_getElem?_getD, List.getD_eq_getElem?_getD, List.getElem?_set]
  by_cases h : i = j
  · subst h
    by_cases h2 : i < a.length
    · simp [h2]
    · simp [h2]
  · simp [h]
theorem mixTo_set (f : Nat → Nat → Nat) (a b : List Nat) (i : Nat) (h : i < a.length) : (mixTo f a b i).set i (f (a.getD i 0) (b.getD i 0)) = mixTo f a b (i + 1) := by
  refine list_ext_getD (by rw [List.length_set, mixTo_length, mixTo_length]) fun j hj => ?_
  rw [List.length_set, mixTo_length] at hj
  rw [set_getD, mixTo_length, mixTo_getD _ _ _ _ _ hj, mixTo_getD _ _ _ _ _ hj]
  by_cases e : i = j
  · subst e
    rw [if_pos ⟨rfl, h⟩, if_pos (by omega)]
  · rw [if_neg (by omega)]
    by_cases e2 : j < i
    · rw [if_pos e2, if_pos (by omega)]
    · rw [if_neg e2, if_neg (by omega)]

/-! ### What is in all, what is in any -/
def andP (a b : List Nat) : List Nat := (List.range (min a.length b.length)).map fun j => a.getD j 0 &&& b.getD j 0
def orP (a b : List Nat) : List Nat := (List.range (max a.length b.length)).map fun j => a.getD j 0 ||| b.getD j 0
def andR : List (List Nat) → List Nat
  | [] => []
  | r :: rs => rs.foldl andP r
def orR (rs : List (List Nat)) : List Nat := rs.foldl orP []
theorem andP_length (a b : List Nat) : (andP a b).length = min a.length b.length := by simp [andP]
theorem orP_length (a b : List Nat) : (orP a b).length = max a.length b.length := by simp [orP]
theorem andP_getD (a b : List Nat) (j : Nat) : (andP a b).getD j 0 = a.getD j 0 &&& b.getD j 0 := by
  rw [andP, getD_map_range]
  by_cases h : j < min a.length b.length
  · rw [if_pos h]
  · rw [if_neg h]
    rcases Nat.lt_or_ge j a.length with h1 | h1
    · rw [getD_out (a := b) (by omega)]; simp
    · rw [getD_out (a := a) h1]; simp
theorem orP_getD (a b : List Nat) (j : Nat) : (orP a b).getD j 0 = a.getD j 0 ||| b.getD j 0 := by
  rw [orP, getD_map_range]
  by_cases h : j < max a.length b.length
  · rw [if_pos h]
  · rw [if_neg h, getD_out (a := a) (by omega), getD_out (a := b) (by omega)]; rfl
theorem andP_has (a b : List Nat) (i : Nat) : hasB (andP a b) i = (hasB a i && hasB b i) := by
  rw [hasB_test, hasB_test, hasB_test, andP_getD, Nat.testBit_and]
theorem orP_has (a b : List Nat) (i : Nat) : hasB (orP a b) i = (hasB a i || hasB b i) := by
  rw [hasB_test, hasB_test, hasB_test, orP_getD, Nat.testBit_or]
theorem andP_words {a b : List Nat} (ha : Words a) : Words (andP a b) := words_of fun k _ => by
  rw [andP_getD]; exact Nat.lt_of_le_of_lt Nat.and_le_left (ha.getD k)
theorem orP_words {a b : List Nat} (ha : Words a) (hb : Words b) : Words (orP a b) := words_of fun k _ => by
  rw [orP_getD]; exact Nat.or_lt_two_pow (n := 64) (ha.getD k) (hb.getD k)
theorem andF_has (i : Nat) : ∀ (rs : List (List Nat)) (r : List Nat), hasB (rs.foldl andP r) i = (hasB r i && rs.all fun x => hasB x i)
  | [], r => by simp
  | x :: rs, r => by rw [List.foldl_cons, andF_has i rs, andP_has, List.all_cons, Bool.and_assoc]
theorem orF_has (i : Nat) : ∀ (rs : List (List Nat)) (r : List Nat), hasB (rs.foldl orP r) i = (hasB r i || rs.any fun x => hasB x i)
  | [], r => by simp
  | x :: rs, r => by rw [List.foldl_cons, orF_has i rs, orP_has, List.any_cons, Bool.or_assoc]
theorem andF_words : ∀ (rs : List (List Nat)) (r : List Nat), Words r → Words (rs.foldl andP r)
  | [], r, h => h
  | x :: rs, r, h => by rw [List.foldl_cons]; exact andF_words rs _ (andP_words h)
theorem orF_words : ∀ (rs : List (List Nat)) (r : List Nat), Words r → (∀ x ∈ rs, Words x) → Words (rs.foldl orP r)
  | [], r, h, _ => h
  | x :: rs, r, h, hs => by
    rw [List.foldl_cons]
    exact orF_words rs _ (orP_words h (hs x (by simp))) fun y hy => hs y (by simp [hy])
theorem andF_length : ∀ (rs : List (List Nat)) (r : List Nat), (rs.foldl andP r).length = rs.foldl (fun n x => min n x.length) r.length
  | [], r => rfl
  | x :: rs, r => by rw [List.foldl_cons, andF_length rs, andP_length, List.foldl_cons]
theorem orF_length : ∀ (rs : List (List Nat)) (r : List Nat), (rs.foldl orP r).length = rs.foldl (fun n x => max n x.length) r.length
  | [], r => rfl
  | x :: rs, r => by rw [List.foldl_cons, orF_length rs, orP_length, List.foldl_cons]
theorem orR_words {rs : List (List Nat)} (h : ∀ x ∈ rs, Words x) : Words (orR rs) := orF_words rs [] (by simp [Words]) h
theorem andR_words {rs : List (List Nat)} (h : ∀ x ∈ rs, Words x) : Words (andR rs) := by
  cases rs with
  | nil => simp [andR, Words]
  | cons r rs => exact andF_words rs r (h r (by simp))
theorem orR_has (rs : List (List Nat)) (i : Nat) : hasB (orR rs) i = rs.any fun x => hasB x i := by
  rw [orR, orF_has, hasB_out (by simp)]; simp
theorem maxL_le (B : Nat) : ∀ (rs : List (List Nat)) (n : Nat), n ≤ B → (∀ x ∈ rs, x.length ≤ B) → rs.foldl (fun n x => max n x.length) n ≤ B
  | [], n, h, _ => h
  | x :: rs, n, h, hs => by
    rw [List.foldl_cons]
    have := hs x (by simp)
    exact maxL_le B rs _ (by omega) fun y hy => hs y (by simp [hy])
theorem minL_le : ∀ (rs : List (List Nat)) (n : Nat), rs.foldl (fun n x => min n x.length) n ≤ n
  | [], n => Nat.le_refl _
  | x :: rs, n => by
    rw [List.foldl_cons]
    have := minL_le rs (min n x.length)
    omega

/-! ### One more bit set -/
theorem setR_nat {ws : List Nat} {k : Nat} (h : k / 64 < ws.length) : setR ws (k : Int) = ws.set (k / 64) (ws.getD (k / 64) 0 ||| 2 ^ (k % 64)) := by
  have : insR ws.length (k : Int) = true := by simp [insR, h]
  simp only [setR, this, if_true, Int.toNat_natCast]
theorem setR_has {ws : List Nat} {k : Nat} (h : k / 64 < ws.length) (j : Nat) : hasB (setR ws (k : Int)) j = (hasB ws j || decide (j = k)) := by
  rw [setR_nat h, hasB_test, hasB_test, set_getD]
  by_cases e : k / 64 = j / 64
  · rw [if_pos ⟨e, by omega⟩, e, Nat.testBit_or, Nat.testBit_two_pow]
    congr 1
    rw [decide_eq_decide]; omega
  · rw [if_neg (by omega)]
    have : ¬ (j = k) := by omega
    simp [this]

/-- The rows that a slice of slices holds. -/
def RowsOf (h : Heap) (d : D) (rs : List (List Nat)) : Prop :=
  ∃ ds, SlOf h 1 d ds rs.length ∧ ∀ k, k < rs.length → ∃ e, ds[k]? = some e ∧ SlOf h 1 e (u64s (rs.getD k [])) (rs.getD k []).length
theorem RowsOf.low {h : Heap} {d : D} {rs : List (List Nat)} (hr : RowsOf h d rs) (L : Heap) : RowsOf (h ++ L) d rs := by
  obtain ⟨ds, h1, h2⟩ := hr
  refine ⟨ds, h1.low L, fun k hk => ?_⟩
  obtain ⟨e, h3, h4⟩ := h2 k hk
  exact ⟨e, h3, h4.low L⟩
theorem RowsOf.elem {h : Heap} {d : D} {rs : List (List Nat)} (hr : RowsOf h d rs) {k : Nat} (hk : k < rs.length) :
    ∃ p cs e, elemAddr h 1 d (.int .i64 (k : Int)) = some p ∧ ptrCells h p = some cs ∧ cs[0]? = some e ∧ SlOf h 1 e (u64s (rs.getD k [])) (rs.getD k []).length := by
  obtain ⟨ds, h1, h2⟩ := hr
  obtain ⟨e, h3, h4⟩ := h2 k hk
  obtain ⟨p, cs, q1, q2, q3⟩ := h1.elem (k := .i64) (i := (k : Int)) (by omega) (by omega)
  refine ⟨p, cs, e, q1, q2, ?_, h4⟩
  rw [q3 0 (by omega), show ((k : Int).toNat * 1 + 0) = k by omega, h3]
end Go.Proofs

/-
  Own work. The walks of bitrow.And and bitrow.Or.
-/
namespace Go.Proofs
open Go Go.Ytodlpcoffmnmbaa
set_option linter.unusedVariables false
set_option linter.unusedSimpArgs false
set_option maxRecDepth 10000



/-- A row made here, or a front of it, behind the heap h. -/
def OutSt (h : Heap) (ws : List Nat) (d : D) (H : Heap) : Prop :=
  (d = .nils ∧ ws = [] ∧ H = []) ∨ ∃ CS N, H = [.grow 1 (u64s CS) N] ∧ CS.length = N ∧ ((d = .own h.length N ∧ ws = CS) ∨ (∃ k, d = .osl h.length N 0 k ∧ k ≤ N ∧ ws = CS.take k) ∨ (d = .sl [] 0 false ∧ ws = []))
theorem OutSt.of_new {h h' : Heap} {ws : List Nat} {d : D} (hn : NewSl h (u64s ws) ws.length d h') : ∃ H, h' = h ++ H ∧ OutSt h ws d H := by
  rcases hn with ⟨rfl, _, h0, rfl⟩ | ⟨rfl, rfl⟩
  · exact ⟨[], (List.append_nil _).symm, .inl ⟨rfl, List.length_eq_zero_iff.1 h0, rfl⟩⟩
  · exact ⟨_, rfl, .inr ⟨ws, _, rfl, rfl, .inl ⟨rfl, rfl⟩⟩⟩
theorem last_get (h : Heap) (b : Blk) : (h ++ [b])[h.length]? = some b := by simp
theorem u64s_takes (ws : List Nat) (k : Nat) : (u64s ws).take k = u64s (ws.take k) := by simp [u64s, List.map_take]
theorem OutSt.sl {h H : Heap} {ws : List Nat} {d : D} (ho : OutSt h ws d H) : SlOf (h ++ H) 1 d (u64s ws) ws.length := by
  rcases ho with ⟨rfl, rfl, rfl⟩ | ⟨CS, N, rfl, hN, ⟨rfl, rfl⟩ | ⟨k, rfl, hk, rfl⟩ | ⟨rfl, rfl⟩⟩
  · exact nils_of _ _
  · rw [hN]
    exact own_of (last_get _ _) (by rw [u64s_length]; omega)
  · refine SlOf.of ?_ (by rw [u64s_length]; omega)
    rw [sc_osl, last_get]
    simp only [growOf_grow, Option.bind_some]
    rw [if_pos ⟨trivial, trivial, by rw [u64s_length]; omega⟩, List.drop_zero, Nat.mul_one, u64s_takes, List.length_take]
    rw [Nat.min_eq_left (by omega)]
  · exact sl_of _ _ [] 0 _ rfl
theorem bnd_lo (b : Nat) : bnd none 0 b = some 0 := rfl
theorem OutSt.cut {h H : Heap} {ws : List Nat} {d : D} (ho : OutSt h ws d H) {m : Nat} (hm : m ≤ ws.length) :
    ∃ d', subSl (h ++ H) 1 d none (some (.int .i64 (m : Int))) = some d' ∧ OutSt h (ws.take m) d' H := by
  rcases ho with ⟨rfl, rfl, rfl⟩ | ⟨CS, N, rfl, hN, ⟨rfl, rfl⟩ | ⟨k, rfl, hk, rfl⟩ | ⟨rfl, rfl⟩⟩
  · have : m = 0 := by simpa using hm
    subst this
    exact ⟨.nils, by rw [ss_nils]; simp [bnd], .inl ⟨rfl, rfl, rfl⟩⟩
  · rw [ss_own, last_get]
    have hb : bnd (some (.int .i64 (m : Int))) N N = some m := by
      simp only [bnd]; rw [if_pos ⟨by omega, by omega⟩, Int.toNat_natCast]
    simp only [growOf_grow, Option.bind_some, and_self, if_true, hb, bnd_lo]
    by_cases h0 : 0 < N
    · rw [if_pos h0, Nat.zero_mul, Nat.sub_zero]
      exact ⟨_, rfl, .inr ⟨ws, N, rfl, hN, .inr (.inl ⟨m, rfl, by omega, rfl⟩)⟩⟩
    · rw [if_neg h0]
      have : ws = [] := List.length_eq_zero_iff.1 (by omega)
      subst this
      exact ⟨_, rfl, .inr ⟨[], N, rfl, hN, .inr (.inr ⟨rfl, by simp⟩)⟩⟩
  · rw [List.length_take] at hm
    rw [ss_osl, last_get]
    have hb : bnd (some (.int .i64 (m : Int))) k k = some m := by
      simp only [bnd]; rw [if_pos ⟨by omega, by omega⟩, Int.toNat_natCast]
    simp only [growOf_grow, Option.bind_some, and_self, if_true, hb, bnd_lo]
    by_cases h0 : 0 < k
    · rw [if_pos h0, Nat.zero_mul, Nat.sub_zero, Nat.add_zero]
      exact ⟨_, rfl, .inr ⟨CS, N, rfl, hN, .inr (.inl ⟨m, rfl, by omega, by rw [List.take_take, Nat.min_eq_left (by omega)]⟩)⟩⟩
    · rw [if_neg h0]
      have : k = 0 := by omega
      subst this
      exact ⟨_, rfl, .inr ⟨CS, N, rfl, hN, .inr (.inr ⟨rfl, by simp⟩)⟩⟩
  · have : m = 0 := by simpa using hm
    subst this
    exact ⟨.sl [] 0 false, by rw [ss_sl]; simp [bnd], .inr ⟨CS, N, rfl, hN, .inr (.inr ⟨rfl, by simp⟩)⟩⟩
theorem idx_nat {k : IntKind} {i n : Nat} (h : i < n) : idx (.int k (i : Int)) n = some i := by
  simp only [idx]; rw [if_pos ⟨by omega, by omega⟩, Int.toNat_natCast]
theorem splice_one {cs : List D} {i : Nat} (h : i < cs.length) (x : D) : splice cs i [x] = cs.set i x := by
  have := splice1 (cs := cs) (off := i) (v := x)
  simpa [h] using this
theorem OutSt.at {h H : Heap} {ws : List Nat} {d : D} (ho : OutSt h ws d H) {i : Nat} (hi : i < ws.length) :
    ∃ p cs, elemAddr (h ++ H) 1 d (.int .i64 (i : Int)) = some p ∧ ptrCells (h ++ H) p = some cs ∧ cs[0]? = some (.int .u64 ((ws.getD i 0 : Nat) : Int)) ∧
      ∀ x : Nat, ∃ H', storeAt (h ++ H) p [.int .u64 (x : Int)] = some (h ++ H') ∧ OutSt h (ws.set i x) d H' := by
  obtain ⟨p, cs, e1, e2, e3⟩ := ho.sl.elem (k := .i64) (i := (i : Int)) (by omega) (by omega)
  have e4 := e3 0 (by omega)
  rw [show ((i : Int).toNat * 1 + 0) = i by omega, u64s_get hi] at e4
  refine ⟨p, cs, e1, e2, e4, fun x => ?_⟩
  have hst : ∀ (CS : List Nat) (N : Nat), CS.length = N → i < CS.length → storeAt (h ++ [.grow 1 (u64s CS) N]) (.eref h.length N i) [.int .u64 (x : Int)] = some (h ++ [.grow 1 (u64s (CS.set i x)) N]) := by
    intro CS N hN hlt
    rw [sa_eref, last_get]
    simp only [growW_grow, Option.bind_some]
    rw [if_pos ⟨trivial, by rw [u64s_length]; simp; omega⟩, splice_one (by rw [u64s_length]; omega), u64s_set]
    simp
  rcases ho with ⟨rfl, rfl, rfl⟩ | ⟨CS, N, rfl, hN, ⟨rfl, rfl⟩ | ⟨k, rfl, hk, rfl⟩ | ⟨rfl, rfl⟩⟩
  · simp at hi
  · rw [ea_own, last_get] at e1
    simp only [growOf_grow, Option.bind_some, and_self, if_true] at e1
    rw [idx_nat (by omega)] at e1
    simp only [Option.map_some, Option.some.injEq, Nat.mul_one] at e1
    subst e1
    exact ⟨_, hst ws N hN hi, .inr ⟨ws.set i x, N, rfl, by simpa using hN, .inl ⟨rfl, rfl⟩⟩⟩
  · rw [ea_osl, last_get] at e1
    have hik : i < k := by rw [List.length_take] at hi; omega
    simp only [growOf_grow, Option.bind_some, and_self, if_true] at e1
    rw [idx_nat hik] at e1
    simp only [Option.map_some, Option.some.injEq, Nat.mul_one, Nat.zero_add] at e1
    subst e1
    exact ⟨_, hst CS N hN (by omega), .inr ⟨CS.set i x, N, rfl, by simpa using hN, .inr (.inl ⟨k, rfl, hk, by rw [List.take_set]⟩)⟩⟩
  · simp at hi
theorem OutSt.fin {h H : Heap} {ws : List Nat} {d : D} (ho : OutSt h ws d H) : FinOk h (h ++ H) [d] (fun d h' => ∃ L, h' = h ++ L ∧ SlOf h' 1 d (u64s ws) ws.length) :=
  FinOk.all ⟨H, rfl, ho.sl⟩

theorem subSl_low {h : Heap} {sz : Nat} {d p : D} {lo hi : Option D} (hd : subSl h sz d lo hi = some p) (L : Heap) : subSl (h ++ L) sz d lo hi = some p := by
  have key : ∀ r, h[r]? ≠ none → (h ++ L)[r]? = h[r]? := fun r hr => get_low (by
    rcases Nat.lt_or_ge r h.length with g | g
    · exact g
    · exact absurd (List.getElem?_eq_none g) hr)
  cases d <;> first | exact hd | skip
  all_goals
    rename_i r _
    simp only [subSl] at hd ⊢
    rw [key]
    · exact hd
    · intro e; rw [e] at hd; cases hd
theorem mix_and (a b : List Nat) : mixTo (· &&& ·) (a.take (min a.length b.length)) b (min a.length b.length) = andP a b := by
  refine list_ext_getD (by rw [mixTo_length, andP_length, List.length_take]; omega) fun j hj => ?_
  rw [mixTo_length] at hj
  have hj2 : j < min a.length b.length := by rw [List.length_take] at hj; omega
  rw [mixTo_getD _ _ _ _ _ hj, if_pos hj2, andP_getD, List.getD_eq_getElem?_getD, List.getElem?_take, if_pos hj2, ← List.getD_eq_getElem?_getD]

/-- A row that has grown here can be written. -/
theorem AppSt.at {h H : Heap} {ws : List Nat} {d : D} (ha : AppSt h (u64s ws) ws.length d H) {i : Nat} (hi : i < ws.length) :
    ∃ p cs, elemAddr (h ++ H) 1 d (.int .i64 (i : Int)) = some p ∧ ptrCells (h ++ H) p = some cs ∧ cs[0]? = some (.int .u64 ((ws.getD i 0 : Nat) : Int)) ∧
      ∀ x : Nat, ∃ H', storeAt (h ++ H) p [.int .u64 (x : Int)] = some (h ++ H') ∧ AppSt h (u64s (ws.set i x)) (ws.set i x).length d H' := by
  have s := ha.sl (u64s_length ws)
  obtain ⟨p, cs, e1, e2, e3⟩ := s.elem (k := .i64) (i := (i : Int)) (by omega) (by omega)
  have e4 := e3 0 (by omega)
  rw [show ((i : Int).toNat * 1 + 0) = i by omega, u64s_get hi] at e4
  refine ⟨p, cs, e1, e2, e4, fun x => ?_⟩
  rcases ha with ⟨h0, _⟩ | ⟨h0, rfl, b, L, rfl⟩
  · omega
  · have hg : (h ++ b :: .grow 1 (u64s ws) ws.length :: L)[h.length + 1]? = some (.grow 1 (u64s ws) ws.length) := by
      rw [List.getElem?_append_right (by omega), show h.length + 1 - h.length = 1 by omega]; rfl
    rw [ea_own, hg] at e1
    simp only [growOf_grow, Option.bind_some, and_self, if_true] at e1
    rw [idx_nat hi] at e1
    simp only [Option.map_some, Option.some.injEq, Nat.mul_one] at e1
    subst e1
    refine ⟨b :: .grow 1 (u64s (ws.set i x)) ws.length :: L, ?_, .inr ⟨by rw [List.length_set]; omega, by rw [List.length_set], b, L, by rw [List.length_set]⟩⟩
    rw [sa_eref, hg]
    simp only [growW_grow, Option.bind_some]
    rw [if_pos ⟨trivial, by rw [u64s_length]; simp; omega⟩, splice_one (by rw [u64s_length]; omega), u64s_set]
    rw [List.set_append_right _ _ (by omega), show h.length + 1 - h.length = 1 by omega]
    rfl
theorem u64s_zero (ws : List Nat) : u64s (ws ++ [0]) = u64s ws ++ [.int .u64 0] := by simp [u64s]
theorem mix_or (a b : List Nat) : mixTo (· ||| ·) (a ++ List.replicate (b.length - a.length) 0) b b.length = orP a b := by
  refine list_ext_getD (by rw [mixTo_length, orP_length, List.length_append, List.length_replicate]; omega) fun j hj => ?_
  rw [mixTo_length] at hj
  have hg : (a ++ List.replicate (b.length - a.length) 0).getD j 0 = a.getD j 0 := by
    rcases Nat.lt_or_ge j a.length with h | h
    · rw [List.getD_eq_getElem?_getD, List.getElem?_append_left h, ← List.getD_eq_getElem?_getD]
    · rw [getD_out h, List.getD_eq_getElem?_getD, List.getElem?_append_right h, List.getElem?_replicate]
      split <;> rfl
  rw [mixTo_getD _ _ _ _ _ hj, orP_getD, hg]
  by_cases h : j < b.length
  · rw [if_pos h]
  · rw [if_neg h, getD_out (a := b) (by omega)]; simp

end Go.Proofs

/-
  Own work. The walks of the document's All, And, Or.
-/
namespace Go.Proofs
open Go Go.Ytodlpcoffmnmbaa
set_option linter.unusedVariables false
set_option linter.unusedSimpArgs false
set_option maxRecDepth 10000



theorem newR_of {m : Nat} (h : m ≤ 1024) : newR ((64 * m : Nat) : Int) = List.replicate m 0 := by
  unfold newR
  rw [if_neg (by omega), show (((64 * m : Nat) : Int).toNat + 63) / 64 = m by omega]
theorem newR_words (n : Int) : Words (newR n) := newR_lt n

theorem getD_mem {rs : List (List Nat)} {k : Nat} (h : k < rs.length) : rs.getD k [] ∈ rs := by
  rw [List.getD_eq_getElem?_getD, List.getElem?_eq_getElem h]; exact List.getElem_mem h
theorem take_snoc {rs : List (List Nat)} {k : Nat} (h : k < rs.length) : rs.take (k + 1) = rs.take k ++ [rs.getD k []] := by
  rw [List.take_add_one, List.getD_eq_getElem?_getD, List.getElem?_eq_getElem h]; rfl
theorem hasR_nat (ws : List Nat) (k : Nat) : hasR ws (k : Int) = hasB ws k := by
  have e2 : ((k : Int)).toNat = k := rfl
  rw [hasR, insR, e2]
  by_cases h : k / 64 < ws.length
  · simp [h]
  · rw [hasB_out (by omega)]; simp

/-- The row in which just those bits below k are set of which f is true. -/
def putTo (f : Nat → Bool) (n : Nat) : Nat → List Nat
  | 0 => List.replicate n 0
  | k + 1 => if f k then setR (putTo f n k) (k : Int) else putTo f n k
theorem putTo_length (f : Nat → Bool) (n : Nat) : ∀ k, (putTo f n k).length = n
  | 0 => by simp [putTo]
  | k + 1 => by
    rw [putTo]
    split
    · rw [setR_length, putTo_length f n k]
    · exact putTo_length f n k
theorem putTo_words (f : Nat → Bool) (n : Nat) : ∀ k, Words (putTo f n k)
  | 0 => by
    intro w hw
    rw [(List.mem_replicate.1 hw).2]; omega
  | k + 1 => by
    rw [putTo]
    split
    · exact setR_lt (putTo_words f n k) _
    · exact putTo_words f n k
theorem putTo_has (f : Nat → Bool) (n : Nat) : ∀ k, k ≤ 64 * n → ∀ j, hasB (putTo f n k) j = (decide (j < k) && f j)
  | 0, _, j => by
    have : (putTo f n 0).getD (j / 64) 0 = 0 := by
      rw [putTo, List.getD_eq_getElem?_getD, List.getElem?_replicate]; split <;> rfl
    rw [hasB_test, this]; simp
  | k + 1, h, j => by
    have ih := putTo_has f n k (by omega) j
    rw [putTo]
    by_cases hf : f k = true
    · rw [if_pos hf, setR_has (by rw [putTo_length]; omega), ih]
      by_cases e : j = k
      · subst e; simp [hf]
      · have : (j < k + 1) ↔ j < k := by omega
        simp [e, this]
    · rw [if_neg hf, ih]
      by_cases e : j = k
      · subst e
        have : f j = false := by simpa using hf
        simp [this]
      · have : (j < k + 1) ↔ j < k := by omega
        simp [this]
theorem putTo_eq {f : Nat → Bool} {n : Nat} {ws : List Nat} (hl : ws.length = n) (hw : Words ws) (h : ∀ j, j < 64 * n → hasB ws j = f j) : putTo f n (64 * n) = ws := by
  refine row_ext (by rw [putTo_length, hl]) (putTo_words _ _ _) hw fun j hj => ?_
  rw [putTo_length] at hj
  rw [putTo_has _ _ _ (Nat.le_refl _), h j hj]
  simp [hj]

theorem any_snoc {rs : List (List Nat)} {k j : Nat} (h : k < rs.length) : ((rs.take (k + 1)).any fun x => hasB x j) = (((rs.take k).any fun x => hasB x j) || hasB (rs.getD k []) j) := by
  rw [take_snoc h, List.any_append]; simp
end Go.Proofs

/-
  Own work. What must be whatever is asked: the walk of live of layer 18.
-/
namespace Go.Proofs
open Go Go.Ytodlpcoffmnmbaa
set_option linter.unusedVariables false
set_option linter.unusedSimpArgs false
set_option maxRecDepth 10000



/-- A heap that has more behind it. -/
def Ext (h h' : Heap) : Prop := ∃ L, h' = h ++ L
theorem Ext.refl (h : Heap) : Ext h h := ⟨[], (List.append_nil h).symm⟩
theorem Ext.trans {h h' h'' : Heap} (a : Ext h h') (b : Ext h' h'') : Ext h h'' := by
  obtain ⟨L, rfl⟩ := a
  obtain ⟨M, rfl⟩ := b
  exact ⟨L ++ M, List.append_assoc _ _ _⟩
theorem Ext.app {h h' : Heap} (a : Ext h h') (L : Heap) : Ext h (h' ++ L) := a.trans ⟨L, rfl⟩
theorem SlOf.ext {h h' : Heap} {sz : Nat} {d : D} {cs : List D} {n : Nat} (s : SlOf h sz d cs n) (e : Ext h h') : SlOf h' sz d cs n := by
  obtain ⟨L, rfl⟩ := e
  exact s.low L
theorem RowsOf.ext {h h' : Heap} {d : D} {rs : List (List Nat)} (s : RowsOf h d rs) (e : Ext h h') : RowsOf h' d rs := by
  obtain ⟨L, rfl⟩ := e
  exact s.low L
theorem fin_ext {h h' : Heap} {d : D} {R : D → Heap → Prop} (e : Ext h h') (hu : underL h.length [d] = true) (hr : R d h) : FinOk h h' [d] R := by
  obtain ⟨L, rfl⟩ := e
  exact FinOk.drop (.inl rfl) hu hr
/-- A row, and its words. -/
def RowOf (h : Heap) (d : D) (ws : List Nat) : Prop := SlOf h 1 d (u64s ws) ws.length
theorem RowOf.ext {h h' : Heap} {d : D} {ws : List Nat} (s : RowOf h d ws) (e : Ext h h') : RowOf h' d ws := SlOf.ext s e
def Made (h : Heap) (ws : List Nat) (d : D) (h' : Heap) : Prop := Ext h h' ∧ RowOf h' d ws
theorem NewSl.ext {h h' : Heap} {cs : List D} {n : Nat} {d : D} (hn : NewSl h cs n d h') : Ext h h' := by
  rcases hn with ⟨_, _, _, rfl⟩ | ⟨_, rfl⟩
  · exact Ext.refl _
  · exact ⟨_, rfl⟩
theorem NewSl.made {h h' : Heap} {ws : List Nat} {d : D} {n : Nat} (hn : NewSl h (u64s ws) n d h') (hl : n = ws.length) : Made h ws d h' := by
  subst hl
  exact ⟨hn.ext, hn.sl (u64s_length ws)⟩
theorem newRef_md (h : Heap) (n : Int) (h0 : -9223372036854775808 ≤ n) (h1 : n < 9223372036854775808) : FC Try.prog 95 [.int .i64 n] h (Made h (newR n)) :=
  (newRef_fc h n h0 h1).mono fun d h' hn => hn.made rfl
theorem setRef_md (h : Heap) (row : D) (ws : List Nat) (s : RowOf h row ws) (hlen : ws.length ≤ 1048576) (hw : Words ws) (i : Int) (h0 : -9223372036854775808 ≤ i) (h1 : i < 9223372036854775808) : FC Try.prog 96 [row, .int .i64 i] h (Made h (setR ws i)) :=
  (setRef_fc h row ws s hlen hw i h0 h1).mono fun d h' hn => hn.made (setR_length ws i).symm
/-- Two rows side by side. -/
theorem rows2 {h : Heap} {x y : D} {a b : List Nat} (s : RowOf h x a) (t : RowOf h y b) : RowsOf (h ++ [.grow 1 [x, y] 2]) (.own h.length 2) [a, b] := by
  refine ⟨[x, y], own_of (last_get _ _) (by simp), fun k hk => ?_⟩
  match k, hk with
  | 0, _ => exact ⟨x, rfl, s.low _⟩
  | 1, _ => exact ⟨y, rfl, t.low _⟩

end Go.Proofs

/-
  Own work. The laws BitrowSets and BitrowJoins.
-/
namespace Go.Proofs
open Go Go.Ytodlpcoffmnmbaa
set_option linter.unusedVariables false
set_option linter.unusedSimpArgs false
set_option maxRecDepth 10000



/-! ### Openers -/
theorem u64_nats : ∀ {zs : List Int}, (∀ z ∈ zs, (Sh.int .u64).ok z) → ∃ ws : List Nat, Words ws ∧ zs.map (D.int .u64) = u64s ws ∧ ws.length = zs.length
  | [], _ => ⟨[], by simp [Words], rfl, rfl⟩
  | z :: zs, h => by
    obtain ⟨ws, h1, h2, h3⟩ := u64_nats (zs := zs) fun y hy => h y (by simp [hy])
    obtain ⟨n, rfl, hn⟩ := ok_u64 (h z (by simp))
    refine ⟨n :: ws, ?_, ?_, by simp [h3]⟩
    · intro w hw
      rcases List.mem_cons.1 hw with rfl | hw
      · exact hn
      · exact h1 w hw
    · rw [List.map_cons, h2]; rfl
theorem sumBy_ge {α : Type} {f : α → Nat} (hf : ∀ x, 1 ≤ f x) : ∀ l : List α, l.length ≤ sumBy f l
  | [] => by simp [sumBy]
  | x :: l => by
    have := sumBy_ge hf l
    have := hf x
    simp only [sumBy, List.length_cons]; omega
theorem sumBy_mem {α : Type} {f : α → Nat} : ∀ {l : List α} {x : α}, x ∈ l → f x ≤ sumBy f l
  | y :: l, x, h => by
    rcases List.mem_cons.1 h with rfl | h
    · simp only [sumBy]; omega
    · have := sumBy_mem (f := f) h
      simp only [sumBy]; omega
theorem row_open {x : (Sh.sl (.int .u64)).T} {d : D} (ok : (Sh.sl (.int .u64)).ok x) (en : (Sh.sl (.int .u64)).EncV x d) :
    ∃ ws : List Nat, Words ws ∧ ws.length = (x : List Int).length ∧ ws.length + 1 ≤ (Sh.sl (.int .u64)).vol x ∧ ∀ h, RowOf h d ws := by
  obtain ⟨ws, h1, h2, h3⟩ := u64_nats (zs := (x : List Int)) ok
  refine ⟨ws, h1, h3, ?_, fun h => ?_⟩
  · have := sumBy_ge (f := (Sh.int .u64).vol) (fun _ => Nat.le_refl _) (x : List Int)
    simp only [Sh.vol]
    simp only [Sh.vol] at this
    omega
  · have := (sl_ints en h).1
    rw [h2] at this
    unfold RowOf
    rw [h3]
    exact this
theorem rows_enc : ∀ {xs : List (List Int)} {es : List D}, (∀ x ∈ xs, (Sh.sl (.int .u64)).ok x) → EncL (Sh.sl (.int .u64)).Enc xs es →
    ∃ rs : List (List Nat), rs.length = xs.length ∧ es.length = xs.length ∧ (∀ r ∈ rs, Words r) ∧ (∀ r ∈ rs, r.length + 1 ≤ sumBy (Sh.sl (.int .u64)).vol xs) ∧ ∀ h k, k < rs.length → ∃ e, es[k]? = some e ∧ RowOf h e (rs.getD k [])
  | [], es, _, h => by
    simp only [EncL] at h
    subst h
    exact ⟨[], rfl, rfl, by simp, by simp, fun h k hk => by simp at hk⟩
  | x :: xs, es, ok, h => by
    obtain ⟨a, b, h1, h2, rfl⟩ := h
    obtain ⟨rs, q1, q2, q3, q4, q5⟩ := rows_enc (fun y hy => ok y (by simp [hy])) h2
    have hd : ∃ d, a = [d] ∧ (Sh.sl (.int .u64)).EncV x d := by
      have h1' := h1
      simp only [Sh.Enc] at h1
      rcases h1 with ⟨_, rfl⟩ | ⟨_, _, rfl⟩
      · exact ⟨_, rfl, h1'⟩
      · exact ⟨_, rfl, h1'⟩
    obtain ⟨d, rfl, en⟩ := hd
    obtain ⟨ws, w1, w2, w3, w4⟩ := row_open (ok x (by simp)) en
    refine ⟨ws :: rs, by simp [q1], by simp [q2], ?_, ?_, ?_⟩
    · intro r hr
      rcases List.mem_cons.1 hr with rfl | hr
      · exact w1
      · exact q3 r hr
    · intro r hr
      simp only [sumBy]
      rcases List.mem_cons.1 hr with rfl | hr
      · omega
      · have := q4 r hr; omega
    · intro h k hk
      match k with
      | 0 => exact ⟨d, rfl, w4 h⟩
      | k + 1 =>
        obtain ⟨e, e1, e2⟩ := q5 h k (by simpa using hk)
        exact ⟨e, by simpa using e1, e2⟩
theorem rows_open {x : (Sh.sl (.sl (.int .u64))).T} {d : D} (ok : (Sh.sl (.sl (.int .u64))).ok x) (en : (Sh.sl (.sl (.int .u64))).EncV x d) :
    ∃ rs : List (List Nat), (∀ r ∈ rs, Words r) ∧ rs.length + 1 ≤ (Sh.sl (.sl (.int .u64))).vol x ∧ (∀ r ∈ rs, r.length + 1 ≤ (Sh.sl (.sl (.int .u64))).vol x) ∧ ∀ h, RowsOf h d rs := by
  simp only [Sh.EncV, Sh.Enc] at en
  rcases en with ⟨rfl, h1⟩ | ⟨es, h1, h2⟩
  · simp only [List.cons.injEq, and_true] at h1
    subst h1
    exact ⟨[], by simp, by simp [Sh.vol], by simp, fun h => ⟨[], nils_of h 1, fun k hk => by simp at hk⟩⟩
  · simp only [List.cons.injEq, and_true] at h2
    subst h2
    obtain ⟨rs, q1, q2, q3, q4, q5⟩ := rows_enc ok h1
    refine ⟨rs, q3, ?_, ?_, fun h => ⟨es, ?_, q5 h⟩⟩
    · have := sumBy_ge (f := (Sh.sl (.int .u64)).vol) (fun _ => by simp only [Sh.vol]; omega) (x : List (List Int))
      have e : (Sh.sl (.sl (.int .u64))).vol x = sumBy (Sh.sl (.int .u64)).vol x + 1 := rfl
      rw [e]; omega
    · intro r hr
      have := q4 r hr
      have e : (Sh.sl (.sl (.int .u64))).vol x = sumBy (Sh.sl (.int .u64)).vol x + 1 := rfl
      rw [e]; omega
    · rw [q1]
      exact sl_of h 1 es _ _ (by rw [q2]; omega)

/-! ### BitrowJoins -/
end Go.Proofs

/-
  Own work. The law BitrowBack.
-/
namespace Go.Proofs
open Go Go.Ytodlpcoffmnmbaa
set_option linter.unusedVariables false
set_option linter.unusedSimpArgs false
set_option maxRecDepth 10000



theorem RowOf.cut {h : Heap} {d : D} {ws : List Nat} (s : RowOf h d ws) {m : Nat} (hm : m ≤ ws.length) :
    ∃ d', subSl h 1 d none (some (.int .i64 (m : Int))) = some d' ∧ RowOf h d' (ws.take m) := by
  obtain ⟨xc, g1, g2⟩ := SlOf.sub s (lo := none) (hi := some (.int .i64 (m : Int))) (a := 0) (b := m) (by simp only [bnd]; rw [if_pos ⟨by omega, by omega⟩]; rfl) rfl (by omega) hm
  refine ⟨xc, g1, ?_⟩
  unfold RowOf
  rw [List.length_take, Nat.min_eq_left hm, ← u64s_takes]
  simpa using g2

/-- The bits that are set, one after another one. -/
theorem onesL_mem {ws : List Nat} {x : Nat} : x ∈ onesL ws ↔ x < 64 * ws.length ∧ hasB ws x = true := by
  simp [onesL, onesTo, List.mem_filter, List.mem_range]
theorem onesL_rise (ws : List Nat) : (onesL ws).Pairwise (· < ·) := List.Pairwise.filter _ List.pairwise_lt_range
def putL (n : Nat) (l : List Nat) : List Nat := l.foldl (fun ws (k : Nat) => setR ws (k : Int)) (List.replicate n 0)
theorem putF_length : ∀ (l : List Nat) (ws : List Nat), (l.foldl (fun ws (k : Nat) => setR ws (k : Int)) ws).length = ws.length
  | [], ws => rfl
  | k :: l, ws => by rw [List.foldl_cons, putF_length l, setR_length]
theorem putF_words : ∀ (l : List Nat) (ws : List Nat), Words ws → Words (l.foldl (fun ws (k : Nat) => setR ws (k : Int)) ws)
  | [], ws, h => h
  | k :: l, ws, h => by rw [List.foldl_cons]; exact putF_words l _ (setR_lt h _)
theorem putF_has (j : Nat) : ∀ (l : List Nat) (ws : List Nat), (∀ k ∈ l, k < 64 * ws.length) → hasB (l.foldl (fun ws (k : Nat) => setR ws (k : Int)) ws) j = (hasB ws j || decide (j ∈ l))
  | [], ws, _ => by simp
  | k :: l, ws, h => by
    have hk := h k (by simp)
    rw [List.foldl_cons, putF_has j l _ (by intro x hx; rw [setR_length]; exact h x (by simp [hx])), setR_has (by omega)]
    simp only [List.mem_cons, Bool.decide_or, Bool.or_assoc]
theorem zero_has (n j : Nat) : hasB (List.replicate n 0) j = false := by
  have : (List.replicate n 0).getD (j / 64) 0 = 0 := by
    rw [List.getD_eq_getElem?_getD, List.getElem?_replicate]; split <;> rfl
  rw [hasB_test, this]; simp
theorem putL_length (n : Nat) (l : List Nat) : (putL n l).length = n := by rw [putL, putF_length]; simp
theorem zero_words (n : Nat) : Words (List.replicate n 0) := fun w hw => by rw [(List.mem_replicate.1 hw).2]; omega
theorem putL_words (n : Nat) (l : List Nat) : Words (putL n l) := putF_words l _ (zero_words n)
theorem putL_ones {ws : List Nat} (hw : Words ws) : putL ws.length (onesL ws) = ws := by
  refine row_ext (putL_length _ _) (putL_words _ _) hw fun j hj => ?_
  rw [putL_length] at hj
  rw [putL, putF_has j _ _ (by intro k hk; rw [List.length_replicate]; exact (onesL_mem.1 hk).1), zero_has, Bool.false_or]
  cases hb : hasB ws j with
  | false => rw [decide_eq_false]; intro hm; rw [(onesL_mem.1 hm).2] at hb; cases hb
  | true => rw [decide_eq_true]; exact onesL_mem.2 ⟨hj, hb⟩
theorem putL_snoc (n : Nat) (l : List Nat) (k : Nat) : putL n (l ++ [k]) = setR (putL n l) (k : Int) := by simp [putL]
theorem filter_two {α : Type} (p q : α → Bool) : ∀ l : List α, (l.filter fun x => p x && q x).length + (l.filter fun x => p x || q x).length = (l.filter p).length + (l.filter q).length
  | [] => rfl
  | x :: l => by
    have ih := filter_two p q l
    simp only [List.filter_cons]
    cases p x <;> cases q x <;> simp <;> omega
theorem count_two {a b : List Nat} (hl : a.length = b.length) : (onesL (andR [a, b])).length + (onesL (orR [a, b])).length = (onesL a).length + (onesL b).length := by
  have h1 : (andR [a, b]).length = a.length := by rw [andR, List.foldl_cons, List.foldl_nil, andP_length]; omega
  have h2 : (orR [a, b]).length = a.length := by rw [orR, List.foldl_cons, List.foldl_cons, List.foldl_nil, orP_length, orP_length]; simp; omega
  have e1 : hasB (andR [a, b]) = fun j => hasB a j && hasB b j := by
    funext j
    rw [andR, andF_has]; simp
  have e2 : hasB (orR [a, b]) = fun j => hasB a j || hasB b j := by
    funext j
    rw [orR_has]; simp
  unfold onesL onesTo
  rw [h1, h2, e1, e2, ← hl]
  exact filter_two _ _ _

end Go.Proofs

/-
  Own work. The walks of Text, Parse, and of the document's ones.
-/
namespace Go.Proofs
open Go Go.Ytodlpcoffmnmbaa
set_option linter.unusedVariables false
set_option linter.unusedSimpArgs false
set_option maxRecDepth 10000

/-! ### weighbridge/weighbridgeref18.Of, params 2 -/
def c81r0 : List AStm := [.op (some 4) none (.mv (.c .nils))]
def c81r1 : List AStm := [.op (some 7) none (.mv (.t 0)),
    .call (some 8) none (.c (.fn (.func 95) [] [])) [(.t 7)],
    .op (some 5) none (.mv (.t 8))]
def c81r2 : List AStm := [.op (some 6) none (.mv (.c (.int .i64 0)))]
def c81r3 : List AStm := [.op (some 9) none (.mv (.t 6)),
    .op (some 10) none (.mv (.t 1)),
    .op (some 11) none (.len false (.t 10)),
    .op (some 12) none (.bin .lss (.t 9) (.t 11))]
def c81r4 : List AStm := [.op (some 15) none (.mv (.t 5)),
    .op (some 16) none (.mv (.t 1)),
    .op (some 17) none (.mv (.t 6)),
    .op (some 18) none (.ixs 1 (.t 16) (.t 17)),
    .op (some 19) none (.load none (.t 18)),
    .call (some 20) none (.c (.fn (.func 96) [] [])) [(.t 15), (.t 19)],
    .op (some 5) none (.mv (.t 20))]
def c81r5 : List AStm := [.op (some 13) none (.mv (.t 6)),
    .op (some 14) none (.bin .add (.t 13) (.c (.int .i64 1))),
    .op (some 6) none (.mv (.t 14))]
def c81l6 : AC := .seq (.seq (.reg c81r3) (.cond (.t 12) (.skip) (.exit 0))) (.seq (.block 1 (.reg c81r4)) (.reg c81r5))
def c81r7 : List AStm := [.op (some 21) none (.mv (.t 5)),
    .op (some 4) none (.mv (.t 21))]
def c81 : CF := ⟨.seq (.reg c81r0) (.seq (.reg c81r1) (.seq (.seq (.reg c81r2) (.block 0 (.loop c81l6))) (.seq (.reg c81r7) (.ret)))), [.tmp 4], 22⟩
theorem cf81 : cfun Try.prog 81 = some c81 := by kernel_rfl



def digB (ws : List Nat) (i : Nat) : UInt8 := if hasB ws i then 49 else 48
/-- The first bits as digits. -/
def textB (ws : List Nat) (n : Nat) : List UInt8 := (List.range n).map (digB ws)
def textR (ws : List Nat) (n : Int) : List UInt8 := if n < 0 ∨ 65536 < n then [] else textB ws n.toNat
def txTo (ws : List Nat) (n k : Nat) : List UInt8 := (List.range n).map fun i => if i < k then digB ws i else 0
theorem txTo_length (ws : List Nat) (n k : Nat) : (txTo ws n k).length = n := by simp [txTo]
theorem txTo_get (ws : List Nat) (n k i : Nat) (h : i < n) : (txTo ws n k)[i]? = some (if i < k then digB ws i else 0) := by
  rw [txTo, List.getElem?_map, List.getElem?_range h]; rfl
theorem txTo_set {ws : List Nat} {n k : Nat} (h : k < n) : (txTo ws n k).set k (digB ws k) = txTo ws n (k + 1) := by
  apply List.ext_getElem?
  intro i
  rw [List.getElem?_set]
  by_cases hi : i < n
  · rw [txTo_length, txTo_get _ _ _ _ hi, txTo_get _ _ _ _ hi]
    by_cases e : k = i
    · subst e
      rw [if_pos rfl, if_pos h, if_pos (by omega)]
    · rw [if_neg e]
      have : (i < k + 1) ↔ i < k := by omega
      simp only [this]
  · have e : ¬ (k = i) := by omega
    rw [if_neg e, List.getElem?_eq_none (by rw [txTo_length]; omega), List.getElem?_eq_none (by rw [txTo_length]; omega)]
theorem txTo_full (ws : List Nat) (n : Nat) : txTo ws n n = textB ws n := by
  unfold txTo textB
  apply List.map_congr_left
  intro i hi
  rw [if_pos (List.mem_range.1 hi)]
theorem txTo_zero (ws : List Nat) (n : Nat) : txTo ws n 0 = List.replicate n 0 := by
  unfold txTo
  apply List.ext_getElem?
  intro i
  by_cases h : i < n
  · rw [List.getElem?_map, List.getElem?_range h, List.getElem?_replicate, if_pos h]; simp
  · rw [List.getElem?_eq_none (by simp; omega), List.getElem?_eq_none (by simp; omega)]
theorem ofBytes_put (l : List UInt8) (k : Nat) (b : UInt8) : ofBytes (l.set k b) = (ofBytes l).set k (.int .u8 (b.toNat : Int)) := by
  simp [ofBytes, List.map_set]

theorem textB_snoc (ws : List Nat) (k : Nat) : textB ws (k + 1) = textB ws k ++ [digB ws k] := by simp [textB, List.range_succ]
/-! ### Of -/
theorem of_fc (h : Heap) (lD : D) (m : Nat) (l : List Nat) (s : SlOf h 1 lD (i64s l) l.length) (hm : m ≤ 65536) (hlen : l.length ≤ 1048576) (hl : ∀ k ∈ l, k < 65600) :
    FC Try.prog 81 [.int .i64 (m : Int), lD] h (Made h (putL ((m + 63) / 64) l)) := by
  refine FC.goes cf81 ?_; simp only [c81]; simp only [List.length_cons, List.length_nil, Nat.reduceAdd, Nat.reduceSub, List.replicate_succ, List.replicate_zero, List.cons_append, List.nil_append]
  simp (disch := first | omega | (simp only [List.length_append, List.length_cons, List.length_nil]; omega)) only [c81r0, c81r1, c81r2, c81r3, c81r4, c81r5, c81l6, c81r7, go_sem, fill_c, ↓reduceIte, reduceCtorEq, Nat.reduceAdd, Nat.reduceSub, Nat.reducePow, Nat.reduceMul, Nat.reduceEqDiff, Nat.reduceLT, Nat.reduceLeDiff, Int.reduceToNat, Int.reduceLT, Int.reduceLE, Int.reduceEq, Int.reduceNeg, Int.reduceAdd, Int.reduceSub, Int.reduceMul]
  refine gfc_of (newRef_md _ (m : Int) (by omega) (by omega)) ?_
  rintro x1 h1 ⟨E1, s1⟩
  have he : newR (m : Int) = List.replicate ((m + 63) / 64) 0 := by
    unfold newR
    rw [if_neg (by omega)]; rfl
  rw [he] at s1
  have hq : (m + 63) / 64 ≤ 1025 := by omega
  generalize (m + 63) / 64 = q at *
  simp (disch := first | omega | (simp only [List.length_append, List.length_cons, List.length_nil]; omega)) only [go_sem, fill_c, ↓reduceIte, reduceCtorEq, Nat.reduceAdd, Nat.reduceSub, Nat.reducePow, Nat.reduceMul, Nat.reduceEqDiff, Nat.reduceLT, Nat.reduceLeDiff, Int.reduceToNat, Int.reduceLT, Int.reduceLE, Int.reduceEq, Int.reduceNeg, Int.reduceAdd, Int.reduceSub, Int.reduceMul]
  refine loop_to l.length (fun i st => ∃ (d : D) (hh : Heap), Ext h1 hh ∧ RowOf hh d (putL q (l.take i)) ∧ ∃ (j : Nat → D), st = ⟨(j 0 :: lD :: j 2 :: j 3 :: j 4 :: d :: .int .i64 (i : Int) :: j 7 :: j 8 :: j 9 :: j 10 :: j 11 :: j 12 :: j 13 :: j 14 :: j 15 :: j 16 :: j 17 :: j 18 :: j 19 :: j 20 :: j 21 :: []), hh⟩) ⟨x1, h1, Ext.refl _, s1, junk rfl⟩ ?_
  rintro i st hi ⟨d, hh, Eh, sd, j, rfl⟩
  have sl' := SlOf.ext s (E1.trans Eh)
  by_cases hin : i < l.length
  · have hin' : (i : Int) < l.length := by omega
    obtain ⟨p, cs, q1, q2, q3⟩ := sl'.elem (k := .i64) (i := (i : Int)) (by omega) (by omega)
    have q4 := q3 0 (by omega)
    rw [show ((i : Int).toNat * 1 + 0) = i by omega, i64s_get hin] at q4
    have gi : l.getD i 0 = l[i] := by simp [List.getD_eq_getElem?_getD, List.getElem?_eq_getElem hin]
    have hmi : l.getD i 0 < 65600 := by rw [gi]; exact hl _ (List.getElem_mem hin)
    have hsn : putL q (l.take (i + 1)) = setR (putL q (l.take i)) ((l.getD i 0 : Nat) : Int) := by
      rw [List.take_add_one, List.getElem?_eq_getElem hin, gi]
      exact putL_snoc _ _ _
    have hpl := putL_length q (l.take i)
    have hpw := putL_words q (l.take i)
    have e5 : IntKind.i64.wrap ((i : Int) + 1) = ((i + 1 : Nat) : Int) := by rw [w_i64 (by omega) (by omega)]; omega
    generalize l.getD i 0 = v at *
    simp (disch := first | omega | (simp only [List.length_append, List.length_cons, List.length_nil]; omega)) only [c81r0, c81r1, c81r2, c81r3, c81r4, c81r5, c81l6, c81r7, sl'.lend, sl'.sort, hin', q1, q2, q4, go_sem, fill_c, ↓reduceIte, reduceCtorEq, Nat.reduceAdd, Nat.reduceSub, Nat.reducePow, Nat.reduceMul, Nat.reduceEqDiff, Nat.reduceLT, Nat.reduceLeDiff, Int.reduceToNat, Int.reduceLT, Int.reduceLE, Int.reduceEq, Int.reduceNeg, Int.reduceAdd, Int.reduceSub, Int.reduceMul]
    refine gfc_of (setRef_md _ d _ sd (by omega) hpw (v : Int) (by omega) (by omega)) ?_
    rintro d2 h3 ⟨E3, s3⟩
    rw [← hsn] at s3
    simp (disch := first | omega | (simp only [List.length_append, List.length_cons, List.length_nil]; omega)) only [e5, go_sem, fill_c, ↓reduceIte, reduceCtorEq, Nat.reduceAdd, Nat.reduceSub, Nat.reducePow, Nat.reduceMul, Nat.reduceEqDiff, Nat.reduceLT, Nat.reduceLeDiff, Int.reduceToNat, Int.reduceLT, Int.reduceLE, Int.reduceEq, Int.reduceNeg, Int.reduceAdd, Int.reduceSub, Int.reduceMul]
    exact ⟨hin, d2, h3, Eh.trans E3, s3, junk rfl⟩
  · have hin' : ¬ (i : Int) < l.length := by omega
    have : i = l.length := by omega
    subst this
    rw [List.take_length] at sd
    simp (disch := first | omega | (simp only [List.length_append, List.length_cons, List.length_nil]; omega)) only [c81r0, c81r1, c81r2, c81r3, c81r4, c81r5, c81l6, c81r7, sl'.lend, sl'.sort, hin', go_sem, fill_c, ↓reduceIte, reduceCtorEq, Nat.reduceAdd, Nat.reduceSub, Nat.reducePow, Nat.reduceMul, Nat.reduceEqDiff, Nat.reduceLT, Nat.reduceLeDiff, Int.reduceToNat, Int.reduceLT, Int.reduceLE, Int.reduceEq, Int.reduceNeg, Int.reduceAdd, Int.reduceSub, Int.reduceMul]
    exact FinOk.all ⟨E1.trans Eh, sd⟩

/-! ### Parse -/
def onesT (l : List UInt8) (k : Nat) : List Nat := (List.range k).filter fun j => l.getD j 0 = 49
theorem onesT_succ (l : List UInt8) (k : Nat) : onesT l (k + 1) = onesT l k ++ if l.getD k 0 = 49 then [k] else [] := by
  unfold onesT
  rw [List.range_succ, List.filter_append]
  congr 1
  by_cases h : l.getD k 0 = 49
  · rw [if_pos h]; simp only [List.filter_cons, h, decide_true, if_true, List.filter_nil]
  · rw [if_neg h]; simp only [List.filter_cons, h, decide_false, List.filter_nil]; rfl
theorem onesT_mem {l : List UInt8} {k x : Nat} : x ∈ onesT l k ↔ x < k ∧ l.getD x 0 = 49 := by
  simp [onesT, List.mem_filter, List.mem_range]
theorem onesT_le (l : List UInt8) (k : Nat) : (onesT l k).length ≤ k := by
  have := List.length_filter_le (fun j => decide (l.getD j 0 = 49)) (List.range k)
  simpa [onesT] using this
/-- The row of digits. -/
def digR (l : List UInt8) : List Nat := putL ((l.length + 63) / 64) (onesT l l.length)
def goodB (c : UInt8) : Prop := c = 48 ∨ c = 49
/-- What a text's row is. -/
def PRes (l : List UInt8) (h : Heap) (d : D) (h' : Heap) : Prop :=
  Ext h h' ∧ ((∃ i, i < l.length ∧ ¬ goodB (l.getD i 0) ∧ (∀ j < i, goodB (l.getD j 0)) ∧ d = .tup [.nils, .agg [.int .i64 3, .int .i64 (i : Int)]]) ∨
    ((∀ j < l.length, goodB (l.getD j 0)) ∧ ∃ r, d = .tup [r, .agg [.int .i64 0, .int .i64 0]] ∧ RowOf h' r (digR l)))
theorem putL_nat (q : Nat) (l : List Nat) (k : Nat) (h : k / 64 < q) : putL q (l ++ [k]) = (putL q l).set (k / 64) ((putL q l).getD (k / 64) 0 ||| 2 ^ (k % 64)) := by
  rw [putL_snoc, setR_nat (by rw [putL_length]; exact h)]

end Go.Proofs

