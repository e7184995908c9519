/-
  Own work. The value machine, part X: the rows: arguments as plain data, and the law told of the machine.
-/
import Derived.Test.YtodlpcoffmnmbaaDoorVu
import Derived.Below
import Derived.WideShapes
namespace Go.YtodlpcoffmnmbaaDoor
open Go Go.RowKit
set_option linter.unusedVariables false
set_option linter.unusedSimpArgs false

theorem HSim.nil (m : Mu) (w : World) (hg : ∀ p ∈ GV, RepAt m [] w p.2 p.1 0) : HSim m [] w := ⟨fun r r' b b' h => by simp at h, fun r b h => by simp at h, hg⟩
theorem Owned.nil {m : Mu} {b : Nat} (h : Owned m [] b) : False := by
  obtain ⟨r, blk, h1, _⟩ := h; simp at h1
theorem Evo.below {m m' : Mu} {h' : Heap} {w w' : World} (he : Evo m [] w m' h' w') : Below w.heap.size w w' :=
  ⟨he.os, he.tape, he.output, he.size, fun k hk => (he.keep k hk fun h => h.nil).2⟩

/-- THE LAW, told of the machine. -/
theorem FC.row {P : Program} {f : FuncId} {args : List D} {vs : List Value} {w : World} (hc : FC P f args [] fun d h' => d = .bool true ∧ h' = []) (hr : RepL (fun _ => (0, 0)) [] w args vs) (hg : ∀ p ∈ GV, RepAt (fun _ => (0, 0)) [] w p.2 p.1 0 := by simp [GV]) :
    Calls P f vs.toArray w fun e w' => e = .returned (.bool true) ∧ Below w.heap.size w w' := by
  refine (hc.2 (fun _ => (0, 0)) w vs (HSim.nil _ _ hg) hr).mono ?_
  rintro e w' ⟨v, m', d, h', rfl, _, h2, h3, rfl, rfl⟩
  simp only [Rep] at h2
  exact ⟨by rw [h2], h3.below⟩

/-- An array of whole numbers, as it is handed in. -/
theorem ints_of_wide {P : Program} {w : World} {r : Reach} {base : Nat} {t e e' : TypeId} {v : Value} {n c : Nat} {k : IntKind} (ht : P.underlying t = some (.array e n)) (hts : P.cellTypes P.depth t = some (List.replicate c e')) (hsz : P.cellsOf t = c) (he : P.underlying e' = some (.int k))
    (h : Value.okWide P w r base t v) : ∃ zs : List Int, v = .agg (zs.map (Value.int k)).toArray ∧ zs.length = c ∧ ∀ z ∈ zs, k.has z := by
  simp only [Value.okWide, ht] at h
  obtain ⟨cs, rfl, hcs, ts, h1, _, h2⟩ := h
  rw [hts] at h1
  obtain rfl := Option.some.inj h1
  rw [hsz] at hcs
  have key : ∀ l : List Value, (∀ x ∈ l, ∃ z, x = .int k z ∧ k.has z) → ∃ zs : List Int, l = zs.map (Value.int k) ∧ ∀ z ∈ zs, k.has z := by
    intro l
    induction l with
    | nil => intro _; exact ⟨[], rfl, by simp⟩
    | cons x l ih =>
      intro hx
      obtain ⟨z, rfl, hz⟩ := hx x (by simp)
      obtain ⟨zs, rfl, hzs⟩ := ih fun y hy => hx y (by simp [hy])
      exact ⟨z :: zs, rfl, by intro y hy; exact (List.mem_cons.1 hy).elim (fun e => e ▸ hz) (hzs y)⟩
  obtain ⟨zs, hz1, hz2⟩ := key cs.toList (by
    intro x hx
    obtain ⟨i, hi, rfl⟩ := List.getElem_of_mem hx
    obtain ⟨u, h3, h4⟩ := h2 i cs.toList[i] (by simp at hi ⊢)
    have hu : u = e' := by
      have := List.mem_of_getElem? h3
      exact List.eq_of_mem_replicate this
    subst hu
    simp only [Cell.okWide, he] at h4
    generalize cs.toList[i] = x at h4 ⊢
    cases x <;> simp_all [Cell.ok])
  refine ⟨zs, ?_, ?_, hz2⟩
  · rw [← hz1]
  · rw [← hcs, ← Array.length_toList, hz1, List.length_map]

theorem RepL_ints {m : Mu} {h : Heap} {w : World} {k : IntKind} : ∀ zs : List Int, RepL m h w (zs.map (D.int k)) (zs.map (Value.int k))
  | [] => by simp [RepL]
  | z :: zs => by simp only [List.map_cons, RepL]; exact ⟨_, _, rfl, by simp [Rep], RepL_ints zs⟩
theorem bytes_of_ints : ∀ zs : List Int, (∀ z ∈ zs, IntKind.u8.has z) → ∃ l : List UInt8, zs.map (D.int .u8) = ofBytes l ∧ l.length = zs.length
  | [], _ => ⟨[], rfl, rfl⟩
  | z :: zs, h => by
    obtain ⟨l, h1, h2⟩ := bytes_of_ints zs fun y hy => h y (by simp [hy])
    have hz := h z (by simp)
    have h0 : 0 ≤ z ∧ z < 256 := by
      simp [IntKind.has, IntKind.min, IntKind.max, IntKind.signed, IntKind.bits] at hz; omega
    refine ⟨UInt8.ofNat z.toNat :: l, ?_, by simp [h2]⟩
    simp only [ofBytes] at h1 ⊢
    rw [List.map_cons, List.map_cons, h1, UInt8.toNat_ofNat_of_lt' (by show z.toNat < 256; omega)]
    congr 2; omega
/-- An array of bytes, as it is handed in. -/
theorem array_bytes {P : Program} {w : World} {r : Reach} {base : Nat} {t e e' : TypeId} {v : Value} {n c : Nat} (ht : P.underlying t = some (.array e n)) (hts : P.cellTypes P.depth t = some (List.replicate c e')) (hsz : P.cellsOf t = c) (he : P.underlying e' = some (.int .u8))
    (h : Value.okWide P w r base t v) : ∃ l : List UInt8, l.length = c ∧ ∀ (m : Mu) (hp : Heap) (w' : World), Rep m hp w' (.agg (ofBytes l)) v := by
  obtain ⟨zs, rfl, h1, h2⟩ := ints_of_wide ht hts hsz he h
  obtain ⟨l, h3, h4⟩ := bytes_of_ints zs h2
  refine ⟨l, by omega, fun m hp w' => ?_⟩
  simp only [Rep]
  exact ⟨_, rfl, by rw [← h3]; exact RepL_ints zs⟩

end Go.YtodlpcoffmnmbaaDoor
