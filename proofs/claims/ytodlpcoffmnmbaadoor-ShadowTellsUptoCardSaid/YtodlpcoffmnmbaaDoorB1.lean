/-
  Own work. What stands in memory leads to blocks that are there; a function that writes one block, and drops its own.
-/
import Derived.Test.YtodlpcoffmnmbaaDoorB0
namespace Go.Proofs
open Go Go.YtodlpcoffmnmbaaDoor
set_option linter.unusedVariables false
set_option linter.unusedSimpArgs false
set_option maxRecDepth 10000

theorem lt_of_some {ah : Heap} {r : Nat} {b : Blk} (h : ah[r]? = some b) : decide (r < ah.length) = true := decide_eq_true (List.getElem?_eq_some_iff.1 h).1
 mutual
theorem rep_under {m : Mu} {ah : Heap} {w : World} : ∀ {d : D} {v : Value}, Rep m ah w d v → underD ah.length d = true
  | .any, _, _ => rfl
  | .bool _, _, _ => rfl
  | .int _ _, _, _ => rfl
  | .str _, _, _ => rfl
  | .nilp, _, _ => rfl
  | .nils, _, _ => rfl
  | .nilf, _, _ => rfl
  | .nili, _, _ => rfl
  | .nilm, _, _ => rfl
  | .fptr cs, v, h => by
    simp only [Rep] at h; obtain ⟨a, _, _, h⟩ := h
    simp only [underD]; exact repAt_under h
  | .sl cs n full, v, h => by
    simp only [Rep] at h; obtain ⟨a, cap, _, _, _, _, h⟩ := h
    simp only [underD]; exact repAt_under h
  | .ref r off, v, h => by simp only [Rep] at h; obtain ⟨_, blk, h, _⟩ := h; simp only [underD]; exact lt_of_some h
  | .own r n, v, h => by simp only [Rep] at h; obtain ⟨_, blk, h, _⟩ := h; simp only [underD]; exact lt_of_some h
  | .eref r n off, v, h => by simp only [Rep] at h; obtain ⟨_, blk, h, _⟩ := h; simp only [underD]; exact lt_of_some h
  | .osl r n off k, v, h => by simp only [Rep] at h; obtain ⟨_, blk, h, _⟩ := h; simp only [underD]; exact lt_of_some h
  | .bsl r off k, v, h => by simp only [Rep] at h; obtain ⟨_, blk, h, _⟩ := h; simp only [underD]; exact lt_of_some h
  | .yv r, v, h => by simp only [Rep] at h; obtain ⟨_, blk, h, _⟩ := h; simp only [underD]; exact lt_of_some h
  | .mref r, v, h => by simp only [Rep] at h; obtain ⟨_, blk, h, _⟩ := h; simp only [underD]; exact lt_of_some h
  | .agg cs, v, h => by simp only [Rep] at h; obtain ⟨vs, _, h⟩ := h; simp only [underD]; exact repL_under h
  | .tup cs, v, h => by simp only [Rep] at h; obtain ⟨vs, _, h⟩ := h; simp only [underD]; exact repL_under h
  | .fn f a b, v, h => by
    simp only [Rep] at h; obtain ⟨vs, us, _, h1, h2⟩ := h
    simp only [underD, Bool.and_eq_true]; exact ⟨repL_under h1, repL_under h2⟩
  | .iface t d, v, h => by simp only [Rep] at h; obtain ⟨u, _, h⟩ := h; simp only [underD]; exact rep_under h
theorem repAt_under {m : Mu} {ah : Heap} {w : World} : ∀ {ds : List D} {b off : Nat}, RepAt m ah w ds b off → underL ah.length ds = true
  | [], _, _, _ => rfl
  | d :: ds, b, off, h => by
    simp only [RepAt] at h; obtain ⟨_, ⟨u, _, h1⟩, h2⟩ := h
    simp only [underL, Bool.and_eq_true]; exact ⟨rep_under h1, repAt_under h2⟩
theorem repL_under {m : Mu} {ah : Heap} {w : World} : ∀ {ds : List D} {vs : List Value}, RepL m ah w ds vs → underL ah.length ds = true
  | [], _, _ => rfl
  | d :: ds, vs, h => by
    simp only [RepL] at h; obtain ⟨u, us, _, h1, h2⟩ := h
    simp only [underL, Bool.and_eq_true]; exact ⟨rep_under h1, repL_under h2⟩
 end
theorem blkOk_under {m : Mu} {ah : Heap} {w : World} {r : Nat} : ∀ {b : Blk}, BlkOk m ah w r b → underB ah.length b = true
  | .free, _ | .dead, _ => rfl
  | .box cs, h => by simp only [BlkOk] at h; obtain ⟨_, _, _, _, _, h⟩ := h; simp only [underB]; exact repL_under h
  | .grow sz cs n, h => by simp only [BlkOk] at h; obtain ⟨_, _, _, _, _, _, _, _, h, _⟩ := h; simp only [underB]; exact repL_under h
  | .ice sz cs n, h => by simp only [BlkOk] at h; simp only [underB]; exact repAt_under h.1
  | .icebox cs, h => by simp only [BlkOk] at h; simp only [underB]; exact repAt_under h
  | .recb _ _ _ _ _ _, h => by simp only [BlkOk] at h; obtain ⟨_, _, _, _, h⟩ := h; simp only [underB]; exact repL_under h
  | .mapb es, h => by
    simp only [BlkOk] at h; obtain ⟨_, _, _, h1, h2⟩ := h
    simp only [underB, Bool.and_eq_true]; exact ⟨repL_under h1, repL_under h2⟩
theorem hsim_under {m : Mu} {ah : Heap} {w : World} (hs : HSim m ah w) : ∀ b ∈ ah, underB ah.length b = true := by
  intro b hb
  obtain ⟨r, hr⟩ := List.mem_iff_getElem?.1 hb
  exact blkOk_under (hs.blk r b hr)

/-- Nothing new is handed back; what was written leads to nothing new. -/
theorem FinOk.wrote {h0 h' loc : Heap} {ds : List D} {R : D → Heap → Prop} (hl : h'.length = h0.length) (hk : ∀ b ∈ h', b ∈ h0 ∨ underB h'.length b = true) (hu : underL h'.length ds = true) (h : R (packD ds) h') : FinOk h0 (h' ++ loc) ds R := by
  intro m0 m w0 w vs h1
  refine FinOk.drop (.inr ⟨hl, fun b hb => ?_⟩) hu h m0 m w0 w vs h1
  rcases hk b hb with h2 | h2
  · rw [hl]; exact hsim_under h1 b h2
  · exact h2
theorem FinOk.set {h0 loc : Heap} {r : Nat} {b : Blk} {ds : List D} {R : D → Heap → Prop} (hb : underB h0.length b = true) (hu : underL h0.length ds = true) (h : R (packD ds) (h0.set r b)) : FinOk h0 (h0.set r b ++ loc) ds R := by
  refine FinOk.wrote List.length_set (fun x hx => ?_) (by rw [List.length_set]; exact hu) h
  rcases List.mem_or_eq_of_mem_set hx with hx | rfl
  · exact .inl hx
  · exact .inr (by rw [List.length_set]; exact hb)
end Go.Proofs
