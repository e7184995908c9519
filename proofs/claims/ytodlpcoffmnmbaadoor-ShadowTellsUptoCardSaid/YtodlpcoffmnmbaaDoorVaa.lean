/-
  Own work. The value machine: parts of the blocks; blocks that are forgotten.
-/
import Derived.Test.YtodlpcoffmnmbaaDoorVa
namespace Go.YtodlpcoffmnmbaaDoor
open Go
set_option linter.unusedVariables false
set_option linter.unusedSimpArgs false

theorem BStep.of_eq {m m' : Mu} {r : Nat} (e : m' r = m r) (b : Blk) : BStep m m' r b b := by
  cases b with
  | free => trivial
  | dead => rfl
  | box cs => exact .inr ⟨cs, .inl rfl, rfl, e⟩
  | icebox cs => exact .inr ⟨rfl, e⟩
  | grow sz cs n => exact .inr ⟨cs, n, .inl rfl, Nat.le_refl _, fun _ => e⟩
  | ice sz cs n => exact .inr ⟨rfl, e⟩
  | recb st T ps as bd pe => exact .inr ⟨_, _, rfl, e⟩
  | mapb es => exact .inr ⟨_, rfl, e⟩

/-! ### What a function hands back -/
 mutual
/-- Does a value lead to blocks below a number alone? -/
def underD (k : Nat) : D → Bool
  | .ref r _ | .own r _ | .eref r _ _ | .osl r _ _ _ | .bsl r _ _ | .yv r | .mref r => decide (r < k)
  | .fptr cs | .sl cs _ _ | .agg cs | .tup cs => underL k cs
  | .fn _ a b => underL k a && underL k b
  | .iface _ d => underD k d
  | _ => true
def underL (k : Nat) : List D → Bool
  | [] => true
  | d :: ds => underD k d && underL k ds
 end
def underB (k : Nat) : Blk → Bool
  | .box cs | .icebox cs | .grow _ cs _ | .ice _ cs _ => underL k cs
  | .recb _ T _ _ _ _ => underL k T
  | .mapb es => underL k (es.map (·.1)) && underL k (es.map (·.2))
  | _ => true

/-- A part of the blocks, and others of them put behind. -/
structure Part (k : Nat) (m m' : Mu) (ah ah' : Heap) : Prop where
  low : ∀ r, r < k → ah'[r]? = ah[r]? ∧ m' r = m r
  own : ∀ b, Owned m' ah' b → Owned m ah b

section
variable {k : Nat} {m m' : Mu} {ah ah' : Heap} {w : World}

 mutual
theorem Rep.part (hp : Part k m m' ah ah') : ∀ {d : D} {v : Value}, underD k d = true → Rep m ah w d v → Rep m' ah' w d v
  | .any, _, _, _ => by simp only [Rep]
  | .bool b, v, _, h => by simp only [Rep] at *; exact h
  | .int q n, v, _, h => by simp only [Rep] at *; exact h
  | .str s, v, _, h => by simp only [Rep] at *; exact h
  | .nilp, v, _, h => by simp only [Rep] at *; exact h
  | .fptr cs, v, hu, h => by
    simp only [Rep, underD] at *
    obtain ⟨a, h1, h2, h3⟩ := h
    exact ⟨a, h1, h2, RepAt.part hp hu h3⟩
  | .ref r off, v, hu, h => by
    simp only [Rep, underD, decide_eq_true_eq] at *
    obtain ⟨h0, b, h1, h2⟩ := h
    obtain ⟨q1, q2⟩ := hp.low r hu
    exact ⟨h0, b, by rw [q1]; exact h1, by cases b <;> simp only [RefV] at * <;> first | exact h2 | (rw [q2]; exact h2)⟩
  | .nils, v, _, h => by simp only [Rep] at *; exact h
  | .sl cs n full, v, hu, h => by
    simp only [Rep, underD] at *
    obtain ⟨a, cap, h1, h2, h3, h4, h5⟩ := h
    exact ⟨a, cap, h1, h2, h3, h4, RepAt.part hp hu h5⟩
  | .own r n, v, hu, h => by
    simp only [Rep, underD, decide_eq_true_eq] at *
    obtain ⟨h0, b, h1, h2⟩ := h
    obtain ⟨q1, q2⟩ := hp.low r hu
    exact ⟨h0, b, by rw [q1]; exact h1, by cases b <;> simp only [OwnV] at * <;> first | exact h2 | (rw [q2]; exact h2)⟩
  | .eref r n off, v, hu, h => by
    simp only [Rep, underD, decide_eq_true_eq] at *
    obtain ⟨h0, b, h1, h2⟩ := h
    obtain ⟨q1, q2⟩ := hp.low r hu
    exact ⟨h0, b, by rw [q1]; exact h1, by cases b <;> simp only [OwnV] at * <;> first | exact h2 | (rw [q2]; exact h2)⟩
  | .osl r n off kk, v, hu, h => by
    simp only [Rep, underD, decide_eq_true_eq] at *
    obtain ⟨h0, b, h1, h2⟩ := h
    obtain ⟨q1, q2⟩ := hp.low r hu
    exact ⟨h0, b, by rw [q1]; exact h1, by cases b <;> simp only [OwnV] at * <;> first | exact h2 | (rw [q2]; exact h2)⟩
  | .bsl r off kk, v, hu, h => by
    simp only [Rep, underD, decide_eq_true_eq] at *
    obtain ⟨h0, b, h1, h2⟩ := h
    obtain ⟨q1, q2⟩ := hp.low r hu
    exact ⟨h0, b, by rw [q1]; exact h1, by cases b <;> simp only [RefV] at * <;> first | exact h2 | (rw [q2]; exact h2)⟩
  | .agg cs, v, hu, h => by
    simp only [Rep, underD] at *
    obtain ⟨vs, h1, h2⟩ := h
    exact ⟨vs, h1, RepL.part hp hu h2⟩
  | .tup cs, v, hu, h => by
    simp only [Rep, underD] at *
    obtain ⟨vs, h1, h2⟩ := h
    exact ⟨vs, h1, RepL.part hp hu h2⟩
  | .fn f first cap, v, hu, h => by
    simp only [Rep, underD, Bool.and_eq_true] at *
    obtain ⟨vs, us, h1, h2, h3⟩ := h
    exact ⟨vs, us, h1, RepL.part hp hu.1 h2, RepL.part hp hu.2 h3⟩
  | .nilf, v, _, h => by simp only [Rep] at *; exact h
  | .iface t d, v, hu, h => by
    simp only [Rep, underD] at *
    obtain ⟨u, h1, h2⟩ := h
    exact ⟨u, h1, Rep.part hp hu h2⟩
  | .nili, v, _, h => by simp only [Rep] at *; exact h
  | .nilm, v, _, h => by simp only [Rep] at *; exact h
  | .yv r, v, hu, h => by
    simp only [Rep, underD, decide_eq_true_eq] at *
    obtain ⟨h0, b, h1, h2⟩ := h
    obtain ⟨q1, q2⟩ := hp.low r hu
    exact ⟨h0, b, by rw [q1]; exact h1, by cases b <;> simp only [RefV] at * <;> first | exact h2 | (rw [q2]; exact h2)⟩
  | .mref r, v, hu, h => by
    simp only [Rep, underD, decide_eq_true_eq] at *
    obtain ⟨h0, b, h1, h2⟩ := h
    obtain ⟨q1, q2⟩ := hp.low r hu
    exact ⟨h0, b, by rw [q1]; exact h1, by cases b <;> simp only [RefV] at * <;> first | exact h2 | (rw [q2]; exact h2)⟩
theorem RepAt.part (hp : Part k m m' ah ah') : ∀ {ds : List D} {b off : Nat}, underL k ds = true → RepAt m ah w ds b off → RepAt m' ah' w ds b off
  | [], _, _, _, _ => by simp only [RepAt]
  | d :: ds, b, off, hu, h => by
    simp only [RepAt, underL, Bool.and_eq_true] at *
    obtain ⟨h1, ⟨u, h2, h3⟩, h4⟩ := h
    exact ⟨fun ho => h1 (hp.own b ho), ⟨u, h2, Rep.part hp hu.1 h3⟩, RepAt.part hp hu.2 h4⟩
theorem RepL.part (hp : Part k m m' ah ah') : ∀ {ds : List D} {vs : List Value}, underL k ds = true → RepL m ah w ds vs → RepL m' ah' w ds vs
  | [], _, _, h => by simp only [RepL] at *; exact h
  | d :: ds, vs, hu, h => by
    simp only [RepL, underL, Bool.and_eq_true] at *
    obtain ⟨u, us, h1, h2, h3⟩ := h
    exact ⟨u, us, h1, Rep.part hp hu.1 h2, RepL.part hp hu.2 h3⟩
 end

 mutual
theorem Rep.under : ∀ {d : D} {v : Value}, Rep m ah w d v → underD ah.length d = true
  | .any, _, _ => rfl
  | .bool _, _, _ => rfl
  | .int _ _, _, _ => rfl
  | .str _, _, _ => rfl
  | .nilp, _, _ => rfl
  | .fptr cs, v, h => by simp only [Rep] at h; obtain ⟨a, _, _, h3⟩ := h; simpa only [underD] using RepAt.under h3
  | .ref r off, v, h => by simp only [Rep] at h; obtain ⟨_, b, h1, _⟩ := h; simpa only [underD, decide_eq_true_eq] using (List.getElem?_eq_some_iff.1 h1).1
  | .nils, _, _ => rfl
  | .sl cs n full, v, h => by simp only [Rep] at h; obtain ⟨a, _, _, _, _, _, h3⟩ := h; simpa only [underD] using RepAt.under h3
  | .own r off, v, h => by simp only [Rep] at h; obtain ⟨_, b, h1, _⟩ := h; simpa only [underD, decide_eq_true_eq] using (List.getElem?_eq_some_iff.1 h1).1
  | .eref r _ off, v, h => by simp only [Rep] at h; obtain ⟨_, b, h1, _⟩ := h; simpa only [underD, decide_eq_true_eq] using (List.getElem?_eq_some_iff.1 h1).1
  | .osl r _ _ off, v, h => by simp only [Rep] at h; obtain ⟨_, b, h1, _⟩ := h; simpa only [underD, decide_eq_true_eq] using (List.getElem?_eq_some_iff.1 h1).1
  | .bsl r _ off, v, h => by simp only [Rep] at h; obtain ⟨_, b, h1, _⟩ := h; simpa only [underD, decide_eq_true_eq] using (List.getElem?_eq_some_iff.1 h1).1
  | .agg cs, v, h => by simp only [Rep] at h; obtain ⟨_, _, h3⟩ := h; simpa only [underD] using RepL.under h3
  | .tup cs, v, h => by simp only [Rep] at h; obtain ⟨_, _, h3⟩ := h; simpa only [underD] using RepL.under h3
  | .fn f a b, v, h => by simp only [Rep] at h; obtain ⟨_, _, _, h3, h4⟩ := h; simp only [underD, Bool.and_eq_true]; exact ⟨RepL.under h3, RepL.under h4⟩
  | .nilf, _, _ => rfl
  | .iface t d, v, h => by simp only [Rep] at h; obtain ⟨u, _, h2⟩ := h; simpa only [underD] using Rep.under h2
  | .nili, _, _ => rfl
  | .nilm, _, _ => rfl
  | .yv r, v, h => by simp only [Rep] at h; obtain ⟨_, b, h1, _⟩ := h; simpa only [underD, decide_eq_true_eq] using (List.getElem?_eq_some_iff.1 h1).1
  | .mref r, v, h => by simp only [Rep] at h; obtain ⟨_, b, h1, _⟩ := h; simpa only [underD, decide_eq_true_eq] using (List.getElem?_eq_some_iff.1 h1).1
theorem RepAt.under : ∀ {ds : List D} {b off : Nat}, RepAt m ah w ds b off → underL ah.length ds = true
  | [], _, _, _ => rfl
  | d :: ds, b, off, h => by
    simp only [RepAt] at h
    simp only [underL, Bool.and_eq_true]
    obtain ⟨_, ⟨u, _, h3⟩, h4⟩ := h
    exact ⟨Rep.under h3, RepAt.under h4⟩
theorem RepL.under : ∀ {ds : List D} {vs : List Value}, RepL m ah w ds vs → underL ah.length ds = true
  | [], _, _ => rfl
  | d :: ds, vs, h => by
    simp only [RepL] at h
    simp only [underL, Bool.and_eq_true]
    obtain ⟨u, us, _, h3, h4⟩ := h
    exact ⟨Rep.under h3, RepL.under h4⟩
 end

theorem HSim.under (hs : HSim m ah w) : ∀ blk ∈ ah, underB ah.length blk = true := by
  intro blk hb
  obtain ⟨r, hr, e⟩ := List.getElem_of_mem hb
  have := hs.blk r blk (by rw [List.getElem?_eq_getElem hr, e])
  cases blk with
  | free => rfl
  | dead => rfl
  | box cs => obtain ⟨_, _, _, _, _, h⟩ := this; simpa only [underB] using h.under
  | grow sz cs n => obtain ⟨_, _, _, _, _, _, _, _, h, _⟩ := this; simpa only [underB] using h.under
  | ice sz cs n => simpa only [underB] using this.1.under
  | icebox cs => exact RepAt.under this
  | recb st T ps as bd pe => obtain ⟨_, _, _, _, h⟩ := this; simpa only [underB] using h.under
  | mapb es => obtain ⟨_, _, _, h1, h2⟩ := this; simp only [underB, Bool.and_eq_true]; exact ⟨h1.under, h2.under⟩
end

/-- Some of the blocks, picked out. -/
theorem part_sound {m0 m : Mu} {h0 : Heap} {w0 w : World} {h' loc : Heap} {rs : List Nat} (hs0 : HSim m0 h0 w0) (hs : HSim m (h' ++ loc) w) (he : Evo m0 h0 w0 m (h' ++ loc) w)
    (hk : h' = h0 ∨ (h'.length = h0.length ∧ ∀ b ∈ h', underB h'.length b = true)) (hnd : rs.Nodup) {bs : List Blk} (hl : bs.length = rs.length) (hb : ∀ (i r : Nat) (b : Blk), rs[i]? = some r → bs[i]? = some b → h'.length ≤ r ∧ (h' ++ loc)[r]? = some b ∧ underB h'.length b = true) :
    ∃ m', Part h'.length m m' (h' ++ loc) (h' ++ bs) ∧ HSim m' (h' ++ bs) w ∧ Evo m0 h0 w0 m' (h' ++ bs) w ∧ ∀ (i r : Nat), rs[i]? = some r → m' (h'.length + i) = m r := by
  let m' : Mu := fun x => if x < h'.length then m x else m (rs.getD (x - h'.length) 0)
  have hlow : ∀ x, x < h'.length → m' x = m x := fun x hx => if_pos hx
  have hhigh : ∀ i r, rs[i]? = some r → m' (h'.length + i) = m r := fun i r hi => by
    show (if _ then _ else _) = _
    rw [if_neg (by omega), Nat.add_sub_cancel_left]
    simp [List.getD, hi]
  have hlen : h'.length = h0.length := by rcases hk with rfl | hk; rfl; exact hk.1
  have hund : ∀ b ∈ h', underB h'.length b = true := by
    rcases hk with rfl | hk
    · exact hs0.under
    · exact hk.2
  -- where a block of the new ones stood
  have from_ : ∀ {x : Nat} {b : Blk}, (h' ++ bs)[x]? = some b → ∃ r, (h' ++ loc)[r]? = some b ∧ m' x = m r ∧ underB h'.length b = true ∧ ((x < h'.length ∧ r = x) ∨ (h'.length ≤ x ∧ rs[x - h'.length]? = some r)) := by
    intro x b hx
    by_cases hlt : x < h'.length
    · rw [List.getElem?_append_left hlt] at hx
      refine ⟨x, by rw [List.getElem?_append_left hlt]; exact hx, hlow x hlt, hund b ?_, .inl ⟨hlt, rfl⟩⟩
      obtain ⟨h1, h2⟩ := List.getElem?_eq_some_iff.1 hx
      rw [← h2]; exact List.getElem_mem h1
    · rw [List.getElem?_append_right (by omega)] at hx
      have hxl : x - h'.length < rs.length := by rw [← hl]; exact (List.getElem?_eq_some_iff.1 hx).1
      obtain ⟨q1, q2, q3⟩ := hb (x - h'.length) _ b (List.getElem?_eq_getElem hxl) hx
      refine ⟨_, q2, ?_, q3, .inr ⟨by omega, List.getElem?_eq_getElem hxl⟩⟩
      have := hhigh (x - h'.length) _ (List.getElem?_eq_getElem hxl)
      rwa [show h'.length + (x - h'.length) = x by omega] at this
  have hpart : Part h'.length m m' (h' ++ loc) (h' ++ bs) := by
    constructor
    · intro r hr
      exact ⟨by rw [List.getElem?_append_left hr, List.getElem?_append_left hr], hlow r hr⟩
    · intro b ⟨x, blk, h1, h2, h3⟩
      obtain ⟨r, q1, q2, _⟩ := from_ h1
      exact ⟨r, blk, q1, h2, by rw [← q2]; exact h3⟩
  have hevo : Evo m0 h0 w0 m' (h' ++ bs) w := by
    refine ⟨he.os, he.tape, he.output, he.size, fun b hb1 hb2 => ?_, fun r b hr => ?_⟩
    · obtain ⟨c1, c2⟩ := he.keep b hb1 hb2
      exact ⟨fun ho => c1 (hpart.own b ho), c2⟩
    · have hlt : r < h'.length := by rw [hlen]; exact (List.getElem?_eq_some_iff.1 hr).1
      obtain ⟨b', c1, c2⟩ := he.blk r b hr
      obtain ⟨d1, d2⟩ := hpart.low r hlt
      refine ⟨b', by rw [d1]; exact c1, ?_⟩
      exact c2.trans (BStep.of_eq d2 b')
  refine ⟨m', hpart, ⟨?_, ?_, fun p hp => (hs0.glob p hp).evo hevo⟩, hevo, hhigh⟩
  · intro x y b b' hx hy o1 o2 e
    obtain ⟨r, q1, q2, _, q4⟩ := from_ hx
    obtain ⟨r', p1, p2, _, p4⟩ := from_ hy
    have hrr : r = r' := hs.inj r r' b b' q1 p1 o1 o2 (by rw [← q2, ← p2]; exact e)
    subst hrr
    rcases q4 with ⟨a1, a2⟩ | ⟨a1, a2⟩ <;> rcases p4 with ⟨c1, c2⟩ | ⟨c1, c2⟩
    · omega
    · have := (hb (y - h'.length) r b' c2 (by rw [List.getElem?_append_right (by omega)] at hy; exact hy)).1
      omega
    · have := (hb (x - h'.length) r b a2 (by rw [List.getElem?_append_right (by omega)] at hx; exact hx)).1
      omega
    · have h1 := (List.getElem?_eq_some_iff.1 a2)
      have h2 := (List.getElem?_eq_some_iff.1 c2)
      have hpw := List.pairwise_iff_getElem.1 hnd
      rcases Nat.lt_trichotomy (x - h'.length) (y - h'.length) with hlt | heq | hgt
      · exact absurd (by rw [h1.2, h2.2]) (hpw _ _ h1.1 h2.1 hlt)
      · omega
      · exact absurd (by rw [h1.2, h2.2]) (hpw _ _ h2.1 h1.1 hgt)
  · intro x b hx
    obtain ⟨r, q1, q2, q3, _⟩ := from_ hx
    have hok := hs.blk r b q1
    cases b with
    | free => trivial
    | dead => trivial
    | box cs => obtain ⟨arr, e, fz, c1, c2, c3⟩ := hok; exact ⟨arr, e, fz, by rw [q2]; exact c1, c2, RepL.part hpart q3 c3⟩
    | grow sz cs n => obtain ⟨arr, e, fz, rest, us, c1, c2, c3, c4, c5, c6, c7⟩ := hok; exact ⟨arr, e, fz, rest, us, by rw [q2]; exact c1, c2, c3, RepL.part hpart q3 c4, c5, by rw [q2]; exact c6, by rw [q2]; exact c7⟩
    | ice sz cs n => obtain ⟨c1, c2, c3⟩ := hok; exact ⟨by rw [q2]; exact RepAt.part hpart q3 c1, c2, by rw [q2]; exact c3⟩
    | icebox cs => show RepAt _ _ _ _ _ _; rw [q2]; exact RepAt.part hpart q3 hok
    | recb s T ps as bd pe => obtain ⟨fn, tmps, df, c1, c2⟩ := hok; exact ⟨fn, tmps, df, by rw [q2]; exact c1, RepL.part hpart q3 c2⟩
    | mapb es => obtain ⟨arr, cl, c1, c2, c3⟩ := hok; simp only [underB, Bool.and_eq_true] at q3; exact ⟨arr, cl, by rw [q2]; exact c1, RepL.part hpart q3.1 c2, RepL.part hpart q3.2 c3⟩
/-- A block as before, or a loop's record in another state. -/
def bkeep (b b' : Blk) : Prop := match b, b' with
  | .recb _ T _ _ _ _, .recb _ T' _ _ _ _ => T' = T
  | b, b' => b' = b
theorem bkeep.refl (b : Blk) : bkeep b b := by cases b <;> rfl
theorem bkeep.under {b b' : Blk} (h : bkeep b b') (k : Nat) : underB k b' = underB k b := by
  unfold bkeep at h
  split at h
  · rw [h]; rfl
  · rw [h]
/-- Blocks that are as before, or lead to blocks below k alone. -/
def UOk (k : Nat) : Heap → Heap → Prop
  | [], [] => True
  | b :: h, b' :: h' => (bkeep b b' ∨ underB k b' = true) ∧ UOk k h h'
  | _, _ => False
theorem UOk.refl (k : Nat) : ∀ h, UOk k h h
  | [] => trivial
  | b :: h => ⟨.inl (bkeep.refl b), UOk.refl k h⟩
theorem UOk.append {k : Nat} : ∀ {a a' b b' : Heap}, UOk k a a' → UOk k b b' → UOk k (a ++ b) (a' ++ b')
  | [], [], _, _, _, h => h
  | _ :: _, _ :: _, _, _, h, h' => ⟨h.1, UOk.append h.2 h'⟩
  | [], _ :: _, _, _, h, _ => h.elim
  | _ :: _, [], _, _, h, _ => h.elim
theorem UOk.length {k : Nat} : ∀ {a a' : Heap}, UOk k a a' → a'.length = a.length
  | [], [], _ => rfl
  | _ :: _, _ :: _, h => by simp [UOk.length h.2]
  | [], _ :: _, h => h.elim
  | _ :: _, [], h => h.elim
theorem UOk.mem {k : Nat} : ∀ {a a' : Heap}, UOk k a a' → (∀ b ∈ a, underB k b = true) → ∀ b ∈ a', underB k b = true
  | [], [], _, _ => by simp
  | x :: _, y :: _, h, hu => by
    intro b hb
    rcases List.mem_cons.1 hb with rfl | hb
    · rcases h.1 with h1 | h1
      · rw [h1.under]; exact hu _ (by simp)
      · exact h1
    · exact UOk.mem h.2 (fun b hb => hu b (by simp [hb])) b hb
  | [], _ :: _, h, _ => h.elim
  | _ :: _, [], h, _ => h.elim
theorem UOk.set {k : Nat} {b' : Blk} (hb : underB k b' = true) : ∀ {a a' : Heap} (r : Nat), UOk k a a' → UOk k a (a'.set r b')
  | [], [], _, h => h
  | _ :: _, _ :: _, 0, h => ⟨.inr hb, h.2⟩
  | _ :: _, _ :: _, r + 1, h => ⟨h.1, UOk.set hb r h.2⟩
  | [], _ :: _, _, h => h.elim
  | _ :: _, [], _, h => h.elim
theorem UOk.ok {m : Mu} {w : World} {h0 h' : Heap} (hs : HSim m h0 w) (h : UOk h0.length h0 h') : h' = h0 ∨ (h'.length = h0.length ∧ ∀ b ∈ h', underB h'.length b = true) :=
  .inr ⟨h.length, by rw [h.length]; exact h.mem hs.under⟩
/-! ### a new block takes a free place -/
def ren1 (a f r : Nat) : Nat := if r = a then f else r
 mutual
def renD (a f : Nat) : D → D
  | .ref r off => .ref (ren1 a f r) off
  | .own r n => .own (ren1 a f r) n
  | .eref r n off => .eref (ren1 a f r) n off
  | .osl r n off k => .osl (ren1 a f r) n off k
  | .bsl r off k => .bsl (ren1 a f r) off k
  | .yv r => .yv (ren1 a f r)
  | .mref r => .mref (ren1 a f r)
  | .fptr cs => .fptr (renL a f cs)
  | .sl cs n full => .sl (renL a f cs) n full
  | .agg cs => .agg (renL a f cs)
  | .tup cs => .tup (renL a f cs)
  | .fn g x y => .fn g (renL a f x) (renL a f y)
  | .iface t d => .iface t (renD a f d)
  | .any => .any
  | .bool b => .bool b
  | .int k n => .int k n
  | .str s => .str s
  | .nilp => .nilp
  | .nils => .nils
  | .nilf => .nilf
  | .nili => .nili
  | .nilm => .nilm
def renL (a f : Nat) : List D → List D
  | [] => []
  | d :: ds => renD a f d :: renL a f ds
 end
theorem renL_length (a f : Nat) : ∀ l, (renL a f l).length = l.length
  | [] => rfl
  | _ :: l => by simp [renL, renL_length a f l]
theorem renL_map (a f : Nat) : ∀ l, renL a f l = l.map (renD a f)
  | [] => rfl
  | _ :: l => by simp [renL, renL_map a f l]
def renB (a f : Nat) : Blk → Blk
  | .box cs => .box (renL a f cs)
  | .icebox cs => .icebox (renL a f cs)
  | .grow sz cs n => .grow sz (renL a f cs) n
  | .ice sz cs n => .ice sz (renL a f cs) n
  | .recb st T ps as bd pe => .recb st (renL a f T) ps as bd pe
  | .mapb es => .mapb (es.map fun e => (renD a f e.1, renD a f e.2))
  | .free => .free
  | .dead => .dead
theorem renB_owned (a f : Nat) (b : Blk) : (renB a f b).owned = b.owned := by cases b <;> rfl
theorem OwnV.ren {a f : Nat} {m m' : Mu} {r r' n : Nat} {p : Nat × Nat → Prop} {b : Blk} (hm : m' r' = m r) (h : OwnV m r n p b) : OwnV m' r' n p (renB a f b) := by
  cases b <;> simp only [OwnV, renB] at * <;> first | exact h | (rw [hm]; exact h)
theorem RefV.ren {a f : Nat} {m m' : Mu} {r r' : Nat} {p : Nat × Nat → Prop} {b : Blk} (hm : m' r' = m r) (h : RefV m r p b) : RefV m' r' p (renB a f b) := by
  cases b <;> simp only [RefV, renB] at * <;> first | exact h | (rw [hm]; exact h)
theorem OwnV.mm {m m' : Mu} {r r' n : Nat} {p : Nat × Nat → Prop} {b : Blk} (hm : m' r' = m r) (h : OwnV m r n p b) : OwnV m' r' n p b := by
  cases b <;> simp only [OwnV] at * <;> first | exact h | (rw [hm]; exact h)
theorem RefV.mm {m m' : Mu} {r r' : Nat} {p : Nat × Nat → Prop} {b : Blk} (hm : m' r' = m r) (h : RefV m r p b) : RefV m' r' p b := by
  cases b <;> simp only [RefV] at * <;> first | exact h | (rw [hm]; exact h)

structure Ren (a f : Nat) (m m' : Mu) (h h' : Heap) : Prop where
  blk : ∀ (r : Nat) (b : Blk), ren1 a f r < h'.length → h[r]? = some b → b ≠ .free → m' (ren1 a f r) = m r ∧ ∃ b', h'[ren1 a f r]? = some b' ∧ (b' = b ∨ b' = renB a f b)
  own : ∀ b, Owned m' h' b → Owned m h b

section
variable {a f : Nat} {m m' : Mu} {h h' : Heap} {w : World}
theorem Ren.ownv (hp : Ren a f m m' h h') {r n : Nat} {p : Nat × Nat → Prop} (hu : ren1 a f r < h'.length) (hx : ∃ blk, h[r]? = some blk ∧ OwnV m r n p blk) : ∃ blk, h'[ren1 a f r]? = some blk ∧ OwnV m' (ren1 a f r) n p blk := by
  obtain ⟨b, h1, h2⟩ := hx
  have hf : b ≠ .free := fun e => by subst e; exact h2
  obtain ⟨q1, b', q2, q3⟩ := hp.blk r b hu h1 hf
  refine ⟨b', q2, ?_⟩
  rcases q3 with rfl | rfl
  · exact h2.mm q1
  · exact h2.ren q1
theorem Ren.refv (hp : Ren a f m m' h h') {r : Nat} {p : Nat × Nat → Prop} (hu : ren1 a f r < h'.length) (hx : ∃ blk, h[r]? = some blk ∧ RefV m r p blk) : ∃ blk, h'[ren1 a f r]? = some blk ∧ RefV m' (ren1 a f r) p blk := by
  obtain ⟨b, h1, h2⟩ := hx
  have hf : b ≠ .free := fun e => by subst e; exact h2
  obtain ⟨q1, b', q2, q3⟩ := hp.blk r b hu h1 hf
  refine ⟨b', q2, ?_⟩
  rcases q3 with rfl | rfl
  · exact h2.mm q1
  · exact h2.ren q1
 mutual
theorem Rep.ren (hp : Ren a f m m' h h') : ∀ {d : D} {v : Value}, underD h'.length (renD a f d) = true → Rep m h w d v → Rep m' h' w (renD a f d) v
  | .any, _, _, _ => by simp only [Rep, renD]
  | .bool b, v, _, h => by simp only [Rep, renD] at *; exact h
  | .int q n, v, _, h => by simp only [Rep, renD] at *; exact h
  | .str s, v, _, h => by simp only [Rep, renD] at *; exact h
  | .nilp, v, _, h => by simp only [Rep, renD] at *; exact h
  | .nils, v, _, h => by simp only [Rep, renD] at *; exact h
  | .nilf, v, _, h => by simp only [Rep, renD] at *; exact h
  | .nili, v, _, h => by simp only [Rep, renD] at *; exact h
  | .nilm, v, _, h => by simp only [Rep, renD] at *; exact h
  | .fptr cs, v, hu, hx => by
    simp only [Rep, underD, renD] at *
    obtain ⟨q, h1, h2, h3⟩ := hx
    exact ⟨q, h1, h2, RepAt.ren hp hu h3⟩
  | .sl cs n full, v, hu, hx => by
    simp only [Rep, underD, renD] at *
    obtain ⟨q, cap, h1, h2, h3, h4, h5⟩ := hx
    exact ⟨q, cap, h1, h2, h3, h4, RepAt.ren hp hu h5⟩
  | .agg cs, v, hu, hx => by
    simp only [Rep, underD, renD] at *
    obtain ⟨vs, h1, h2⟩ := hx
    exact ⟨vs, h1, RepL.ren hp hu h2⟩
  | .tup cs, v, hu, hx => by
    simp only [Rep, underD, renD] at *
    obtain ⟨vs, h1, h2⟩ := hx
    exact ⟨vs, h1, RepL.ren hp hu h2⟩
  | .fn g x y, v, hu, hx => by
    simp only [Rep, underD, renD, Bool.and_eq_true] at *
    obtain ⟨vs, us, h1, h2, h3⟩ := hx
    exact ⟨vs, us, h1, RepL.ren hp hu.1 h2, RepL.ren hp hu.2 h3⟩
  | .iface t d, v, hu, hx => by
    simp only [Rep, underD, renD] at *
    obtain ⟨u, h1, h2⟩ := hx
    exact ⟨u, h1, Rep.ren hp hu h2⟩
  | .ref r off, v, hu, hx => by
    simp only [Rep, underD, renD, decide_eq_true_eq] at *
    exact ⟨hx.1, hp.refv hu hx.2⟩
  | .own r n, v, hu, hx => by
    simp only [Rep, underD, renD, decide_eq_true_eq] at *
    exact ⟨hx.1, hp.ownv hu hx.2⟩
  | .eref r n off, v, hu, hx => by
    simp only [Rep, underD, renD, decide_eq_true_eq] at *
    exact ⟨hx.1, hp.ownv hu hx.2⟩
  | .osl r n off k, v, hu, hx => by
    simp only [Rep, underD, renD, decide_eq_true_eq] at *
    exact ⟨hx.1, hp.ownv hu hx.2⟩
  | .bsl r off k, v, hu, hx => by
    simp only [Rep, underD, renD, decide_eq_true_eq] at *
    exact ⟨hx.1, hp.refv hu hx.2⟩
  | .yv r, v, hu, hx => by
    simp only [Rep, underD, renD, decide_eq_true_eq] at *
    exact ⟨hx.1, hp.refv hu hx.2⟩
  | .mref r, v, hu, hx => by
    simp only [Rep, underD, renD, decide_eq_true_eq] at *
    exact ⟨hx.1, hp.refv hu hx.2⟩
theorem RepAt.ren (hp : Ren a f m m' h h') : ∀ {ds : List D} {b off : Nat}, underL h'.length (renL a f ds) = true → RepAt m h w ds b off → RepAt m' h' w (renL a f ds) b off
  | [], _, _, _, _ => by simp only [RepAt, renL]
  | d :: ds, b, off, hu, hx => by
    simp only [RepAt, underL, renL, Bool.and_eq_true] at *
    obtain ⟨h1, ⟨u, h2, h3⟩, h4⟩ := hx
    exact ⟨fun ho => h1 (hp.own b ho), ⟨u, h2, Rep.ren hp hu.1 h3⟩, RepAt.ren hp hu.2 h4⟩
theorem RepL.ren (hp : Ren a f m m' h h') : ∀ {ds : List D} {vs : List Value}, underL h'.length (renL a f ds) = true → RepL m h w ds vs → RepL m' h' w (renL a f ds) vs
  | [], _, _, hx => by simp only [RepL, renL] at *; exact hx
  | d :: ds, vs, hu, hx => by
    simp only [RepL, underL, renL, Bool.and_eq_true] at *
    obtain ⟨u, us, h1, h2, h3⟩ := hx
    exact ⟨u, us, h1, Rep.ren hp hu.1 h2, RepL.ren hp hu.2 h3⟩
 end

theorem BlkOk.ren (hp : Ren a f m m' h h') {r r' : Nat} (hm : m' r' = m r) {b : Blk} (hu : underB h'.length (renB a f b) = true) (hb : BlkOk m h w r b) : BlkOk m' h' w r' (renB a f b) := by
  cases b with
  | free => trivial
  | dead => trivial
  | box cs => obtain ⟨arr, e, fz, c1, c2, c3⟩ := hb; exact ⟨arr, e, fz, by rw [hm]; exact c1, c2, c3.ren hp hu⟩
  | grow sz cs n => obtain ⟨arr, e, fz, rest, us, c1, c2, c3, c4, c5, c6, c7⟩ := hb; exact ⟨arr, e, fz, rest, us, by rw [hm]; exact c1, c2, c3, c4.ren hp hu, by rw [renL_length]; exact c5, by rw [hm]; exact c6, by rw [hm]; exact c7⟩
  | ice sz cs n => obtain ⟨c1, c2, c3⟩ := hb; exact ⟨by rw [hm]; exact c1.ren hp hu, by rw [renL_length]; exact c2, by rw [hm]; exact c3⟩
  | icebox cs => show RepAt _ _ _ _ _ _; rw [hm]; exact RepAt.ren hp hu hb
  | recb s T ps as bd pe => obtain ⟨fn, tmps, df, c1, c2⟩ := hb; exact ⟨fn, tmps, df, by rw [hm]; exact c1, c2.ren hp hu⟩
  | mapb es =>
    obtain ⟨arr, cl, c1, c2, c3⟩ := hb
    simp only [renB, underB, List.map_map, Bool.and_eq_true] at hu
    refine ⟨arr, cl, by rw [hm]; exact c1, ?_, ?_⟩
    · have e : (es.map fun e => (renD a f e.1, renD a f e.2)).map (·.1) = renL a f (es.map (·.1)) := by rw [renL_map, List.map_map, List.map_map]; rfl
      rw [e]
      refine c2.ren hp ?_
      rw [← e]; simpa only [List.map_map] using hu.1
    · have e : (es.map fun e => (renD a f e.1, renD a f e.2)).map (·.2) = renL a f (es.map (·.2)) := by rw [renL_map, List.map_map, List.map_map]; rfl
      rw [e]
      refine c3.ren hp ?_
      rw [← e]; simpa only [List.map_map] using hu.2
end

/-- Blocks as before, or with the new block under its new name. -/
def ROk (k a f : Nat) : Heap → Heap → Heap → Prop
  | [], [], [] => True
  | b :: h, b1 :: h1, b' :: h' => ((bkeep b b1 ∧ b' = b1) ∨ (b' = renB a f b1 ∧ underB k b' = true)) ∧ ROk k a f h h1 h'
  | _, _, _ => False
theorem ROk.refl (k a f : Nat) : ∀ h, ROk k a f h h h
  | [] => trivial
  | b :: h => ⟨.inl ⟨bkeep.refl b, rfl⟩, ROk.refl k a f h⟩
theorem ROk.append {k a f : Nat} : ∀ {h h1 h' g g1 g' : Heap}, ROk k a f h h1 h' → ROk k a f g g1 g' → ROk k a f (h ++ g) (h1 ++ g1) (h' ++ g')
  | [], [], [], _, _, _, _, h => h
  | _ :: _, _ :: _, _ :: _, _, _, _, h, h' => ⟨h.1, ROk.append h.2 h'⟩
  | [], [], _ :: _, _, _, _, h, _ => h.elim
  | [], _ :: _, _, _, _, _, h, _ => h.elim
  | _ :: _, [], _, _, _, _, h, _ => h.elim
  | _ :: _, _ :: _, [], _, _, _, h, _ => h.elim
theorem ROk.length {k a f : Nat} : ∀ {h h1 h' : Heap}, ROk k a f h h1 h' → h1.length = h.length ∧ h'.length = h.length
  | [], [], [], _ => ⟨rfl, rfl⟩
  | _ :: _, _ :: _, _ :: _, h => by simp [(ROk.length h.2).1, (ROk.length h.2).2]
  | [], [], _ :: _, h => h.elim
  | [], _ :: _, _, h => h.elim
  | _ :: _, [], _, h => h.elim
  | _ :: _, _ :: _, [], h => h.elim
theorem ROk.get {k a f : Nat} : ∀ {h h1 h' : Heap} (i : Nat) (b b1 b' : Blk), ROk k a f h h1 h' → h[i]? = some b → h1[i]? = some b1 → h'[i]? = some b' → (bkeep b b1 ∧ b' = b1) ∨ (b' = renB a f b1 ∧ underB k b' = true)
  | [], [], [], i, _, _, _, _, h, _, _ => by simp at h
  | _ :: _, _ :: _, _ :: _, 0, _, _, _, h, e1, e2, e3 => by simp at e1 e2 e3; subst e1; subst e2; subst e3; exact h.1
  | _ :: _, _ :: _, _ :: _, i + 1, _, _, _, h, e1, e2, e3 => ROk.get i _ _ _ h.2 (by simpa using e1) (by simpa using e2) (by simpa using e3)
  | [], [], _ :: _, _, _, _, _, h, _, _, _ => h.elim
  | [], _ :: _, _, _, _, _, _, h, _, _, _ => h.elim
  | _ :: _, [], _, _, _, _, _, h, _, _, _ => h.elim
  | _ :: _, _ :: _, [], _, _, _, _, h, _, _, _ => h.elim

 mutual
theorem renD_under {k a f : Nat} (ha : k ≤ a) : ∀ {d : D}, underD k d = true → renD a f d = d
  | .ref r off, h => by simp only [underD, decide_eq_true_eq] at h; simp only [renD, ren1]; rw [if_neg (by omega)]
  | .own r off, h => by simp only [underD, decide_eq_true_eq] at h; simp only [renD, ren1]; rw [if_neg (by omega)]
  | .eref r _ off, h => by simp only [underD, decide_eq_true_eq] at h; simp only [renD, ren1]; rw [if_neg (by omega)]
  | .osl r _ _ off, h => by simp only [underD, decide_eq_true_eq] at h; simp only [renD, ren1]; rw [if_neg (by omega)]
  | .bsl r _ off, h => by simp only [underD, decide_eq_true_eq] at h; simp only [renD, ren1]; rw [if_neg (by omega)]
  | .yv r, h => by simp only [underD, decide_eq_true_eq] at h; simp only [renD, ren1]; rw [if_neg (by omega)]
  | .mref r, h => by simp only [underD, decide_eq_true_eq] at h; simp only [renD, ren1]; rw [if_neg (by omega)]
  | .fptr cs, h => by simp only [underD] at h; simp only [renD, renL_under ha h]
  | .sl cs _ _, h => by simp only [underD] at h; simp only [renD, renL_under ha h]
  | .agg cs, h => by simp only [underD] at h; simp only [renD, renL_under ha h]
  | .tup cs, h => by simp only [underD] at h; simp only [renD, renL_under ha h]
  | .fn g x y, h => by simp only [underD, Bool.and_eq_true] at h; simp only [renD, renL_under ha h.1, renL_under ha h.2]
  | .iface t d, h => by simp only [underD] at h; simp only [renD, renD_under ha h]
  | .any, _ => rfl
  | .bool _, _ => rfl
  | .int _ _, _ => rfl
  | .str _, _ => rfl
  | .nilp, _ => rfl
  | .nils, _ => rfl
  | .nilf, _ => rfl
  | .nili, _ => rfl
  | .nilm, _ => rfl
theorem renL_under {k a f : Nat} (ha : k ≤ a) : ∀ {ds : List D}, underL k ds = true → renL a f ds = ds
  | [], _ => rfl
  | d :: ds, h => by simp only [underL, Bool.and_eq_true] at h; simp only [renL, renD_under ha h.1, renL_under ha h.2]
 end
theorem renB_under {k a f : Nat} (ha : k ≤ a) {b : Blk} (h : underB k b = true) : renB a f b = b := by
  cases b with
  | mapb es =>
    simp only [underB, Bool.and_eq_true] at h
    have h1 := renL_under (a := a) (f := f) ha h.1
    have h2 := renL_under (a := a) (f := f) ha h.2
    rw [renL_map, List.map_map] at h1 h2
    simp only [renB]
    congr 1
    refine (List.map_congr_left fun e he => ?_).trans (List.map_id _)
    have e1 := List.map_inj_left.1 h1 e he
    have e2 := List.map_inj_left.1 h2 e he
    simp only [Function.comp] at e1 e2
    rw [e1, e2]; rfl
  | _ => simp only [underB] at h; simp only [renB] <;> rw [renL_under ha h]

theorem BStep.ren {m0 m m' : Mu} {h0 : Heap} {w0 : World} {a f r : Nat} {b b1 : Blk} (hs0 : HSim m0 h0 w0) (ha : h0.length ≤ a) (hr : h0[r]? = some b) (h : BStep m0 m r b b1) (hm : m' r = m r) : BStep m0 m' r b (renB a f b1) := by
  have hu : underB h0.length b = true := hs0.under b (by obtain ⟨h1, h2⟩ := List.getElem?_eq_some_iff.1 hr; rw [← h2]; exact List.getElem_mem h1)
  cases b with
  | free => trivial
  | dead => simp only [BStep] at h; subst h; rfl
  | box cs =>
    rcases h with rfl | ⟨cs', rfl | rfl, h1, h2⟩
    · exact .inl rfl
    · exact .inr ⟨_, .inl rfl, by rw [renL_length]; exact h1, hm.trans h2⟩
    · exact .inr ⟨_, .inr rfl, by rw [renL_length]; exact h1, hm.trans h2⟩
  | grow sz cs n =>
    rcases h with rfl | ⟨cs', n', rfl | rfl, h1, h2⟩
    · exact .inl rfl
    · exact .inr ⟨_, n', .inl rfl, h1, fun e => hm.trans (h2 e)⟩
    · exact .inr ⟨_, n', .inr rfl, h1, fun e => hm.trans (h2 e)⟩
  | ice sz cs n =>
    rcases h with rfl | ⟨rfl, h2⟩
    · exact .inl rfl
    · exact .inr ⟨renB_under ha hu, hm.trans h2⟩
  | icebox cs =>
    rcases h with rfl | ⟨rfl, h2⟩
    · exact .inl rfl
    · exact .inr ⟨renB_under ha hu, hm.trans h2⟩
  | recb st T ps as bd pe =>
    rcases h with rfl | ⟨_, _, rfl, h2⟩
    · exact .inl rfl
    · have := renL_under (a := a) (f := f) ha (ds := T) (by simpa only [underB] using hu)
      exact .inr ⟨_, _, by simp only [renB]; rw [this], hm.trans h2⟩
  | mapb es =>
    rcases h with rfl | ⟨_, rfl, h2⟩
    · exact .inl rfl
    · exact .inr ⟨_, rfl, hm.trans h2⟩

theorem ren_sound {m0 m : Mu} {h0 : Heap} {w0 w : World} {h1 loc hp' : Heap} {a f : Nat} {blk : Blk} (hs0 : HSim m0 h0 w0) (hs : HSim m (h1 ++ loc) w) (he : Evo m0 h0 w0 m (h1 ++ loc) w)
    (hr : ROk h0.length a f h0 h1 hp') (hf0 : h0[f]? = some .free) (hf1 : h1[f]? = some .free) (ha : h0.length ≤ a) (hb : (h1 ++ loc)[a]? = some blk) (hnf : blk ≠ .free) (hu : underB h0.length (renB a f blk) = true) :
    ∃ m', HSim m' (hp'.set f (renB a f blk)) w ∧ Evo m0 h0 w0 m' (hp'.set f (renB a f blk)) w := by
  obtain ⟨l1, l2⟩ := hr.length
  have hfl : f < h0.length := (List.getElem?_eq_some_iff.1 hf0).1
  have hff : (hp'.set f (renB a f blk))[f]? = some (renB a f blk) := List.getElem?_set_self (by omega)
  let m' : Mu := fun r => if r = f then m a else m r
  have hmf : m' f = m a := if_pos rfl
  have hmo : ∀ r, r ≠ f → m' r = m r := fun r h => if_neg h
  have hlen : (hp'.set f (renB a f blk)).length = h0.length := by simpa using l2
  -- a block of the new ones
  have from_ : ∀ {x : Nat} {b : Blk}, (hp'.set f (renB a f blk))[x]? = some b → ∃ r b1, (h1 ++ loc)[r]? = some b1 ∧ m' x = m r ∧ b = renB a f b1 ∧ underB h0.length b = true ∧ ((x = f ∧ r = a) ∨ (x ≠ f ∧ r = x ∧ x < h0.length)) := by
    intro x b hx
    by_cases e : x = f
    · subst e
      rw [hff] at hx
      injection hx with hx
      subst hx
      exact ⟨a, blk, hb, hmf, rfl, hu, .inl ⟨rfl, rfl⟩⟩
    · rw [List.getElem?_set_ne (Ne.symm e)] at hx
      have hxl : x < h0.length := by rw [← l2]; exact (List.getElem?_eq_some_iff.1 hx).1
      have hx1 : x < h1.length := by omega
      have g1 : h1[x]? = some h1[x] := List.getElem?_eq_getElem hx1
      have g0 : h0[x]? = some h0[x] := List.getElem?_eq_getElem hxl
      refine ⟨x, h1[x], by rw [List.getElem?_append_left hx1]; exact g1, hmo x e, ?_, ?_, .inr ⟨e, rfl, hxl⟩⟩
      · rcases hr.get x _ _ _ g0 g1 hx with ⟨q1, q2⟩ | ⟨q1, q2⟩
        · rw [q2]
          exact (renB_under ha (by rw [q1.under]; exact hs0.under _ (List.getElem_mem hxl))).symm
        · exact q1
      · rcases hr.get x _ _ _ g0 g1 hx with ⟨q1, q2⟩ | ⟨q1, q2⟩
        · rw [q2, q1.under]; exact hs0.under _ (List.getElem_mem hxl)
        · exact q2
  have hren : Ren a f m m' (h1 ++ loc) (hp'.set f (renB a f blk)) := by
    constructor
    · intro r b hu' hrb hbf
      by_cases e : r = a
      · subst e
        rw [hb] at hrb
        injection hrb with hrb
        subst hrb
        have e1 : ren1 r f r = f := if_pos rfl
        rw [e1]
        exact ⟨hmf, _, hff, .inr rfl⟩
      · have e1 : ren1 a f r = r := if_neg e
        rw [e1] at hu' ⊢
        rw [hlen] at hu'
        have hrf : r ≠ f := by
          rintro rfl
          rw [List.getElem?_append_left (by omega), hf1] at hrb
          injection hrb with hrb
          exact hbf hrb.symm
        have hx : (hp'.set f (renB a f blk))[r]? = some (hp'.set f (renB a f blk))[r] := List.getElem?_eq_getElem (by omega)
        obtain ⟨r', b1, k1, k2, k3, _, k5⟩ := from_ hx
        rcases k5 with ⟨k5, _⟩ | ⟨_, k5, _⟩
        · exact absurd k5 hrf
        · subst k5
          rw [hrb] at k1
          injection k1 with k1
          subst k1
          exact ⟨hmo _ hrf, _, hx, .inr k3⟩
    · rintro b ⟨x, bl, q1, q2, q3⟩
      obtain ⟨r, b1, k1, k2, k3, _⟩ := from_ q1
      exact ⟨r, b1, k1, by rw [k3, renB_owned] at q2; exact q2, by rw [← k2]; exact q3⟩
  have hevo : Evo m0 h0 w0 m' (hp'.set f (renB a f blk)) w := by
    refine ⟨he.os, he.tape, he.output, he.size, fun b hb1 hb2 => ?_, fun r b hrb => ?_⟩
    · obtain ⟨c1, c2⟩ := he.keep b hb1 hb2
      exact ⟨fun ho => c1 (hren.own b ho), c2⟩
    · by_cases e : r = f
      · subst e
        rw [hf0] at hrb
        injection hrb with hrb
        subst hrb
        exact ⟨_, hff, trivial⟩
      · have hrl : r < h0.length := (List.getElem?_eq_some_iff.1 hrb).1
        obtain ⟨b1, c1, c2⟩ := he.blk r b hrb
        have hx : (hp'.set f (renB a f blk))[r]? = some (hp'.set f (renB a f blk))[r] := List.getElem?_eq_getElem (by omega)
        refine ⟨_, hx, ?_⟩
        have hx2 : hp'[r]? = some (hp'.set f (renB a f blk))[r] := by rw [← hx, List.getElem?_set_ne (Ne.symm e)]
        rw [List.getElem?_append_left (by omega)] at c1
        rcases hr.get r _ _ _ hrb c1 hx2 with ⟨q1, q2⟩ | ⟨q1, q2⟩
        · rw [q2]
          exact c2.trans (BStep.of_eq (hmo r e) _)
        · rw [q1]
          exact BStep.ren hs0 ha hrb c2 (hmo r e)
  refine ⟨m', ⟨?_, ?_, fun p hp => (hs0.glob p hp).evo hevo⟩, hevo⟩
  · intro x y b b' hx hy o1 o2 e
    obtain ⟨r, b1, k1, k2, k3, _, k5⟩ := from_ hx
    obtain ⟨s, b2, j1, j2, j3, _, j5⟩ := from_ hy
    have hrs : r = s := hs.inj r s b1 b2 k1 j1 (by rw [k3, renB_owned] at o1; exact o1) (by rw [j3, renB_owned] at o2; exact o2) (by rw [← k2, ← j2]; exact e)
    subst hrs
    rcases k5 with ⟨a1, a2⟩ | ⟨a1, a2, a3⟩ <;> rcases j5 with ⟨c1, c2⟩ | ⟨c1, c2, c3⟩ <;> omega
  · intro x b hx
    obtain ⟨r, b1, k1, k2, k3, k4, _⟩ := from_ hx
    rw [k3] at k4 ⊢
    exact BlkOk.ren hren k2 (by rw [hlen]; exact k4) (hs.blk r b1 k1)

/-- The blocks that are new are forgotten; or one of them takes a free place, and the others are forgotten. -/
def Drops (h0 h : Heap) (K : Heap → Prop) : Prop :=
  (∃ h' loc, h = h' ++ loc ∧ UOk h0.length h0 h' ∧ K h') ∨
  (∃ h1 loc hp a f blk, h = h1 ++ loc ∧ ROk h0.length a f h0 h1 hp ∧ h0[f]? = some .free ∧ h1[f]? = some .free ∧ h0.length ≤ a ∧ h[a]? = some blk ∧ blk ≠ .free ∧ underB h0.length (renB a f blk) = true ∧ K (hp.set f (renB a f blk)))
theorem Drops.mono {h0 h : Heap} {K K' : Heap → Prop} (hd : Drops h0 h K) (hk : ∀ h', K h' → K' h') : Drops h0 h K' := by
  rcases hd with ⟨h', loc, h1, h2, h3⟩ | ⟨h1, loc, hp, a, f, blk, q1, q2, q3, q4, q5, q6, q7, q8, q9⟩
  · exact .inl ⟨h', loc, h1, h2, hk _ h3⟩
  · exact .inr ⟨h1, loc, hp, a, f, blk, q1, q2, q3, q4, q5, q6, q7, q8, hk _ q9⟩
theorem Drops.of {h0 h : Heap} {K : Heap → Prop} (h' loc : Heap) (h1 : h = h' ++ loc) (h2 : UOk h0.length h0 h') (h3 : K h') : Drops h0 h K := .inl ⟨h', loc, h1, h2, h3⟩
theorem Drops.take {h0 h : Heap} {K : Heap → Prop} (h1 loc hp : Heap) (a f : Nat) (blk : Blk) (q1 : h = h1 ++ loc) (q2 : ROk h0.length a f h0 h1 hp) (q3 : h0[f]? = some .free) (q4 : h1[f]? = some .free) (q5 : h0.length ≤ a) (q6 : h[a]? = some blk) (q7 : blk ≠ .free)
    (q8 : underB h0.length (renB a f blk) = true) (q9 : K (hp.set f (renB a f blk))) : Drops h0 h K := .inr ⟨h1, loc, hp, a, f, blk, q1, q2, q3, q4, q5, q6, q7, q8, q9⟩
theorem Drops.sound {m0 m : Mu} {h0 h : Heap} {w0 w : World} {K : Heap → Prop} (hd : Drops h0 h K) (hs0 : HSim m0 h0 w0) (hs : HSim m h w) (he : Evo m0 h0 w0 m h w) : ∃ m' h', HSim m' h' w ∧ Evo m0 h0 w0 m' h' w ∧ K h' := by
  rcases hd with ⟨h', loc, d1, d2, d3⟩ | ⟨h1, loc, hp, a, f, blk, q1, q2, q3, q4, q5, q6, q7, q8, q9⟩
  · subst d1
    obtain ⟨m', -, p2, p3, -⟩ := part_sound (rs := []) (bs := []) hs0 hs he (d2.ok hs0) List.nodup_nil rfl (by intro i r b hi; simp at hi)
    rw [List.append_nil] at p2 p3
    exact ⟨m', h', p2, p3, d3⟩
  · subst q1
    obtain ⟨m', k1, k2⟩ := ren_sound hs0 hs he q2 q3 q4 q5 q6 q7 q8
    exact ⟨m', _, k1, k2, q9⟩
end Go.YtodlpcoffmnmbaaDoor
