/-
  Own work. The value machine, part E: memory: a block made, a block written, a block that grows.
-/
import Derived.Test.YtodlpcoffmnmbaaDoorVd
import Derived.Deep.MidRow
namespace Go.YtodlpcoffmnmbaaDoor
open Go

theorem BlkOk.evo {m m' : Mu} {h h' : Heap} {w w' : World} (he : Evo m h w m' h' w') {r : Nat} {b : Blk} (hb : BlkOk m h w r b) (hm : m' r = m r)
    (hw : b.owned = true → w'.heap[(m r).1]? = w.heap[(m r).1]?) : BlkOk m' h' w' r b := by
  cases b with
  | free => trivial
  | dead => trivial
  | box cs =>
    obtain ⟨arr, e, fz, h1, h2, h3⟩ := hb
    exact ⟨arr, e, fz, by rw [hm, hw rfl]; exact h1, h2, h3.evo he⟩
  | grow sz cs n =>
    obtain ⟨arr, e, fz, rest, vs, h1, h2, h3, h4, h5, h6, h7⟩ := hb
    exact ⟨arr, e, fz, rest, vs, by rw [hm, hw rfl]; exact h1, h2, h3, h4.evo he, h5, by rw [hm]; exact h6, by rw [hm]; exact h7⟩
  | ice sz cs n =>
    obtain ⟨h1, h2, h3⟩ := hb
    exact ⟨by rw [hm]; exact h1.evo he, h2, by rw [hm]; exact h3⟩
  | icebox cs => show RepAt _ _ _ _ _ _; rw [hm]; exact RepAt.evo he hb
  | recb st T ps as bd pe =>
    obtain ⟨fn, tmps, df, h1, h2⟩ := hb
    exact ⟨fn, tmps, df, by rw [hm, hw rfl]; exact h1, h2.evo he⟩
  | mapb es =>
    obtain ⟨arr, cl, h1, h2, h3⟩ := hb
    exact ⟨arr, cl, by rw [hm, hw rfl]; exact h1, h2.evo he, h3.evo he⟩

/-- A block is made at the blocks' end. -/
def muSet (m : Mu) (r : Nat) (x : Nat × Nat) : Mu := fun s => if s = r then x else m s

theorem muSet_same (m : Mu) (r : Nat) (x : Nat × Nat) : muSet m r x r = x := by simp [muSet]
theorem muSet_ne (m : Mu) {r s : Nat} (x : Nat × Nat) (h : s ≠ r) : muSet m r x s = m s := by simp [muSet, h]

theorem evo_new {m : Mu} {h : Heap} {w w' : World} (_hs : HSim m h w) (b : Blk) (x : Nat × Nat) (hx : w.heap.size ≤ x.1)
    (h1 : w'.os = w.os) (h2 : w'.tape = w.tape) (h3 : w'.output = w.output) (h4 : w.heap.size ≤ w'.heap.size) (h5 : ∀ k, k < w.heap.size → w'.heap[k]? = w.heap[k]?) :
    Evo m h w (muSet m h.length x) (h ++ [b]) w' where
  os := h1
  tape := h2
  output := h3
  size := h4
  keep := fun k hk ho => by
    refine ⟨fun ⟨r, blk, g1, g2, g3⟩ => ?_, h5 k hk⟩
    by_cases hr : r = h.length
    · subst hr; rw [muSet_same] at g3; omega
    · rw [muSet_ne _ _ hr] at g3
      refine ho ⟨r, blk, ?_, g2, g3⟩
      have hl : r < (h ++ [b]).length := (List.getElem?_eq_some_iff.1 g1).1
      simp at hl
      rw [List.getElem?_append_left (by omega)] at g1
      exact g1
  blk := fun r bl hr => by
    have hl : r < h.length := (List.getElem?_eq_some_iff.1 hr).1
    refine ⟨bl, by rw [List.getElem?_append_left hl]; exact hr, ?_⟩
    have e : muSet m h.length x r = m r := muSet_ne _ _ (by omega)
    exact BStep.of_eq e bl

theorem hsim_new {m : Mu} {h : Heap} {w w' : World} (hs : HSim m h w) (b : Blk) (x : Nat × Nat) (hx : w.heap.size ≤ x.1)
    (h1 : w'.os = w.os) (h2 : w'.tape = w.tape) (h3 : w'.output = w.output) (h4 : w.heap.size ≤ w'.heap.size) (h5 : ∀ k, k < w.heap.size → w'.heap[k]? = w.heap[k]?)
    (hb : BlkOk (muSet m h.length x) (h ++ [b]) w' h.length b) : HSim (muSet m h.length x) (h ++ [b]) w' := by
  have he := evo_new hs b x hx h1 h2 h3 h4 h5
  have split : ∀ {r : Nat} {bl : Blk}, (h ++ [b])[r]? = some bl → (r < h.length ∧ h[r]? = some bl) ∨ (r = h.length ∧ bl = b) := by
    intro r bl hr
    by_cases hl : r < h.length
    · exact .inl ⟨hl, by rwa [List.getElem?_append_left hl] at hr⟩
    · right
      rw [List.getElem?_append_right (by omega)] at hr
      have : r - h.length = 0 := by
        have := (List.getElem?_eq_some_iff.1 hr).1
        simp at this; omega
      rw [this] at hr
      simp at hr
      exact ⟨by omega, hr.symm⟩
  refine ⟨?_, ?_, fun p hp => (hs.glob p hp).evo he⟩
  · intro r r' b1 b2 hr hr' o1 o2 hm
    rcases split hr with ⟨l1, g1⟩ | ⟨rfl, rfl⟩ <;> rcases split hr' with ⟨l2, g2⟩ | ⟨rfl, rfl⟩
    · rw [muSet_ne _ _ (by omega), muSet_ne _ _ (by omega)] at hm
      exact hs.inj r r' b1 b2 g1 g2 o1 o2 hm
    · rw [muSet_ne _ _ (by omega), muSet_same] at hm
      have := Owned.lt hs ⟨r, b1, g1, o1, rfl⟩
      omega
    · rw [muSet_same, muSet_ne _ _ (by omega)] at hm
      have := Owned.lt hs ⟨r', b2, g2, o2, rfl⟩
      omega
    · rfl
  · intro r bl hr
    rcases split hr with ⟨l1, g1⟩ | ⟨rfl, rfl⟩
    · refine BlkOk.evo he (hs.blk r bl g1) (muSet_ne _ _ (by omega)) fun ho => h5 _ (Owned.lt hs ⟨r, bl, g1, ho, rfl⟩)
    · exact hb

/-- An owned block becomes another one, in place or in a new place. -/
theorem evo_set {m : Mu} {h : Heap} {w w' : World} {r : Nat} {b b' : Blk} (hr : h[r]? = some b) (ho : b.owned = true) (x : Nat × Nat)
    (hx : x.1 = (m r).1 ∨ w.heap.size ≤ x.1) (hst : BStep m (muSet m r x) r b b')
    (h1 : w'.os = w.os) (h2 : w'.tape = w.tape) (h3 : w'.output = w.output) (h4 : w.heap.size ≤ w'.heap.size) (h5 : ∀ k, k < w.heap.size → k ≠ (m r).1 → w'.heap[k]? = w.heap[k]?) :
    Evo m h w (muSet m r x) (h.set r b') w' where
  os := h1
  tape := h2
  output := h3
  size := h4
  keep := fun k hk hno => by
    have hkr : k ≠ (m r).1 := fun e => hno ⟨r, b, hr, ho, e.symm⟩
    refine ⟨fun ⟨s, blk, g1, g2, g3⟩ => ?_, h5 k hk hkr⟩
    by_cases hsr : s = r
    · subst hsr; rw [muSet_same] at g3; rcases hx with hx | hx <;> omega
    · rw [muSet_ne _ _ hsr] at g3
      rw [List.getElem?_set_ne (by omega)] at g1
      exact hno ⟨s, blk, g1, g2, g3⟩
  blk := fun s bl hs => by
    by_cases hsr : s = r
    · subst hsr
      rw [hr] at hs
      injection hs with hs
      subst hs
      exact ⟨b', by rw [List.getElem?_set_self (List.getElem?_eq_some_iff.1 hr).1], hst⟩
    · refine ⟨bl, by rw [List.getElem?_set_ne (by omega)]; exact hs, ?_⟩
      have e : muSet m r x s = m s := muSet_ne _ _ hsr
      exact BStep.of_eq e bl

theorem hsim_set {m : Mu} {h : Heap} {w w' : World} (hsim : HSim m h w) {r : Nat} {b b' : Blk} (hr : h[r]? = some b) (ho : b.owned = true) (x : Nat × Nat)
    (hx : x.1 = (m r).1 ∨ w.heap.size ≤ x.1) (hst : BStep m (muSet m r x) r b b')
    (h1 : w'.os = w.os) (h2 : w'.tape = w.tape) (h3 : w'.output = w.output) (h4 : w.heap.size ≤ w'.heap.size) (h5 : ∀ k, k < w.heap.size → k ≠ (m r).1 → w'.heap[k]? = w.heap[k]?)
    (hb : BlkOk (muSet m r x) (h.set r b') w' r b') : HSim (muSet m r x) (h.set r b') w' := by
  have he := evo_set hr ho x hx hst h1 h2 h3 h4 h5
  have hlt := (List.getElem?_eq_some_iff.1 hr).1
  refine ⟨?_, ?_, fun p hp => (hsim.glob p hp).evo he⟩
  · intro s s' b1 b2 hs hs' o1 o2 hm
    by_cases e1 : s = r <;> by_cases e2 : s' = r
    · omega
    · subst e1
      rw [muSet_same, muSet_ne _ _ e2] at hm
      rw [List.getElem?_set_ne (by omega)] at hs'
      have hl := Owned.lt hsim ⟨s', b2, hs', o2, rfl⟩
      rcases hx with hx | hx
      · exact hsim.inj s s' b b2 hr hs' ho o2 (by omega)
      · omega
    · subst e2
      rw [muSet_same, muSet_ne _ _ e1] at hm
      rw [List.getElem?_set_ne (by omega)] at hs
      have hl := Owned.lt hsim ⟨s, b1, hs, o1, rfl⟩
      rcases hx with hx | hx
      · exact hsim.inj s s' b1 b hs hr o1 ho (by omega)
      · omega
    · rw [muSet_ne _ _ e1, muSet_ne _ _ e2] at hm
      rw [List.getElem?_set_ne (by omega)] at hs hs'
      exact hsim.inj s s' b1 b2 hs hs' o1 o2 hm
  · intro s bl hs
    by_cases e1 : s = r
    · subst e1
      rw [List.getElem?_set_self hlt] at hs
      injection hs with hs
      subst hs
      exact hb
    · rw [List.getElem?_set_ne (by omega)] at hs
      refine BlkOk.evo he (hsim.blk s bl hs) (muSet_ne _ _ e1) fun o1 => h5 _ (Owned.lt hsim ⟨s, bl, hs, o1, rfl⟩) fun e => e1 (hsim.inj s r bl b hs hr o1 ho e)

/-! ### Cells that are stored -/
theorem setCells_block : ∀ (vs : List Value) (w : World) (b o : Nat) (arr : Array Value) (e : TypeId) (fz : Nat × Nat), w.heap[b]? = some (.cells arr e fz) → o + vs.length ≤ arr.size →
    ∃ arr' : Array Value, (w.setCells b o vs).heap[b]? = some (.cells arr' e fz) ∧ arr'.toList = arr.toList.take o ++ vs ++ arr.toList.drop (o + vs.length)
  | [], w, b, o, arr, e, fz, h, _ => ⟨arr, h, by simp⟩
  | v :: vs, w, b, o, arr, e, fz, h, hl => by
    simp only [List.length_cons] at hl
    have h1 : (w.setCell ⟨b, o, none⟩ v).heap[b]? = some (.cells (arr.setIfInBounds o v) e fz) := by
      simp [World.setCell, Array.getElem?_modify, h]
    obtain ⟨arr', h2, h3⟩ := setCells_block vs (w.setCell ⟨b, o, none⟩ v) b (o + 1) _ e fz h1 (by simp; omega)
    refine ⟨arr', by rw [World.setCells]; exact h2, ?_⟩
    rw [h3]
    simp only [Array.toList_setIfInBounds]
    apply List.ext_getElem?
    intro i
    simp only [List.getElem?_append, List.length_append, List.length_take, List.length_set, Array.length_toList, List.getElem?_take, List.getElem?_drop, List.getElem?_set, List.length_cons, List.getElem?_cons]
    grind

theorem setCells_other : ∀ (vs : List Value) (w : World) (b o k : Nat), k ≠ b → (w.setCells b o vs).heap[k]? = w.heap[k]?
  | [], _, _, _, _, _ => rfl
  | v :: vs, w, b, o, k, h => by
    rw [World.setCells, setCells_other vs _ b (o + 1) k h]
    simp only [World.setCell, Array.getElem?_modify]
    rw [if_neg (by simpa using (Ne.symm h))]

theorem setCells_size : ∀ (vs : List Value) (w : World) (b o : Nat), (w.setCells b o vs).heap.size = w.heap.size
  | [], _, _, _ => rfl
  | v :: vs, w, b, o => by rw [World.setCells, setCells_size vs]; simp

theorem setCells_os : ∀ (vs : List Value) (w : World) (b o : Nat), (w.setCells b o vs).os = w.os ∧ (w.setCells b o vs).tape = w.tape ∧ (w.setCells b o vs).output = w.output
  | [], _, _, _ => ⟨rfl, rfl, rfl⟩
  | v :: vs, w, b, o => by rw [World.setCells]; obtain ⟨h1, h2, h3⟩ := setCells_os vs (w.setCell ⟨b, o, none⟩ v) b (o + 1); exact ⟨h1, h2, h3⟩

theorem there_of_block {w : World} {b : Nat} {arr : Array Value} {e : TypeId} {fz : Nat × Nat} (h : w.heap[b]? = some (.cells arr e fz)) (hf : ∀ i, i < arr.size → ¬ (fz.1 ≤ i ∧ i < fz.2)) {o n : Nat} (hl : o + n ≤ arr.size) :
    w.there b o n := by
  intro j hj
  have h1 : o + j < arr.size := by omega
  constructor
  · simp [World.cell?, h, h1]
  · have := hf (o + j) h1
    obtain ⟨lo, hi⟩ := fz
    simp only [World.frozen?, h]
    simp only at this
    by_cases c1 : lo ≤ o + j <;> by_cases c2 : o + j < hi <;> simp [c1, c2]
    omega

theorem splice_eq (cs : List D) (off : Nat) (vs : List D) (h : off + vs.length ≤ cs.length) : splice cs off vs = cs.take off ++ vs ++ cs.drop (off + vs.length) := by
  unfold splice
  split
  · rename_i v
    simp only [List.length_cons, List.length_nil] at h
    apply List.ext_getElem?
    intro i
    simp only [List.getElem?_append, List.length_append, List.length_take, List.getElem?_take, List.getElem?_drop, List.getElem?_set, List.length_cons, List.length_nil, List.getElem?_cons]
    grind
  · rfl

theorem RepL.splice {m : Mu} {ah : Heap} {w : World} {cs ds : List D} {us vs : List Value} (h : RepL m ah w cs us) (k : RepL m ah w ds vs) (off : Nat) :
    RepL m ah w (cs.take off ++ ds ++ cs.drop (off + ds.length)) (us.take off ++ vs ++ us.drop (off + vs.length)) := by
  rw [k.length]
  exact RepL.append (RepL.append (h.take off) k) (h.drop _)

end Go.YtodlpcoffmnmbaaDoor
