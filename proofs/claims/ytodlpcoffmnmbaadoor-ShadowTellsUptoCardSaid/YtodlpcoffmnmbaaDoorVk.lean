/-
  Own work. The value machine, part K: memory written: a store, an append, a copy.
-/
import Derived.Test.YtodlpcoffmnmbaaDoorVj
namespace Go.YtodlpcoffmnmbaaDoor
open Go
set_option linter.unusedVariables false
set_option linter.unusedSimpArgs false

section
variable {P : Program} {m : Mu} {h : Heap} {w : World}

theorem muSet_self (m : Mu) (r : Nat) : muSet m r (m r) = m := by
  funext s
  by_cases e : s = r
  · subst e; exact muSet_same _ _ _
  · exact muSet_ne _ _ e

/-- Cells stored into an owned block. -/
theorem store_owned (hs : HSim m h w) {r : Nat} {b b' : Blk} (hr : h[r]? = some b) (ho : b.owned = true) {arr : Array Value} {e : TypeId} {fz : Nat × Nat} (hb : w.heap[(m r).1]? = some (.cells arr e fz))
    (hfz : ∀ i, i < arr.size → ¬ (fz.1 ≤ i ∧ i < fz.2)) {off : Nat} {vs : List Value} (hl : off + vs.length ≤ arr.size) (hst : BStep m m r b b')
    (hok : ∀ arr' : Array Value, (w.setCells (m r).1 off vs).heap[(m r).1]? = some (.cells arr' e fz) → arr'.toList = arr.toList.take off ++ vs ++ arr.toList.drop (off + vs.length) → arr'.size = arr.size →
      Evo m h w m (h.set r b') (w.setCells (m r).1 off vs) → BlkOk m (h.set r b') (w.setCells (m r).1 off vs) r b') :
    HSim m (h.set r b') (w.setCells (m r).1 off vs) ∧ Evo m h w m (h.set r b') (w.setCells (m r).1 off vs) := by
  obtain ⟨arr', h1, h2⟩ := setCells_block vs w (m r).1 off arr e fz hb hl
  obtain ⟨o1, o2, o3⟩ := setCells_os vs w (m r).1 off
  have hsz : arr'.size = arr.size := by
    have := congrArg List.length h2
    simp at this; omega
  have he := evo_set (w' := w.setCells (m r).1 off vs) hr ho (m r) (.inl rfl) (b' := b') (by rw [muSet_self]; exact hst) o1 o2 o3 (by rw [setCells_size]; exact Nat.le_refl _) (fun k _ hk => setCells_other vs w _ off k hk)
  have hh := hsim_set (w' := w.setCells (m r).1 off vs) hs hr ho (m r) (.inl rfl) (b' := b') (by rw [muSet_self]; exact hst) o1 o2 o3 (by rw [setCells_size]; exact Nat.le_refl _) (fun k _ hk => setCells_other vs w _ off k hk)
    (by rw [muSet_self] at he ⊢; exact hok arr' h1 h2 hsz he)
  rw [muSet_self] at he hh
  exact ⟨hh, he⟩

theorem take_append_drop_vs {vs us rest : List Value} {off : Nat} (h1 : off + us.length ≤ vs.length) :
    (vs ++ rest).take off ++ us ++ (vs ++ rest).drop (off + us.length) = (vs.take off ++ us ++ vs.drop (off + us.length)) ++ rest := by
  rw [List.take_append_of_le_length (by omega), List.drop_append_of_le_length (by omega)]
  simp

theorem run_storeAt_cells {t : TypeId} {v : Value} {n : Nat} (hz : szOf P t = some n) (hn : v.cells.size = n) (h1 : ∀ u ∈ v.cells.toList, u.oneCell' = true) (b off : Nat) (ht : w.there b off n) :
    (Instr.storeAt t (.pointer (some ⟨b, off, none⟩)) v).run P w = .ok () (w.setCells b off v.cells.toList) := by
  have := run_storeCells_cells (P := P) b off v.cells.toList 0 w (fun j hj => by simpa using (ht j (by simp at hj; omega)).1) (fun j hj => by simpa using (ht j (by simp at hj; omega)).2) h1
  simp only [Nat.add_zero] at this
  simp [Instr.storeAt, Instr.sureAddr, storeVar, run_sizeOf hz w, hn, this]

/-- A store. -/
theorem y_store (hs : HSim m h w) {t : TypeId} {n : Nat} (hz : szOf P t = some n) {x y : D} {vx vy : Value} (hx : Rep m h w x vx) (hy : Rep m h w y vy) (hl : laid y = true) (hn : (vcells y).length = n) {h' : Heap} (hst : storeAt h x (vcells y) = some h') :
    ∃ w', (Instr.storeAt t vx vy).run P w = .ok () w' ∧ HSim m h' w' ∧ Evo m h w m h' w' := by
  obtain ⟨g1, g2⟩ := rep_vcells hy hl
  have hvs : vy.cells.size = n := by rw [← hn, ← g1.length]; simp
  have hvl : vy.cells.toList.length = (vcells y).length := g1.length
  unfold storeAt at hst
  split at hst
  · rename_i r off
    simp only [Rep] at hx
    obtain ⟨_, blk, h1, h2⟩ := hx
    rw [h1] at hst
    split at hst
    · rename_i cs e'
      injection e' with e'; subst e'
      split at hst
      · rename_i hle
        injection hst with hst; subst hst
        obtain ⟨arr, e, fz, b1, b2, b3⟩ := hs.blk r _ h1
        have hsz : arr.size = cs.length := by rw [← b3.length]; simp
        have hv := h2
        simp only [RefV, isPtr] at hv
        subst hv
        obtain ⟨q1, q2⟩ := store_owned hs h1 rfl b1 b2 (off := off) (vs := vy.cells.toList) (by omega) (b' := .box (splice cs off (vcells y)))
          (.inr ⟨_, .inl rfl, by rw [splice_eq _ _ _ hle]; simp; omega, rfl⟩)
          (fun arr' c1 c2 c3 he => ⟨arr', e, fz, c1, by rw [c3]; exact b2, by
            have hq := RepL.splice (b3.evo he) (g1.evo he) off
            rw [← splice_eq _ _ _ hle, ← c2] at hq
            exact hq⟩)
        exact ⟨_, run_storeAt_cells hz hvs g2 _ _ (there_of_block b1 b2 (by omega)), q1, q2⟩
      · cases hst
    · cases hst
  · rename_i r len off
    simp only [Rep] at hx
    obtain ⟨_, blk, h1, h2⟩ := hx
    rw [h1] at hst
    split at hst
    · rename_i sz cs len' e'
      injection e' with e'; subst e'
      split at hst
      · rename_i hle
        obtain ⟨hlen, hle⟩ := hle
        injection hst with hst; subst hst
        obtain ⟨arr, e, fz, rest, vs, b1, b2, b3, b4, b5, b6, b7⟩ := hs.blk r _ h1
        have hv := h2.2 hlen
        simp only [isPtr] at hv
        subst hv
        have hvsl : vs.length = cs.length := b4.length
        have hsz : arr.size = vs.length + rest.length := by rw [← Array.length_toList, b3]; simp
        obtain ⟨q1, q2⟩ := store_owned hs h1 rfl b1 b2 (off := off) (vs := vy.cells.toList) (by omega) (b' := .grow sz (splice cs off (vcells y)) len')
          (.inr ⟨_, len', .inl rfl, Nat.le_refl _, fun _ => rfl⟩)
          (fun arr' c1 c2 c3 he => ⟨arr', e, fz, rest, vs.take off ++ vy.cells.toList ++ vs.drop (off + vy.cells.toList.length), c1, by rw [c3]; exact b2, by
            rw [c2, b3]; exact take_append_drop_vs (by omega), by
            have hq := RepL.splice (b4.evo he) (g1.evo he) off
            rw [← splice_eq _ _ _ hle] at hq
            exact hq, by rw [splice_eq _ _ _ hle]; simp; omega, b6, by rw [c3]; exact b7⟩)
        exact ⟨_, run_storeAt_cells hz hvs g2 _ _ (there_of_block b1 b2 (by omega)), q1, q2⟩
      · cases hst
    · cases hst
  · cases hst

/-- What is put behind, or copied. -/
theorem src_spec (hs : HSim m h w) {tx : TypeId} {sz : Nat} {x : D} {v : Value} (hx : Rep m h w x v) {cs : List D} {k : Nat} (hc : srcCells h sz x = some (cs, k)) (hone : cs.all D.one = true)
    (htx : (P.underlying tx = some .string ∧ x.sortOf = 0) ∨ ((∃ e, P.underlying tx = some (.slice e)) ∧ x.sortOf = 2)) :
    ∃ vs, Src P sz tx v k vs w ∧ RepL m h w cs vs ∧ cs.length = k * sz := by
  unfold srcCells at hc
  split at hc
  · rename_i s
    split at hc
    · rename_i h1
      subst h1
      simp only [Option.some.injEq, Prod.mk.injEq] at hc
      obtain ⟨rfl, rfl⟩ := hc
      simp only [Rep] at hx
      subst hx
      rcases htx with ⟨h1, _⟩ | ⟨_, h2⟩
      · refine ⟨byteCells s, Src.ofString w h1 s, ?_, by simp [ofBytes]⟩
        unfold byteCells ofBytes
        generalize s.data.toList = l
        induction l with
        | nil => simp [RepL]
        | cons b l ih => simp only [List.map_cons, RepL]; exact ⟨_, _, rfl, by simp [Rep], ih⟩
      · simp [D.sortOf] at h2
    · cases hc
  · obtain ⟨g1, g2⟩ := sl_lies hs hx hc
    rcases htx with ⟨_, h1⟩ | ⟨⟨e, h1⟩, _⟩
    · unfold slCells at hc
      split at hc <;> simp_all [D.sortOf]
    · rcases g2 with ⟨rfl, rfl⟩ | ⟨rfl, a, cap, rfl⟩ | ⟨b, off, cap, rfl, g3, g4⟩
      · have : cs = [] := List.length_eq_zero_iff.1 (by omega)
        subst this
        exact ⟨[], Src.ofNil w h1 0, by simp [RepL], by simp⟩
      · have : cs = [] := List.length_eq_zero_iff.1 (by omega)
        subst this
        exact ⟨[], Src.ofSlice w h1 _ _ _ [] (by simp) (fun j u hj => by simp at hj) (by simp), by simp [RepL], by simp⟩
      · obtain ⟨vs, q1, q2⟩ := g4.vals
        exact ⟨vs, Src.ofSlice w h1 _ _ _ vs (by rw [q1.length, g1]) (fun j u hj => by rw [addr_add]; exact q2 j u hj) (repL_one hone q1), q1, g1⟩

theorem grownCap_ge (w : World) (need old : Nat) (e : TypeId) : need ≤ grownCap w need old e := by simp [grownCap, Question.cut]

/-- Append. -/
theorem y_append (hs : HSim m h w) {t tx ty e : TypeId} (hu : P.underlying t = some (.slice e)) {sz by_ : Nat} (hz : szOf P e = some sz) (hby : byOf P e = some by_) {zs : List D} (hzs : zeroOf P e = some zs) (hzl : zs.length = sz)
    {x y : D} {vx vy : Value} (hx : Rep m h w x vx) (hy : Rep m h w y vy) {ys : List D} {k : Nat} (hc : srcCells h sz y = some (ys, k)) (hone : ys.all D.one = true)
    (htx : (P.underlying tx = some .string ∧ y.sortOf = 0) ∨ ((∃ e, P.underlying tx = some (.slice e)) ∧ y.sortOf = 2)) {d : D} {h' : Heap} (ha : appendD h sz by_ x ys k = some (d, h')) :
    Yld P (Builtin.append_ #[t, tx] ty #[vx, vy]) m h w d h' := by
  obtain ⟨us, g1, g2, g3⟩ := src_spec hs hy hc hone htx
  obtain ⟨inf, hinf, hinfs, hinfb⟩ : ∃ inf, P.info? e = some inf ∧ inf.size = sz ∧ inf.bytes = by_ := by
    simp only [szOf, Option.map_eq_some_iff] at hz
    obtain ⟨i, h1, h2⟩ := hz
    simp only [byOf, h1, Option.map_some, Option.some.injEq] at hby
    exact ⟨i, h1, h2, hby⟩
  obtain ⟨z, hzz, hzsz⟩ : ∃ z, inf.zero = some z ∧ z.cells.size = sz := by
    simp only [zeroOf, hinf, Option.bind_some, Option.map_eq_some_iff] at hzs
    obtain ⟨z, h1, rfl⟩ := hzs
    exact ⟨z, h1, by rw [← hzl]; simp⟩
  have hul : us.length = k * sz := by rw [g2.length, g3]
  subst hinfs
  have hfit : ∀ need old, old < need → need ≤ 1073741824 → by_ ≤ 65536 → Builtin.nextslicecap need old * inf.bytes ≤ 281474976710656 := by
    intro need old hlt h1 h2
    refine growslice_fits hlt ?_
    rw [hinfb]
    calc need * by_ ≤ 1073741824 * 65536 := Nat.mul_le_mul h1 h2
      _ ≤ 140737488355328 := by omega
  -- a new row of elder cells and new ones
  have fresh : ∀ (base : Option Addr) (sLen sCap : Nat) (olds : List Value) (cs : List D), RepL m h w cs olds → cs.length = sLen * inf.size → (Builtin.firstCells inf.size sLen (.slice base sLen sCap)).run P w.drew = .ok olds.toArray w.drew →
      sCap < sLen + k → sLen + k ≤ 1073741824 → by_ ≤ 65536 → vx = .slice base sLen sCap →
      ∃ (cap : Nat) (w1 : World), (Builtin.append_ #[t, tx] ty #[vx, vy]).run P w = .ok (.slice (some ⟨w.heap.size, 0, none⟩) (sLen + k) cap) w1 ∧ sLen + k ≤ cap ∧
        w1 = w.drew.alloc (.cells ((olds ++ us).toArray ++ Builtin.zeroCells z.cells (cap - (sLen + k))) e) ∧ ((olds ++ us).toArray ++ Builtin.zeroCells z.cells (cap - (sLen + k))).size = cap * inf.size := by
    intro base sLen sCap olds cs hr hcl hf hlt h1 h2 hv
    subst hv
    have hrun := run_append_grow_src (P := P) w t tx ty e inf z hu hinf hzz base sLen sCap olds hf vy k us g1 hlt (by omega) (hfit _ _ hlt h1 h2)
    refine ⟨_, _, hrun, grownCap_ge _ _ _ _, rfl, ?_⟩
    have hge := grownCap_ge w (sLen + k) sCap e
    simp only [Array.size_append, List.size_toArray, List.length_append, size_zeroCells, hzsz, hr.length, hcl, hul]
    rw [← Nat.add_mul, ← Nat.add_mul]
    congr 1; omega
  unfold appendD at ha
  split at ha
  · -- onto nil
    simp only [Rep] at hx
    subst hx
    split at ha
    · rename_i hk
      subst hk
      simp only [Option.some.injEq, Prod.mk.injEq] at ha
      obtain ⟨rfl, rfl⟩ := ha
      have hus : us = [] := List.length_eq_zero_iff.1 (by omega)
      subst hus
      refine Yld.pure (v := .slice none 0 0) hs ?_ (by simp [Rep])
      rcases g1.kind with ⟨e', hk⟩ | hk <;> simp [Builtin.append_, run_under hu w, run_under hk w, sizeOf, typeInfo, hinf, g1.len, g1.cells]
    · rename_i hk
      split at ha
      · rename_i hb
        simp only [Option.some.injEq, Prod.mk.injEq] at ha
        obtain ⟨rfl, rfl⟩ := ha
        obtain ⟨cap, w1, r1, r2, rfl, r4⟩ := fresh none 0 0 [] [] (by simp [RepL]) (by simp) (run_firstCells_none _ _ _ _ _) (by omega) (by omega) hb.2 rfl
        obtain ⟨m', q1, q2, q3⟩ := new_grow (w' := w.drew.alloc (.cells (([] ++ us).toArray ++ Builtin.zeroCells z.cells (cap - (0 + k))) e)) hs inf.size ys k cap us (Builtin.zeroCells z.cells (cap - (0 + k))).toList _ (by simp) g2 g3 (by omega) r4 e (0, 0) (by simp) rfl rfl rfl rfl
        rw [Nat.zero_add] at r1
        exact ⟨_, m', _, by simpa using r1, by simpa using q1, by simpa using q2, by simpa using q3⟩
      · cases ha
  · -- onto a slice that has no room
    rename_i cs n
    simp only [Rep] at hx
    obtain ⟨a, cap0, hv, h1, h2, h3, h4⟩ := hx
    have hcap := h2 trivial
    subst hcap
    split at ha
    · rename_i hk
      subst hk
      simp only [Option.some.injEq, Prod.mk.injEq] at ha
      obtain ⟨rfl, rfl⟩ := ha
      have hus : us = [] := List.length_eq_zero_iff.1 (by omega)
      subst hus
      subst hv
      refine Yld.pure (v := .slice (some a) cap0 cap0) hs ?_ (by simp only [Rep]; exact ⟨_, _, rfl, Nat.le_refl _, fun _ => rfl, h3, h4⟩)
      rcases g1.kind with ⟨e', hk⟩ | hk <;> simp [Builtin.append_, run_under hu w, run_under hk w, sizeOf, typeInfo, hinf, g1.len, g1.cells, storeCells]
    · rename_i hk
      split at ha
      · rename_i hb
        simp only [Option.some.injEq, Prod.mk.injEq] at ha
        obtain ⟨rfl, rfl⟩ := ha
        obtain ⟨vs, p1, p2⟩ := ((Lies.of_at h4).take (cap0 * inf.size)).vals
        have hvl : vs.length = cap0 * inf.size := by rw [p1.length]; simp; omega
        have p3 : ∀ j u, vs[j]? = some u → w.cell? (a.add j) = some u := by
          intro j u hj
          rcases h3 with h3 | h3
          · subst h3
            have : vs = [] := List.length_eq_zero_iff.1 (by omega)
            subst this; simp at hj
          · obtain ⟨b, off, spot⟩ := a
            simp only at h3
            subst h3
            rw [addr_add]; exact p2 j u hj
        obtain ⟨cap, w1, r1, r2, rfl, r4⟩ := fresh (some a) cap0 cap0 vs _ p1 (by simp; omega) (run_firstCells_some w.drew _ _ _ _ _ vs hvl (fun j u hj => p3 j u hj)) (by omega) hb.2.1 hb.2.2 hv
        obtain ⟨m', q1, q2, q3⟩ := new_grow (w' := w.drew.alloc (.cells ((vs ++ us).toArray ++ Builtin.zeroCells z.cells (cap - (cap0 + k))) e)) hs inf.size (cs.take (cap0 * inf.size) ++ ys) (cap0 + k) cap (vs ++ us) (Builtin.zeroCells z.cells (cap - (cap0 + k))).toList _ (by simp)
          (RepL.append p1 g2) (by simp [g3]; rw [Nat.min_eq_left (by omega), ← Nat.add_mul]) (by omega) r4 e (0, 0) (by simp) rfl rfl rfl rfl
        exact ⟨_, m', _, r1, q1, q2, q3⟩
      · cases ha
  · -- onto one's own
    rename_i r n
    simp only [Rep] at hx
    obtain ⟨_, blk, h1, h2⟩ := hx
    rw [h1] at ha
    split at ha
    · rename_i sz' cs len e'
      injection e' with e'; subst e'
      split at ha
      · rename_i hb
        obtain ⟨rfl, rfl, hb1, hb2⟩ := hb
        simp only [Option.some.injEq, Prod.mk.injEq] at ha
        obtain ⟨rfl, rfl⟩ := ha
        obtain ⟨arr, e1, fz, rest, vs, b1, b2, b3, b4, b5, b6, b7⟩ := hs.blk r _ h1
        have hv := h2.2 rfl
        unfold isOwn at hv
        have hvsl : vs.length = cs.length := b4.length
        have hasz : arr.size = vs.length + rest.length := by rw [← Array.length_toList, b3]; simp
        have hlies := (grow_lies hs (.inl h1)).1
        by_cases hroom : n + k ≤ (m r).2
        · subst hv
          have hspace : n * inf.size + us.length ≤ arr.size := by
            rw [hul, b7, ← Nat.add_mul]; exact Nat.mul_le_mul_right _ hroom
          have hth := there_of_block b1 b2 hspace
          have hrun := run_append_room_src (P := P) w t tx ty e inf hu hinf (m r).1 0 n (m r).2 vy k us g1 hroom (fun j hj => by simpa using (hth j hj).1) (fun j hj => by simpa using (hth j hj).2)
          simp only [Nat.zero_add] at hrun
          have hvn : vs.length = n * inf.size := by rw [hvsl, b5]
          obtain ⟨q1, q2⟩ := store_owned hs h1 rfl b1 b2 (off := n * inf.size) (vs := us) hspace (b' := .grow inf.size (cs ++ ys) (n + k))
            (.inr ⟨_, n + k, .inl rfl, by omega, fun _ => rfl⟩)
            (fun arr' c1 c2 c3 he => ⟨arr', e1, fz, rest.drop us.length, vs ++ us, c1, by rw [c3]; exact b2, by
              rw [c2, b3, ← hvn]
              simp [List.drop_append], RepL.append (b4.evo he) (g2.evo he), by simp [b5, g3, Nat.add_mul], hroom, by rw [c3]; exact b7⟩)
          exact ⟨_, m, _, hrun, by
            simp only [Rep]
            exact ⟨⟨m r, rfl⟩, _, List.getElem?_set_self (List.getElem?_eq_some_iff.1 h1).1, Nat.le_refl _, fun _ => rfl⟩, q1, q2⟩
        · have hvn : vs.length = n * inf.size := by rw [hvsl, b5]
          obtain ⟨vs', p1, p2⟩ := hlies.vals
          have hvl' : vs'.length = n * inf.size := by rw [p1.length, b5]
          obtain ⟨cap, w1, r1, r2, rfl, r4⟩ := fresh (some ⟨(m r).1, 0, none⟩) n (m r).2 vs' cs p1 b5 (run_firstCells_some w.drew _ _ _ _ _ vs' hvl' (fun j u hj => by rw [addr_add]; exact p2 j u hj)) (by omega) hb1 hb2 hv
          have hk0 : 0 < k := by omega
          have hst : BStep m (muSet m r (w.heap.size, cap)) r (.grow inf.size cs n) (.grow inf.size (cs ++ ys) (n + k)) := .inr ⟨_, n + k, .inl rfl, by omega, fun e => by omega⟩
          have w1 : ∀ i, i < w.heap.size → i ≠ (m r).1 → (w.drew.alloc (.cells ((vs' ++ us).toArray ++ Builtin.zeroCells z.cells (cap - (n + k))) e)).heap[i]? = w.heap[i]? := fun i hi _ => by
            show (w.heap.push _)[i]? = _
            rw [Array.getElem?_push, if_neg (by omega)]
          have he := evo_set (w' := w.drew.alloc (.cells ((vs' ++ us).toArray ++ Builtin.zeroCells z.cells (cap - (n + k))) e)) h1 rfl (w.heap.size, cap) (.inr (Nat.le_refl _)) hst rfl rfl rfl (by simp) w1
          refine ⟨_, muSet m r (w.heap.size, cap), _, r1, ?_, ?_, he⟩
          · simp only [Rep]
            exact ⟨⟨(w.heap.size, cap), rfl⟩, _, List.getElem?_set_self (List.getElem?_eq_some_iff.1 h1).1, Nat.le_refl _, fun _ => by rw [muSet_same]; rfl⟩
          · refine hsim_set hs h1 rfl (w.heap.size, cap) (.inr (Nat.le_refl _)) hst rfl rfl rfl (by simp) w1 ?_
            refine ⟨(vs' ++ us).toArray ++ Builtin.zeroCells z.cells (cap - (n + k)), e, (0, 0), (Builtin.zeroCells z.cells (cap - (n + k))).toList, vs' ++ us, ?_, fun i _ => by simp, by simp, RepL.append (p1.evo he) (g2.evo he), by simp [b5, g3, Nat.add_mul], by rw [muSet_same]; exact r2, by rw [muSet_same]; exact r4⟩
            rw [muSet_same]
            show (w.heap.push _)[w.heap.size]? = _
            simp
      · cases ha
    · cases ha
  · cases ha

end
end Go.YtodlpcoffmnmbaaDoor
