/-
  Own work. The value machine, part L: a copy; and each operation's code with its types worked in.
-/
import Derived.Test.YtodlpcoffmnmbaaDoorVk
namespace Go.YtodlpcoffmnmbaaDoor
open Go
set_option linter.unusedVariables false
set_option linter.unusedSimpArgs false

section
variable {P : Program} {m : Mu} {h : Heap} {w : World}

theorem src_first (hs : HSim m h w) {tx : TypeId} {sz : Nat} {x : D} {v : Value} (hx : Rep m h w x v) {cs : List D} {k : Nat} (hc : srcCells h sz x = some (cs, k)) {n : Nat} (hn : n ≤ k) (hone : (cs.take (n * sz)).all D.one = true) :
    ∃ vs, (Builtin.lenOf v).run P w = .ok k w ∧ (Builtin.firstCells sz n v).run P w = .ok vs.toArray w ∧ RepL m h w (cs.take (n * sz)) vs ∧ cs.length = k * sz ∧ vs.length = n * sz := by
  unfold srcCells at hc
  split at hc
  · rename_i s
    split at hc
    · rename_i h1
      subst h1
      simp only [Option.some.injEq, Prod.mk.injEq] at hc
      obtain ⟨rfl, rfl⟩ := hc
      simp only [Rep] at hx
      subst hx
      have hrep : ∀ l : List UInt8, RepL m h w (ofBytes l) (l.map fun b => Value.int .u8 b.toNat) := by
        intro l
        induction l with
        | nil => simp [ofBytes, RepL]
        | cons b l ih => simp only [ofBytes, List.map_cons, RepL]; exact ⟨_, _, rfl, by simp [Rep], ih⟩
      have hlen : s.data.toList.length = s.size := by simp
      refine ⟨(s.data.toList.take n).map fun b => Value.int .u8 b.toNat, by simp [Builtin.lenOf], ?_, ?_, by simp [ofBytes], by simp; omega⟩
      · simp only [Builtin.firstCells, Sem.run_pure]
        congr 1
        apply Array.ext'
        simp [List.extract_eq_take_drop]
      · have := hrep (s.data.toList.take n)
        rw [Nat.mul_one]
        unfold ofBytes at this ⊢
        rw [← List.map_take]
        exact this
    · cases hc
  · obtain ⟨g1, g2⟩ := sl_lies hs hx hc
    rcases g2 with ⟨rfl, rfl⟩ | ⟨rfl, a, cap, rfl⟩ | ⟨b, off, cap, rfl, g3, g4⟩
    · have : cs = [] := List.length_eq_zero_iff.1 (by omega)
      subst this
      have hn0 : n = 0 := by omega
      subst hn0
      exact ⟨[], by simp [Builtin.lenOf], by simp [Builtin.firstCells], by simp [RepL], by simp, by simp⟩
    · have : cs = [] := List.length_eq_zero_iff.1 (by omega)
      subst this
      have hn0 : n = 0 := by omega
      subst hn0
      exact ⟨[], by simp [Builtin.lenOf], run_firstCells_some w sz 0 _ _ _ [] (by simp) (fun j u hj => by simp at hj), by simp [RepL], by simp, by simp⟩
    · obtain ⟨vs, q1, q2⟩ := (g4.take (n * sz)).vals
      have hle : n * sz ≤ cs.length := by rw [g1]; exact Nat.mul_le_mul_right _ hn
      have hvl : vs.length = n * sz := by rw [q1.length]; simp; omega
      exact ⟨vs, by simp [Builtin.lenOf], run_firstCells_some w sz n _ _ _ vs hvl (fun j u hj => by rw [addr_add]; exact q2 j u hj), q1, g1, hvl⟩

theorem run_copy {t tx ty e : TypeId} (hu : P.underlying t = some (.slice e)) {sz : Nat} (hz : szOf P e = some sz) (b off dl cap : Nat) {v : Value} {k : Nat} (h1 : (Builtin.lenOf v).run P w = .ok k w) {vs : List Value} (h2 : (Builtin.firstCells sz (min k dl) v).run P w = .ok vs.toArray w)
    (h3 : ∀ u ∈ vs, u.oneCell' = true) (ht : w.there b off vs.length) :
    (Builtin.copy_ #[t, tx] ty #[.slice (some ⟨b, off, none⟩) dl cap, v]).run P w = .ok (.int .i64 ((min k dl : Nat) : Int)) (w.setCells b off vs) := by
  have := run_storeCells_cells (P := P) b off vs 0 w (fun j hj => by simpa using (ht j hj).1) (fun j hj => by simpa using (ht j hj).2) h3
  simp only [Nat.add_zero] at this
  have e1 : Nat.min k dl = min k dl := rfl
  simp [Builtin.copy_, run_under hu w, run_sizeOf hz w, h1, e1, h2, this, goInt]

theorem y_copy (hs : HSim m h w) {t tx ty e : TypeId} (hu : P.underlying t = some (.slice e)) {sz : Nat} (hz : szOf P e = some sz) {x y : D} {vx vy : Value} (hx : Rep m h w x vx) (hy : Rep m h w y vy) {n : Nat} (hn : slLen h x = some n) {ys : List D} {k : Nat} (hc : srcCells h sz y = some (ys, k))
    (hone : (ys.take (min k n * sz)).all D.one = true) {h' : Heap} (hcp : copyInto h sz x (ys.take (min k n * sz)) = some h') : Yld P (Builtin.copy_ #[t, tx] ty #[vx, vy]) m h w (.int .i64 ((min k n : Nat) : Int)) h' := by
  obtain ⟨vs, g1, g2, g3, g4, g5⟩ := src_first (P := P) (tx := tx) hs hy hc (Nat.min_le_left k n) hone
  have hvl : vs.length = (ys.take (min k n * sz)).length := g3.length
  have h1c := repL_one hone g3
  generalize hds : ys.take (min k n * sz) = ds at *
  unfold copyInto at hcp
  split at hcp
  · rename_i r n'
    simp only [Rep] at hx
    obtain ⟨_, blk, h1, h2⟩ := hx
    rw [h1] at hcp
    simp only [slLen, h1] at hn
    split at hcp
    · rename_i sz' cs len e'
      injection e' with e'; subst e'
      split at hcp
      · rename_i hb
        obtain ⟨rfl, rfl, hle⟩ := hb
        injection hcp with hcp; subst hcp
        simp only [if_true, Option.some.injEq] at hn
        subst hn
        obtain ⟨arr, e1, fz, rest, us, b1, b2, b3, b4, b5, b6, b7⟩ := hs.blk r _ h1
        have hv := h2.2 rfl
        unfold isOwn at hv
        subst hv
        have hul : us.length = cs.length := b4.length
        have hasz : arr.size = us.length + rest.length := by rw [← Array.length_toList, b3]; simp
        obtain ⟨q1, q2⟩ := store_owned hs h1 rfl b1 b2 (off := 0) (vs := vs) (by omega) (b' := .grow sz' (ds ++ cs.drop ds.length) n')
          (.inr ⟨_, n', .inl rfl, Nat.le_refl _, fun _ => rfl⟩)
          (fun arr' c1 c2 c3 he => ⟨arr', e1, fz, rest, vs ++ us.drop vs.length, c1, by rw [c3]; exact b2, by
            rw [c2, b3]
            have := take_append_drop_vs (vs := us) (us := vs) (rest := rest) (off := 0) (by omega)
            simpa using this, by
            have := RepL.splice (b4.evo he) (g3.evo he) 0
            simpa using this, by simp; omega, b6, by rw [c3]; exact b7⟩)
        exact ⟨_, m, _, run_copy hu hz _ 0 _ _ g1 g2 h1c (there_of_block b1 b2 (by omega)), by simp [Rep], q1, q2⟩
      · cases hcp
    · cases hcp
  · rename_i r n' off k'
    simp only [Rep] at hx
    obtain ⟨_, blk, h1, h2⟩ := hx
    rw [h1] at hcp
    simp only [slLen, h1] at hn
    split at hcp
    · rename_i sz' cs len e'
      injection e' with e'; subst e'
      split at hcp
      · rename_i hb
        obtain ⟨rfl, rfl, hle⟩ := hb
        injection hcp with hcp; subst hcp
        simp only [if_true, Option.some.injEq] at hn
        subst hn
        obtain ⟨arr, e1, fz, rest, us, b1, b2, b3, b4, b5, b6, b7⟩ := hs.blk r _ h1
        obtain ⟨cap, _, hv⟩ := h2.2 rfl
        subst hv
        have hul : us.length = cs.length := b4.length
        have hasz : arr.size = us.length + rest.length := by rw [← Array.length_toList, b3]; simp
        obtain ⟨q1, q2⟩ := store_owned hs h1 rfl b1 b2 (off := off) (vs := vs) (by omega) (b' := .grow sz' (cs.take off ++ ds ++ cs.drop (off + ds.length)) n')
          (.inr ⟨_, n', .inl rfl, Nat.le_refl _, fun _ => rfl⟩)
          (fun arr' c1 c2 c3 he => ⟨arr', e1, fz, rest, us.take off ++ vs ++ us.drop (off + vs.length), c1, by rw [c3]; exact b2, by
            rw [c2, b3]
            exact take_append_drop_vs (by omega), RepL.splice (b4.evo he) (g3.evo he) off, by simp; omega, b6, by rw [c3]; exact b7⟩)
        exact ⟨_, m, _, run_copy hu hz _ off _ _ g1 g2 h1c (there_of_block b1 b2 (by omega)), by simp [Rep], q1, q2⟩
      · cases hcp
    · cases hcp
  · rename_i r off k'
    simp only [Rep] at hx
    obtain ⟨_, blk, h1, h2⟩ := hx
    rw [h1] at hcp
    simp only [slLen, h1] at hn
    split at hcp
    · rename_i cs e'
      injection e' with e'; subst e'
      split at hcp
      · rename_i hle
        injection hcp with hcp; subst hcp
        simp only [Option.some.injEq] at hn
        subst hn
        obtain ⟨arr, e1, fz, b1, b2, b4⟩ := hs.blk r _ h1
        obtain ⟨cap, _, hv⟩ := h2
        subst hv
        have hasz : arr.size = cs.length := by rw [← b4.length]; simp
        obtain ⟨q1, q2⟩ := store_owned hs h1 rfl b1 b2 (off := off) (vs := vs) (by omega) (b' := .box (cs.take off ++ ds ++ cs.drop (off + ds.length)))
          (.inr ⟨_, .inl rfl, by simp; omega, rfl⟩)
          (fun arr' c1 c2 c3 he => ⟨arr', e1, fz, c1, by rw [c3]; exact b2, by
            rw [c2]
            exact RepL.splice (b4.evo he) (g3.evo he) off⟩)
        exact ⟨_, m, _, run_copy hu hz _ off _ _ g1 g2 h1c (there_of_block b1 b2 (by omega)), by simp [Rep], q1, q2⟩
      · cases hcp
    · cases hcp
  · cases hcp
end

/-! ### maps of whole numbers -/
section
variable {P : Program} {m : Mu} {h : Heap} {w : World}

theorem run_objMap {r : Nat} {es : Array MapEntry} {clock : Nat} (hb : w.heap[r]? = some (.map es clock)) : (getObj r).run P w = .ok (.map es clock) w := by
  simp [getObj, Sem.run, hb]
theorem run_setMap {r : Nat} {es : Array MapEntry} {clock : Nat} (o : Obj) (hb : w.heap[r]? = some (.map es clock)) : (setObj r o).run P w = .ok () { w with heap := w.heap.setIfInBounds r o } := by
  simp [setObj, Sem.run, hb]
theorem run_checkInt {kt : TypeId} {kk : IntKind} (hd : P.underlying kt = some (.int kk)) (v : Value) (e : Bool) (n : Nat) : (Instr.checkKey e (n + 1) kt v).run P w = .ok () w := by
  unfold Instr.checkKey
  simp only [Sem.run_bind, run_under hd w, Result.andThen_ok]
  cases v <;> simp
theorem run_findInt {kt : TypeId} {kk : IntKind} (hd : P.underlying kt = some (.int kk)) {v : Value} {l : List MapEntry} {a : Option (Nat × Value)} (hf : Instr.findNow (.int kk) v l 0 = some a) : (Instr.findKey kt v l).run P w = .ok a w := by
  simp [Instr.findKey, run_under hd w, hf]

/-- The zero of a type that is no row of cells. -/
def zero1 (P : Program) (t : TypeId) : Option D := (P.info? t).bind fun i => i.zero.bind fun z => match z with
  | .agg _ => none
  | v => some (dOfV1 v)
/-- What is found is found in memory. -/
theorem findM_now (kk k : IntKind) (n : Int) : ∀ (es : List (D × D)) (l : List MapEntry) (i : Nat) {q : Option (Nat × D)}, RepL m h w (es.map (·.1)) (l.map (·.key)) → RepL m h w (es.map (·.2)) (l.map (·.val)) → findM k n es i = some q →
    (q = none ∧ Instr.findNow (.int kk) (.int k n) l i = some none) ∨ ∃ j d u e, q = some (i + j, d) ∧ Instr.findNow (.int kk) (.int k n) l i = some (some (i + j, u)) ∧ Rep m h w d u ∧ l[j]? = some e ∧ e.key = .int k n
  | [], l, i, q, h1, h2, hf => by
    simp only [List.map_nil, RepL, List.map_eq_nil_iff] at h1
    subst h1
    simp only [findM, Option.some.injEq] at hf
    exact .inl ⟨hf.symm, rfl⟩
  | e :: es, l, i, q, h1, h2, hf => by
    cases l with
    | nil => simp only [List.map_cons, List.map_nil, RepL] at h1; obtain ⟨_, _, hc, _⟩ := h1; cases hc
    | cons x l =>
      simp only [List.map_cons, RepL, List.cons.injEq] at h1 h2
      obtain ⟨_, _, ⟨rfl, rfl⟩, h3, h4⟩ := h1
      obtain ⟨_, _, ⟨rfl, rfl⟩, h5, h6⟩ := h2
      unfold findM at hf
      split at hf
      · rename_i k' n' he
        rw [he] at h3
        simp only [Rep] at h3
        split at hf
        · rename_i hk
          subst hk
          by_cases hn : n = n'
          · rw [if_pos hn] at hf
            simp only [Option.some.injEq] at hf
            subst hf; subst hn
            exact .inr ⟨0, e.2, x.val, x, by simp, by simp [Instr.findNow, h3, Instr.sameNow], h5, rfl, h3⟩
          · rw [if_neg hn] at hf
            have hstep : Instr.findNow (.int kk) (.int k n) (x :: l) i = Instr.findNow (.int kk) (.int k n) l (i + 1) := by
              have : (n == n') = false := by simpa using hn
              simp [Instr.findNow, h3, Instr.sameNow, this]
            rcases findM_now kk k n es l (i + 1) h4 h6 hf with ⟨rfl, g⟩ | ⟨j, d, u, y, rfl, g1, g2, g3, g4⟩
            · exact .inl ⟨rfl, by rw [hstep, g]⟩
            · exact .inr ⟨j + 1, d, u, y, by rw [show i + 1 + j = i + (j + 1) by omega], by rw [hstep, g1, show i + 1 + j = i + (j + 1) by omega], g2, by simpa using g3, g4⟩
        · cases hf
      · cases hf

theorem mapEs_spec (hs : HSim m h w) {x : D} {v : Value} (hx : Rep m h w x v) {es : List (D × D)} (he : mapEs h x = some es) :
    (x = .nilm ∧ es = [] ∧ v = .map none) ∨ ∃ r arr clock, x = .mref r ∧ h[r]? = some (.mapb es) ∧ v = .map (some (m r).1) ∧ w.heap[(m r).1]? = some (.map arr clock) ∧ RepL m h w (es.map (·.1)) (arr.toList.map (·.key)) ∧ RepL m h w (es.map (·.2)) (arr.toList.map (·.val)) := by
  unfold mapEs at he
  split at he
  · simp only [Option.some.injEq] at he
    simp only [Rep] at hx
    exact .inl ⟨rfl, he.symm, hx⟩
  · rename_i r
    split at he
    · rename_i es' hb
      simp only [Option.some.injEq] at he
      subst he
      simp only [Rep] at hx
      obtain ⟨_, blk, g1, g2⟩ := hx
      rw [hb] at g1
      simp only [Option.some.injEq] at g1
      subst g1
      obtain ⟨arr, clock, k1, k2, k3⟩ := hs.blk r _ hb
      exact .inr ⟨r, arr, clock, rfl, hb, g2, k1, k2, k3⟩
    · cases he
  · cases he

theorem y_mkmap (hs : HSim m h w) {t : TypeId} : Yld P (Instr.makeMap t none) m h w (.mref h.length) (h ++ [.mapb []]) := by
  have h5 : ∀ k, k < w.heap.size → (w.alloc (.map #[] 0)).heap[k]? = w.heap[k]? := fun k hk => by
    simp [World.alloc, -World.alloc_eq, Array.getElem?_push, Nat.ne_of_lt hk]
  have h4 : w.heap.size ≤ (w.alloc (.map #[] 0)).heap.size := by simp [World.alloc, -World.alloc_eq]
  have he := evo_new hs (.mapb []) (w.heap.size, 0) (Nat.le_refl _) (w' := w.alloc (.map #[] 0)) rfl rfl rfl h4 h5
  have hh := hsim_new hs (.mapb []) (w.heap.size, 0) (Nat.le_refl _) (w' := w.alloc (.map #[] 0)) rfl rfl rfl h4 h5 ⟨#[], 0, by rw [muSet_same]; simp [World.alloc, -World.alloc_eq], by simp [RepL], by simp [RepL]⟩
  refine ⟨.map (some w.heap.size), _, w.alloc (.map #[] 0), rfl, ?_, hh, he⟩
  simp only [Rep]
  exact ⟨⟨(w.heap.size, 0), rfl⟩, _, get_new h _, by simp [RefV, isMap, muSet_same]⟩

theorem y_mapget (hs : HSim m h w) {t kt et : TypeId} {kk : IntKind} (hu : P.underlying t = some (.map kt et)) (hk : P.underlying kt = some (.int kk)) {z : D} (hz : zero1 P et = some z) {x : D} {v : Value} (hx : Rep m h w x v) {k : IntKind} {n : Int}
    {es : List (D × D)} (he : mapEs h x = some es) {q : Option (Nat × D)} (hf : findM k n es 0 = some q) : Yld P (Instr.lookup t v (.int k n) false) m h w (foundM z q) h := by
  have hzero : ∃ zv : Value, (zeroValue et).run P w = .ok zv w ∧ Rep m h w z zv := by
    simp only [zero1, Option.bind_eq_some_iff] at hz
    obtain ⟨i, hi, zv, hz, hz2⟩ := hz
    refine ⟨zv, by simp [zeroValue, typeInfo, hi, hz], ?_⟩
    cases zv <;> first | (cases hz2; done) | (simp only [Option.some.injEq] at hz2; subst hz2; exact rep_dOfV1 m h w _)
  obtain ⟨zv, z1, z2⟩ := hzero
  rcases mapEs_spec hs hx he with ⟨rfl, rfl, rfl⟩ | ⟨r, arr, clock, rfl, g1, rfl, g2, g3, g4⟩
  · simp only [findM, Option.some.injEq] at hf
    subst hf
    refine Yld.pure (v := zv) hs ?_ z2
    have hfn : Instr.findNow (.int kk) (.int k n) ([] : List MapEntry) 0 = some none := rfl
    simp [Instr.lookup, run_under hu w, run_checkInt hk, run_findInt hk hfn, z1]
  · rcases findM_now kk k n es arr.toList 0 g3 g4 hf with ⟨rfl, f1⟩ | ⟨j, d, u, e, rfl, f1, f2, f3, f4⟩
    · refine Yld.pure (v := zv) hs ?_ z2
      simp [Instr.lookup, run_under hu w, run_objMap g2, run_checkInt hk, run_findInt hk f1, z1]
    · refine Yld.pure (v := u) hs ?_ f2
      simp [Instr.lookup, run_under hu w, run_objMap g2, run_checkInt hk, run_findInt hk f1]

theorem map_modify {α β : Type} (f : α → β) (g : α → α) (b : β) (hg : ∀ a, f (g a) = b) : ∀ (l : List α) (i : Nat), (l.modify i g).map f = (l.map f).set i b
  | [], i => by cases i <;> simp
  | a :: l, 0 => by simp [hg]
  | a :: l, i + 1 => by simp [map_modify f g b hg l i]
theorem y_mapset (hs : HSim m h w) {t kt et : TypeId} {kk : IntKind} (hu : P.underlying t = some (.map kt et)) (hk : P.underlying kt = some (.int kk)) {r : Nat} {v y : D} {vm vy : Value} (hx : Rep m h w (.mref r) vm) (hy : Rep m h w y vy) {k : IntKind} {n : Int}
    {es : List (D × D)} (he : mapEs h (.mref r) = some es) {q : Option (Nat × D)} (hf : findM k n es 0 = some q) :
    ∃ w', (Instr.mapUpdate t vm (.int k n) vy).run P w = .ok () w' ∧ HSim m (h.set r (.mapb (putM es (.int k n, y) q))) w' ∧ Evo m h w m (h.set r (.mapb (putM es (.int k n, y) q))) w' := by
  rcases mapEs_spec hs hx he with ⟨hc, _⟩ | ⟨r', arr, clock, hr', g1, rfl, g2, g3, g4⟩
  · cases hc
  injection hr' with hr'
  subst hr'
  have hlt : (m r).1 < w.heap.size := (Array.getElem?_eq_some_iff.1 g2).1
  have main : ∀ (arr' : Array MapEntry) (clock' : Nat) (es' : List (D × D)), RepL m h w (es'.map (·.1)) (arr'.toList.map (·.key)) → RepL m h w (es'.map (·.2)) (arr'.toList.map (·.val)) →
      HSim m (h.set r (.mapb es')) { w with heap := w.heap.setIfInBounds (m r).1 (.map arr' clock') } ∧ Evo m h w m (h.set r (.mapb es')) { w with heap := w.heap.setIfInBounds (m r).1 (.map arr' clock') } := by
    intro arr' clock' es' e1 e2
    have h5 : ∀ i, i < w.heap.size → i ≠ (m r).1 → (w.heap.setIfInBounds (m r).1 (.map arr' clock'))[i]? = w.heap[i]? := fun i _ hi => by simp [Ne.symm hi]
    have hev := evo_set (w := w) (w' := { w with heap := w.heap.setIfInBounds (m r).1 (.map arr' clock') }) g1 rfl (m r) (.inl rfl) (b' := .mapb es') (by rw [muSet_self]; exact .inr ⟨es', rfl, rfl⟩) rfl rfl rfl (by simp) h5
    have hh := hsim_set (w := w) (w' := { w with heap := w.heap.setIfInBounds (m r).1 (.map arr' clock') }) hs g1 rfl (m r) (.inl rfl) (b' := .mapb es') (by rw [muSet_self]; exact .inr ⟨es', rfl, rfl⟩) rfl rfl rfl (by simp) h5
      (by rw [muSet_self] at hev ⊢; exact ⟨arr', clock', by simp [hlt], e1.evo hev, e2.evo hev⟩)
    rw [muSet_self] at hev hh
    exact ⟨hh, hev⟩
  rcases findM_now kk k n es arr.toList 0 g3 g4 hf with ⟨rfl, f1⟩ | ⟨j, d, u, e, rfl, f1, f2, f3, f4⟩
  · obtain ⟨q1, q2⟩ := main (arr.push { key := .int k n, val := vy, born := clock }) (clock + 1) (es ++ [(.int k n, y)])
      (by simp only [List.map_append, Array.toList_push, List.map_cons, List.map_nil]; exact RepL.append g3 (by simp only [RepL]; exact ⟨_, _, rfl, by simp [Rep], rfl⟩))
      (by simp only [List.map_append, Array.toList_push, List.map_cons, List.map_nil]; exact RepL.append g4 (by simp only [RepL]; exact ⟨_, _, rfl, hy, rfl⟩))
    exact ⟨_, by simp [Instr.mapUpdate, run_under hu w, run_objMap g2, run_checkInt hk, run_findInt hk f1, run_setMap _ g2], q1, q2⟩
  · rw [Nat.zero_add] at *
    have hj : arr[j]? = some e := by simpa using f3
    have hkey : (Instr.keyThatStays (.int k n) (.int k n)).run P w = .ok (.int k n) w := by simp [Instr.keyThatStays, Instr.sameBits]
    obtain ⟨q1, q2⟩ := main (arr.modify j fun e => { e with key := .int k n, val := vy }) clock (es.set j (.int k n, y))
      (by rw [Array.toList_modify, map_modify (fun x : MapEntry => x.key) (fun e => { e with key := .int k n, val := vy }) (.int k n) (fun _ => rfl) arr.toList j, List.map_set]; exact g3.set j (by simp [Rep]))
      (by rw [Array.toList_modify, map_modify (fun x : MapEntry => x.val) (fun e => { e with key := .int k n, val := vy }) vy (fun _ => rfl) arr.toList j, List.map_set]; exact g4.set j hy)
    exact ⟨_, by simp [Instr.mapUpdate, run_under hu w, run_objMap g2, run_checkInt hk, run_findInt hk f1, hj, f4, hkey, run_setMap _ g2], q1, q2⟩

theorem y_maplen (hs : HSim m h w) {t ty kt et : TypeId} (hu : P.underlying t = some (.map kt et)) {x : D} {v : Value} (hx : Rep m h w x v) {es : List (D × D)} (he : mapEs h x = some es) :
    Yld P (Builtin.len_ #[t] ty #[v]) m h w (.int .i64 (es.length : Int)) h := by
  rcases mapEs_spec hs hx he with ⟨rfl, rfl, rfl⟩ | ⟨r, arr, clock, rfl, g1, rfl, g2, g3, g4⟩
  · exact Yld.pure (v := .int .i64 0) hs (by simp [Builtin.len_, run_under hu w, goInt]) (by simp [Rep])
  · have hl : arr.size = es.length := by
      have := g3.length
      simpa using this
    exact Yld.pure (v := .int .i64 es.length) hs (by simp [Builtin.len_, run_under hu w, run_objMap g2, goInt, hl]) (by simp [Rep])
end

/-! ### code with its types worked in -/
def caos : List Operand → Option (List AO)
  | [] => some []
  | x :: xs => (cao x).bind fun a => (caos xs).map fun l => a :: l
def caoO : Option Operand → Option (Option AO)
  | none => some none
  | some x => (cao x).map some
def caoParts (place : Nat → Option (Nat × Nat)) : List (Nat × Operand) → Option (List (Nat × Nat × AO))
  | [] => some []
  | (i, x) :: xs => (place i).bind fun p => (cao x).bind fun a => (caoParts place xs).map fun l => (p.1, p.2, a) :: l

/-- Where a struct's fields lie, and how many cells they have. -/
def fieldPlaces (P : Program) : List Field → Option (List (Nat × Nat))
  | [] => some []
  | f :: fs => (szOf P f.type).bind fun s => (fieldPlaces P fs).map fun l => (f.offset, s) :: l

/-- Is it the nil of such a type? -/
def nilConst : TypeDesc → Operand → Bool
  | .pointer _, .const (.pointer none) => true
  | .slice _, .const (.slice none 0 0) => true
  | .func .., .const .nilFunc => true
  | .interface _, .const .nilIface => true
  | _, _ => false
def tdSort : TypeDesc → Nat
  | .pointer _ => 1
  | .slice _ => 2
  | .func .. => 3
  | .interface _ => 4
  | _ => 5

def isNeq : BinOp → Bool
  | .neq => true
  | _ => false

def cEq (P : Program) (op : BinOp) (t : TypeId) (x y : Operand) : Option AOp :=
  match P.underlying t with
  | some (.int _) | some .string => (cao x).bind fun a => (cao y).map fun b => .bin op a b
  | some .bool => (cao x).bind fun a => (cao y).map fun b => .eqb (isNeq op) a b
  | some (.struct _) | some (.array _ _) => (eqKs P t).bind fun ks => (agOf P t).bind fun ag => if ag.isSome = true then (cao x).bind fun a => (cao y).map fun b => .eqa (isNeq op) ks a b else none
  | some td => if nilConst td y = true then (cao x).map fun a => .isnil (isNeq op) (tdSort td) a else if nilConst td x = true then (cao y).map fun b => .isnil (isNeq op) (tdSort td) b else none
  | none => none

/-- An operation, with its types worked in. -/
def cop (P : Program) (o : Op) (ty : TypeId) : Option AOp :=
  match o with
  | .move x | .assign x => (cao x).map .mv
  | .pick c a b => (cao c).bind fun c => (cao a).bind fun a => (cao b).map fun b => .pick c a b
  | .alloc t => (zeroOf P t).map .alloc
  | .box _ x => (cao x).map .box
  | .build t parts => match P.underlying t with
    | some (.struct fields) => (zeroOf P t).bind fun z => (fieldPlaces P fields.toList).bind fun pl => (caoParts (fun i => pl[i]?) parts.toList).map fun l => .build z l
    | some (.array _ e) => (zeroOf P t).bind fun z => (szOf P e).bind fun sz => (caoParts (fun i => some (i * sz, sz)) parts.toList).map fun l => .build z l
    | _ => none
  | .buildSlice t len parts => match P.underlying t with
    | some (.slice e) => (zeroOf P e).bind fun z => (szOf P e).bind fun sz => if z.length = sz ∧ len * sz ≤ 16777216 then (caoParts (fun i => some (i * sz, sz)) parts.toList).map fun l => .bslice sz (List.replicate len z).flatten len l else none
    | _ => none
  | .load t x => (agOf P t).bind fun ag => (cao x).map fun a => .load ag a
  | .store t x y => (szOf P t).bind fun n => (cao x).bind fun a => (cao y).map fun b => .store n a b
  | .nilCheck x => (cao x).map .nilchk
  | .binOp op t x y _ => match op with
    | .eql | .neq => cEq P op t x y
    | op => (cao x).bind fun a => (cao y).map fun b => .bin op a b
  | .unOp op _ x => (cao x).map fun a => .un op a
  | .convert src dst x => match P.underlying src, P.underlying dst with
    | some _, some (.int k) => (cao x).map fun a => .conv k a
    | some (.slice e), some .string => match P.underlying e with
      | some (.int .u8) => (cao x).map .b2s
      | _ => none
    | some .string, some (.slice e) => match P.underlying e with
      | some (.int .u8) => (cao x).map .s2b
      | _ => none
    | _, _ => none
  | .makeFunc f first cap => (caos first.toList).bind fun a => (caos cap.toList).map fun b => .mkfn f a b
  | .makeSlice t l c => match P.underlying t with
    | some (.slice e) => (zeroOf P e).bind fun z => (szOf P e).bind fun sz => (byOf P e).bind fun by_ => if z.length = sz then (cao l).bind fun a => (cao c).map fun b => .mks sz by_ z a b else none
    | _ => none
  | .slice t x lo hi mx => match P.underlying t, mx with
    | some (.slice e), none => (szOf P e).bind fun sz => (cao x).bind fun a => (caoO lo).bind fun l => (caoO hi).map fun r => .slc sz a l r
    | some (.slice e), some (.const (.int _ 0)) => match lo, hi with
      | none, some (.const (.int _ 0)) => (szOf P e).bind fun sz => (cao x).map fun a => .slc0 sz a
      | _, _ => none
    | some .string, none => (cao x).bind fun a => (caoO lo).bind fun l => (caoO hi).map fun r => .sstr a l r
    | some (.array n e), none => (szOf P e).bind fun sz => (cao x).bind fun a => (caoO lo).bind fun l => (caoO hi).map fun r => .sarr n sz a l r
    | _, _ => none
  | .fieldAddr t x f => match P.underlying t with
    | some (.struct fields) => (fields[f]?).bind fun fd => (szOf P fd.type).bind fun sz => if sz = 0 then none else (cao x).map fun a => .faddr fd.offset a
    | _ => none
  | .field t x f => match P.underlying t with
    | some (.struct fields) => (fields[f]?).bind fun fd => (agOf P fd.type).bind fun ag => (cao x).map fun a => .fld fd.offset ag a
    | _ => none
  | .indexAddr t x i => match P.underlying t with
    | some (.slice e) => (szOf P e).bind fun sz => (cao x).bind fun a => (cao i).map fun b => .ixs sz a b
    | some (.array n e) => (szOf P e).bind fun sz => (cao x).bind fun a => (cao i).map fun b => .ixa n sz a b
    | _ => none
  | .index t x i => match P.underlying t with
    | some .string => (cao x).bind fun a => (cao i).map fun b => .ixstr a b
    | some (.array n e) => (szOf P e).bind fun sz => (agOf P e).bind fun ag => (cao x).bind fun a => (cao i).map fun b => .ixv n sz ag a b
    | _ => none
  | .sliceToArrayPointer t x => match P.underlying t with
    | some (.array n e) => if 1 ≤ n then (szOf P e).bind fun sz => (cao x).map fun a => .s2a n sz a else none
    | _ => none
  | .extract x i => (cao x).map fun a => .ext a i
  | .makeMap _ none => some .mkmap
  | .lookup t x i false => match P.underlying t with
    | some (.map kt et) => match P.underlying kt, zero1 P et with
      | some (.int _), some z => (cao x).bind fun a => (cao i).map fun b => .mapget z a b
      | _, _ => none
    | _ => none
  | .mapUpdate t x i y => match P.underlying t with
    | some (.map kt _) => match P.underlying kt with
      | some (.int _) => (cao x).bind fun a => (cao i).bind fun b => (cao y).map fun c => .mapset a b c
      | _ => none
    | _ => none
  | .call ⟨.builtin .len, args, tys⟩ => match args.toList, tys.toList with
    | [x], [t] => match P.underlying t with
      | some .string => (cao x).map fun a => .len true a
      | some (.slice _) => (cao x).map fun a => .len false a
      | some (.array n _) => some (.lit (.int .i64 n))
      | some (.map _ _) => (cao x).map .maplen
      | _ => none
    | _, _ => none
  | .call ⟨.builtin .append, args, tys⟩ => match args.toList, tys.toList with
    | [x, y], [t, tx] => match P.underlying t, P.underlying tx with
      | some (.slice e), some (.slice _) => (zeroOf P e).bind fun z => (szOf P e).bind fun sz => (byOf P e).bind fun by_ => if z.length = sz then (cao x).bind fun a => (cao y).map fun b => .append false sz by_ a b else none
      | some (.slice e), some .string => (zeroOf P e).bind fun z => (szOf P e).bind fun sz => (byOf P e).bind fun by_ => if z.length = sz then (cao x).bind fun a => (cao y).map fun b => .append true sz by_ a b else none
      | _, _ => none
    | _, _ => none
  | .call ⟨.builtin .copy, args, tys⟩ => match args.toList, tys.toList with
    | [x, y], [t, _] => match P.underlying t with
      | some (.slice e) => (szOf P e).bind fun sz => (cao x).bind fun a => (cao y).map fun b => .copy sz a b
      | _ => none
    | _, _ => none
  | .call ⟨.builtin .min, args, _⟩ => match args.toList with
    | [x, y] => (cao x).bind fun a => (cao y).map fun b => .mnx false a b
    | _ => none
  | .call ⟨.builtin .max, args, _⟩ => match args.toList with
    | [x, y] => (cao x).bind fun a => (cao y).map fun b => .mnx true a b
    | _ => none
  | _ => none

end Go.YtodlpcoffmnmbaaDoor
