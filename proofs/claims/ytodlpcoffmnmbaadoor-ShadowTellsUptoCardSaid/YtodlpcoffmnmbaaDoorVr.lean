/-
  Own work. The value machine, part R: what a function hands back.
-/
import Derived.Test.YtodlpcoffmnmbaaDoorVq
namespace Go.YtodlpcoffmnmbaaDoor
open Go
set_option linter.unusedVariables false
set_option linter.unusedSimpArgs false

def packD : List D → D
  | [d] => d
  | ds => .tup ds

/-- What is handed back, and of the blocks what the caller is told. -/
def FinOk (h0 heap : Heap) (ds : List D) (R : D → Heap → Prop) : Prop :=
  ∀ (m0 m : Mu) (w0 w : World) (vs : List Value), HSim m0 h0 w0 → HSim m heap w → Evo m0 h0 w0 m heap w → RepL m heap w ds vs →
    ∃ (m' : Mu) (ds' : List D) (h' : Heap), RepL m' h' w ds' vs ∧ HSim m' h' w ∧ Evo m0 h0 w0 m' h' w ∧ R (packD ds') h'

theorem FinOk.all {h0 heap : Heap} {ds : List D} {R : D → Heap → Prop} (h : R (packD ds) heap) : FinOk h0 heap ds R :=
  fun m0 m w0 w vs _ h2 h3 h4 => ⟨m, ds, heap, h4, h2, h3, h⟩

/-- Nothing new is handed back. -/
theorem FinOk.drop {h0 h' loc : Heap} {ds : List D} {R : D → Heap → Prop} (hk : h' = h0 ∨ (h'.length = h0.length ∧ ∀ b ∈ h', underB h'.length b = true)) (hu : underL h'.length ds = true) (h : R (packD ds) h') : FinOk h0 (h' ++ loc) ds R := by
  intro m0 m w0 w vs h1 h2 h3 h4
  obtain ⟨m', q1, q2, q3, _⟩ := part_sound (rs := []) (bs := []) h1 h2 h3 hk List.nodup_nil rfl (by intro i r b hi; simp at hi)
  rw [List.append_nil] at q1 q2 q3
  exact ⟨m', ds, h', RepL.part q1 hu h4, q2, q3, h⟩

/-- One new slice is handed back. -/
theorem FinOk.one {h0 h' loc : Heap} {pre post : List D} {r n sz n' : Nat} {cs : List D} {R : D → Heap → Prop} (hk : h' = h0 ∨ (h'.length = h0.length ∧ ∀ b ∈ h', underB h'.length b = true)) (hr : h'.length ≤ r) (hb : loc[r - h'.length]? = some (.grow sz cs n'))
    (hc : underL h'.length cs = true) (h1 : underL h'.length pre = true) (h2 : underL h'.length post = true) (h : R (packD (pre ++ .own h'.length n :: post)) (h' ++ [.grow sz cs n'])) : FinOk h0 (h' ++ loc) (pre ++ .own r n :: post) R := by
  intro m0 m w0 w vs g1 g2 g3 g4
  have hbr : (h' ++ loc)[r]? = some (.grow sz cs n') := by rw [List.getElem?_append_right hr]; exact hb
  obtain ⟨m', q1, q2, q3, q4⟩ := part_sound (rs := [r]) (bs := [.grow sz cs n']) g1 g2 g3 hk (by simp) rfl (by
    intro i x b hi hbi
    have : i = 0 := by
      have := (List.getElem?_eq_some_iff.1 hi).1
      simp at this; exact this
    subst this
    simp only [List.getElem?_cons_zero, Option.some.injEq] at hi hbi
    subst hi; subst hbi
    exact ⟨hr, hbr, hc⟩)
  refine ⟨m', _, _, ?_, q2, q3, h⟩
  have split : ∀ (pre : List D) (vs : List Value), underL h'.length pre = true → RepL m (h' ++ loc) w (pre ++ .own r n :: post) vs → RepL m' (h' ++ [.grow sz cs n']) w (pre ++ .own h'.length n :: post) vs := by
    intro pre
    induction pre with
    | nil =>
      intro vs _ hv
      simp only [List.nil_append, RepL] at hv ⊢
      obtain ⟨u, us, rfl, c1, c2⟩ := hv
      refine ⟨u, us, rfl, ?_, RepL.part q1 h2 c2⟩
      simp only [Rep] at c1 ⊢
      obtain ⟨c0, b, c3, c4⟩ := c1
      rw [hbr] at c3
      injection c3 with c3
      subst c3
      obtain ⟨c5, c6⟩ := c4
      have hq4 := q4 0 r rfl
      rw [Nat.add_zero] at hq4
      have hown : OwnV m' h'.length n (isOwn n u) (.grow sz cs n') := ⟨c5, fun e => by rw [hq4]; exact c6 e⟩
      exact ⟨c0, _, by rw [List.getElem?_append_right (Nat.le_refl _), Nat.sub_self]; rfl, hown⟩
    | cons d pre ih =>
      intro vs hu hv
      simp only [underL, Bool.and_eq_true] at hu
      simp only [List.cons_append, RepL] at hv ⊢
      obtain ⟨u, us, rfl, c1, c2⟩ := hv
      exact ⟨u, us, rfl, Rep.part q1 hu.1 c1, ih us hu.2 c2⟩
  exact split pre vs h1 g4

/-! ### results -/
inductive ARes where
  | tmp (t : Nat)
  | cell (a : Nat) (ag : Option Nat)

def cres (P : Program) : List ResultVar → Option (List ARes)
  | [] => some []
  | .tmp t :: rs => (cres P rs).map fun l => .tmp t :: l
  | .cell a t :: rs => (agOf P t).bind fun ag => (cres P rs).map fun l => .cell a ag :: l

def resD : List ARes → St → Option (List D)
  | [], _ => some []
  | .tmp t :: rs, st => (resD rs st).map fun l => st.t.getD t .any :: l
  | .cell a ag :: rs, st => (ptrCells st.h (st.t.getD a .any)).bind fun cs => (loadCs ag cs).bind fun d => (resD rs st).map fun l => d :: l

theorem run_results {P : Program} {B : Nat} {m : Mu} {st : St} {a : Act} {w : World} (hs : Sim B m st a w) : ∀ (rs : List ResultVar) (ars : List ARes) (ds : List D), cres P rs = some ars → resD ars st = some ds →
    ∀ acc : Array Value, ∃ vs, (rs.foldlM (fun (acc : Array Value) (r : ResultVar) => acc.push <$> (match r with | .tmp t => pure (a.tmps.getD t undef) | .cell x t => do loadVar t (← asAddr (a.tmps.getD x undef)) : Sem Value)) acc).run P w = .ok (acc ++ vs.toArray) w ∧ RepL m st.h w ds vs
  | [], ars, ds, hc, hd, acc => by
    simp only [cres, Option.some.injEq] at hc
    subst hc
    simp only [resD, Option.some.injEq] at hd
    subst hd
    exact ⟨[], by simp, by simp [RepL]⟩
  | .tmp t :: rs, ars, ds, hc, hd, acc => by
    simp only [cres, Option.map_eq_some_iff] at hc
    obtain ⟨l, h1, rfl⟩ := hc
    simp only [resD, Option.map_eq_some_iff] at hd
    obtain ⟨dl, h2, rfl⟩ := hd
    obtain ⟨vs, h3, h4⟩ := run_results hs rs l dl h1 h2 (acc.push (a.tmps.getD t undef))
    refine ⟨a.tmps.getD t undef :: vs, ?_, ?_⟩
    · simp only [List.foldlM_cons, Sem.run_bind, Sem.run_map, Sem.run_pure, Result.andThen_ok, h3]
      congr 1
      apply Array.ext'
      simp
    · simp only [RepL]
      have := rep_ev hs.heap hs.tmps (x := .tmp t) (ao := .t t) rfl
      exact ⟨_, _, rfl, this, h4⟩
  | .cell x t :: rs, ars, ds, hc, hd, acc => by
    simp only [cres, Option.bind_eq_some_iff, Option.map_eq_some_iff] at hc
    obtain ⟨ag, h0, l, h1, rfl⟩ := hc
    simp only [resD, Option.bind_eq_some_iff, Option.map_eq_some_iff] at hd
    obtain ⟨cs, h2, d, h3, dl, h4, rfl⟩ := hd
    have hr := rep_ev hs.heap hs.tmps (x := .tmp x) (ao := .t x) rfl
    obtain ⟨b, off, hv, hl⟩ := ptr_lies hs.heap (d := st.t.getD x .any) hr h2
    obtain ⟨u, h5, h6⟩ := run_loadVar_D (P := P) h0 hl h3
    obtain ⟨vs, h7, h8⟩ := run_results hs rs l dl h1 h4 (acc.push u)
    refine ⟨u :: vs, ?_, ?_⟩
    · have hv' : a.tmps.getD x undef = .pointer (some ⟨b, off, none⟩) := hv
      have hadr : (asAddr (a.tmps.getD x undef)).run P w = .ok ⟨b, off, none⟩ w := by rw [hv']; rfl
      simp only [List.foldlM_cons, Sem.run_bind, Sem.run_map, Sem.run_pure, Result.andThen_ok, hadr, h5]
      rw [h7]
      congr 1
      apply Array.ext'
      simp
    · simp only [RepL]
      exact ⟨_, _, rfl, h6, h8⟩

/-- A function with its types worked in. -/
structure CF where
  code : AC
  res : List ARes
  n : Nat
def cfun (P : Program) (f : FuncId) : Option CF :=
  match P.funcs[f]? with
  | some fn => if fn.name == "runtime.NumGoroutine" then none else fn.body.bind fun b => (comp P b).bind fun c => (cres P fn.results.toList).map fun r => ⟨c, r, fn.ntmps⟩
  | none => none

def endA (rs : List ARes) (h0 : Heap) (R : D → Heap → Prop) : Exit → St → Prop
  | .normal, st | .ret, st => ∃ ds, resD rs st = some ds ∧ FinOk h0 st.h ds R
  | _, _ => False

/-! ### marks -/
section
variable {m : Mu} {ah : Heap} {w w' : World}
 mutual
theorem Rep.cells (hc : ∀ a u, w.cell? a = some u → w'.cell? a = some u) : ∀ {d : D} {v : Value}, Rep m ah w d v → Rep m ah w' d v
  | .any, _, _ => by simp only [Rep]
  | .bool _, _, h => by simp only [Rep] at *; exact h
  | .int _ _, _, h => by simp only [Rep] at *; exact h
  | .str _, _, h => by simp only [Rep] at *; exact h
  | .nilp, _, h => by simp only [Rep] at *; exact h
  | .fptr cs, v, h => by simp only [Rep] at *; obtain ⟨a, h1, h2, h3⟩ := h; exact ⟨a, h1, h2, RepAt.cells hc h3⟩
  | .ref _ _, _, h => by simp only [Rep] at *; exact h
  | .nils, _, h => by simp only [Rep] at *; exact h
  | .sl cs n full, v, h => by simp only [Rep] at *; obtain ⟨a, cap, h1, h2, h3, h4, h5⟩ := h; exact ⟨a, cap, h1, h2, h3, h4, RepAt.cells hc h5⟩
  | .own _ _, _, h => by simp only [Rep] at *; exact h
  | .eref _ _ _, _, h => by simp only [Rep] at *; exact h
  | .osl _ _ _ _, _, h => by simp only [Rep] at *; exact h
  | .bsl _ _ _, _, h => by simp only [Rep] at *; exact h
  | .agg cs, v, h => by simp only [Rep] at *; obtain ⟨vs, h1, h2⟩ := h; exact ⟨vs, h1, RepL.cells hc h2⟩
  | .tup cs, v, h => by simp only [Rep] at *; obtain ⟨vs, h1, h2⟩ := h; exact ⟨vs, h1, RepL.cells hc h2⟩
  | .fn f a b, v, h => by simp only [Rep] at *; obtain ⟨vs, us, h1, h2, h3⟩ := h; exact ⟨vs, us, h1, RepL.cells hc h2, RepL.cells hc h3⟩
  | .nilf, _, h => by simp only [Rep] at *; exact h
  | .iface t d, v, h => by simp only [Rep] at *; obtain ⟨u, h1, h2⟩ := h; exact ⟨u, h1, Rep.cells hc h2⟩
  | .nili, _, h => by simp only [Rep] at *; exact h
  | .nilm, _, h => by simp only [Rep] at *; exact h
  | .yv _, _, h => by simp only [Rep] at *; exact h
  | .mref _, _, h => by simp only [Rep] at *; exact h
theorem RepAt.cells (hc : ∀ a u, w.cell? a = some u → w'.cell? a = some u) : ∀ {ds : List D} {b off : Nat}, RepAt m ah w ds b off → RepAt m ah w' ds b off
  | [], _, _, _ => by simp only [RepAt]
  | d :: ds, b, off, h => by
    simp only [RepAt] at *
    obtain ⟨h1, ⟨u, h2, h3⟩, h4⟩ := h
    exact ⟨h1, ⟨u, hc _ _ h2, Rep.cells hc h3⟩, RepAt.cells hc h4⟩
theorem RepL.cells (hc : ∀ a u, w.cell? a = some u → w'.cell? a = some u) : ∀ {ds : List D} {vs : List Value}, RepL m ah w ds vs → RepL m ah w' ds vs
  | [], _, h => by simp only [RepL] at *; exact h
  | d :: ds, vs, h => by
    simp only [RepL] at *
    obtain ⟨u, us, h1, h2, h3⟩ := h
    exact ⟨u, us, h1, Rep.cells hc h2, RepL.cells hc h3⟩
 end

theorem cell_shut {D : Nat} (hd : w.heap[D]? = some (.deferred (some []))) (o : Obj) : ∀ a u, w.cell? a = some u → (w.putObj D o).cell? a = some u := by
  intro a u h
  by_cases e : a.block = D
  · exfalso
    obtain ⟨b, off, sp⟩ := a
    simp only at e
    subst e
    simp [World.cell?, hd] at h
  · rw [← h]
    simp only [World.cell?]
    rw [World.putObj_heap_other e]

theorem hsim_shut {D : Nat} (hs : HSim m ah w) (hd : w.heap[D]? = some (.deferred (some []))) (ho : ¬ Owned m ah D) (o : Obj) : HSim m ah (w.putObj D o) := by
  have hc := cell_shut hd o
  refine ⟨hs.inj, fun r b hr => ?_, fun p hp => (hs.glob p hp).cells hc⟩
  have hb := hs.blk r b hr
  have hk : b.owned = true → (w.putObj D o).heap[(m r).1]? = w.heap[(m r).1]? := fun e => World.putObj_heap_other fun e2 => ho ⟨r, b, hr, e, e2⟩
  cases b with
  | free => trivial
  | dead => trivial
  | box cs => obtain ⟨arr, e, fz, c1, c2, c3⟩ := hb; exact ⟨arr, e, fz, by rw [hk rfl]; exact c1, c2, c3.cells hc⟩
  | grow sz cs n => obtain ⟨arr, e, fz, rest, us, c1, c2, c3, c4, c5, c6, c7⟩ := hb; exact ⟨arr, e, fz, rest, us, by rw [hk rfl]; exact c1, c2, c3, c4.cells hc, c5, c6, c7⟩
  | ice sz cs n => obtain ⟨c1, c2, c3⟩ := hb; exact ⟨c1.cells hc, c2, c3⟩
  | icebox cs => exact RepAt.cells hc hb
  | recb s T ps as bd pe => obtain ⟨fn, tmps, df, c1, c2⟩ := hb; exact ⟨fn, tmps, df, by rw [hk rfl]; exact c1, c2.cells hc⟩
  | mapb es => obtain ⟨arr, cl, c1, c2, c3⟩ := hb; exact ⟨arr, cl, by rw [hk rfl]; exact c1, c2.cells hc, c3.cells hc⟩

theorem evo_shut {m0 : Mu} {h0 : Heap} {w0 : World} {D : Nat} (he : Evo m0 h0 w0 m ah w) (hD : w0.heap.size ≤ D) (o : Obj) : Evo m0 h0 w0 m ah (w.putObj D o) :=
  ⟨he.os, he.tape, he.output, by simpa using he.size, fun b hb ho => ⟨(he.keep b hb ho).1, by rw [World.putObj_heap_other (by omega)]; exact (he.keep b hb ho).2⟩, he.blk⟩
end

theorem leaves_marks {P : Program} {fn : Func} {tmps : Array Value} {T : List D} {R : Ending → World → Prop} {m m' : Mu} {h h' : Heap} {w : World}
    (fin : ∀ w'', RepL m' h' w'' T tmps.toList → HSim m' h' w'' → Evo m h w m' h' w'' → ∃ v, (results fn tmps).run P w'' = .ok v w'' ∧ R (.returned v) w'') :
    ∀ (Ds : List Nat) (w' : World), Ds.Nodup → (∀ D ∈ Ds, w.heap.size ≤ D ∧ w'.heap[D]? = some (.deferred (some [])) ∧ ¬ Owned m' h' D) → RepL m' h' w' T tmps.toList → HSim m' h' w' → Evo m h w m' h' w' →
      LeavesInM Fence.wide 0 P fn tmps R (Ds.map markOf) .returning w'
  | [], w', _, _, h1, h2, h3 => fin w' h1 h2 h3
  | D :: Ds, w', hn, hd, h1, h2, h3 => by
    obtain ⟨k1, k2, k3⟩ := hd D (by simp)
    obtain ⟨n1, n2⟩ := List.nodup_cons.1 hn
    refine ⟨by simp, .inl ⟨D, _, rfl, run_takeDeferred k2, ?_⟩⟩
    refine leaves_marks fin Ds _ n2 (fun E hE => ?_) (h1.cells (cell_shut k2 _)) (hsim_shut h2 k2 k3 _) (evo_shut h3 k1 _)
    obtain ⟨q1, q2, q3⟩ := hd E (by simp [hE])
    have hne : E ≠ D := fun e => n1 (by rw [← e]; exact hE)
    exact ⟨q1, by rw [World.putObj_heap_other hne]; exact q2, q3⟩

/-- A FUNCTION. -/
theorem FC.of_cfun {P : Program} {f : FuncId} {c : CF} {args : List D} {h : Heap} {R : D → Heap → Prop} (hc : cfun P f = some c) (ha : AWA P c.code (endA c.res h R) ⟨args ++ List.replicate (c.n - args.length) .any, h⟩) : FC P f args h R := by
  unfold cfun at hc
  split at hc
  · rename_i fn hf
    split at hc
    · cases hc
    · rename_i hnm
      simp only [Option.bind_eq_some_iff, Option.map_eq_some_iff] at hc
      obtain ⟨code, hb, ac, h1, rs, h2, rfl⟩ := hc
      refine ⟨by simp only [callable, hf, hb]; simpa using hnm, ?_⟩
      intro m w vs hh hr
      refine (callsIn_wide (n := 0)).1 (callsIn_of_wp_marks hf hb trivial ?_)
      have hl := hr.length
      have hs : Sim w.heap.size m ⟨args ++ List.replicate (fn.ntmps - args.length) .any, h⟩ { tmps := vs.toArray ++ Array.replicate (fn.ntmps - vs.toArray.size) undef, defers := [] } w :=
        ⟨Marks.nil, by
          have := RepL.append hr (RepL.replicate_any (m := m) (ah := h) (w := w) undef (fn.ntmps - args.length))
          simpa [hl] using this, hh⟩
      have hbody := ha none (fun e => absurd rfl e) code h1 _ m _ w (Nat.le_refl _) hs
      refine wpIn_mono (F := FF none) hbody fun e a' w' hl => ?_
      obtain ⟨m', st', q1, q2, q3⟩ := hl
      have fin : (∃ ds, resD rs st' = some ds ∧ FinOk h st'.h ds R) → LeavesInM Fence.wide 0 P fn a'.tmps (fun e w' => ∃ (v' : Value) (m'' : Mu) (d : D) (h' : Heap), e = .returned v' ∧ HSim m'' h' w' ∧ Rep m'' h' w' d v' ∧ Evo m h w m'' h' w' ∧ R d h') a'.defers .returning w' := by
        rintro ⟨ds, hd, hfin⟩
        obtain ⟨Ds, e1, e2, e3⟩ := q1.defers
        rw [e1]
        refine leaves_marks (fun w'' k1 k2 k3 => ?_) Ds w' e2 e3 q1.tmps q1.heap q2
        obtain ⟨us, g1, g2⟩ := run_results (a := { a' with defers := [] }) (B := 0) ⟨Marks.nil, k1, k2⟩ fn.results.toList rs ds h2 hd #[]
        obtain ⟨m'', ds', h', g3, g4, g5, g6⟩ := hfin m m' w w'' us hh k2 k3 g2
        refine ⟨_, ?_, (if hz : us.toArray.size = 1 then us.toArray[0] else .tuple us.toArray), m'', packD ds', h', rfl, g4, ?_, g5, g6⟩
        · unfold results
          rw [Sem.run_bind, Array.mapM_eq_foldlM, ← Array.foldlM_toList]
          refine (congrArg (fun r => Result.andThen r fun vs w' => (pure (if h : vs.size = 1 then vs[0] else .tuple vs) : Sem Value).run P w') g1).trans ?_
          simp
        · have hlen := g3.length
          unfold packD
          split
          · rename_i d
            simp only [RepL] at g3
            obtain ⟨u, us', rfl, g7, g8⟩ := g3
            subst g8
            simpa using g7
          · rename_i hne
            have : us.toArray.size ≠ 1 := by
              intro e
              simp only [List.size_toArray] at e
              rw [hlen] at e
              match ds', e with
              | [d], _ => exact hne d rfl
            rw [dif_neg this]
            simp only [Rep]
            exact ⟨us, rfl, g3⟩
      cases e with
      | normal => exact fin q3
      | ret => exact fin q3
      | exit id => exact q3.elim
      | goto l => exact q3.elim
      | panic ch => exact q3.elim
      | outgrown => exact q3.elim
  · cases hc

end Go.YtodlpcoffmnmbaaDoor
