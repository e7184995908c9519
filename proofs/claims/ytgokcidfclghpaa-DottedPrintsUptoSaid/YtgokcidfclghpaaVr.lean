/-
  Own work. The value machine, part R: what a function hands back.
-/
import Derived.Test.YtgokcidfclghpaaVq
namespace Go.Ytgokcidfclghpaa
open Go
set_option linter.unusedVariables false
set_option linter.unusedSimpArgs false

def packD : List D → D
  | [d] => d
  | ds => .tup ds

/-- What is handed back, and of the blocks what the caller is told. -/
def FinOk (h0 heap : Heap) (ds : List D) (R : D → Heap → Prop) : Prop :=
  ∀ (m0 m : Mu) (w0 w : World) (vs : List Value), HSim m0 h0 w0 → HSim m heap w → Evo m0 h0 w0 m heap w → RepL m heap w ds vs →
    ∃ (m' : Mu) (ds' : List D) (h' : Heap), RepL m' h' w ds' vs ∧ HSim m' h' w ∧ Evo m0 h0 w0 m' h' w ∧ R (packD ds') h'

theorem FinOk.all {h0 heap : Heap} {ds : List D} {R : D → Heap → Prop} (h : R (packD ds) heap) : FinOk h0 heap ds R :=
  fun m0 m w0 w vs _ h2 h3 h4 => ⟨m, ds, heap, h4, h2, h3, h⟩

/-- Some of the blocks, picked out. -/
theorem part_sound {m0 m : Mu} {h0 : Heap} {w0 w : World} {h' loc : Heap} {rs : List Nat} (hs0 : HSim m0 h0 w0) (hs : HSim m (h' ++ loc) w) (he : Evo m0 h0 w0 m (h' ++ loc) w)
    (hk : h' = h0 ∨ (h'.length = h0.length ∧ ∀ b ∈ h', underB h'.length b = true)) (hnd : rs.Nodup) {bs : List Blk} (hl : bs.length = rs.length) (hb : ∀ (i r : Nat) (b : Blk), rs[i]? = some r → bs[i]? = some b → h'.length ≤ r ∧ (h' ++ loc)[r]? = some b ∧ underB h'.length b = true) :
    ∃ m', Part h'.length m m' (h' ++ loc) (h' ++ bs) ∧ HSim m' (h' ++ bs) w ∧ Evo m0 h0 w0 m' (h' ++ bs) w ∧ ∀ (i r : Nat), rs[i]? = some r → m' (h'.length + i) = m r := by
  let m' : Mu := fun x => if x < h'.length then m x else m (rs.getD (x - h'.length) 0)
  have hlow : ∀ x, x < h'.length → m' x = m x := fun x hx => if_pos hx
  have hhigh : ∀ i r, rs[i]? = some r → m' (h'.length + i) = m r := fun i r hi => by
    show (if _ then _ else _) = _
    rw [if_neg (by omega), Nat.add_sub_cancel_left]
    simp [List.getD, hi]
  have hlen : h'.length = h0.length := by rcases hk with rfl | hk; rfl; exact hk.1
  have hund : ∀ b ∈ h', underB h'.length b = true := by
    rcases hk with rfl | hk
    · exact hs0.under
    · exact hk.2
  -- where a block of the new ones stood
  have from_ : ∀ {x : Nat} {b : Blk}, (h' ++ bs)[x]? = some b → ∃ r, (h' ++ loc)[r]? = some b ∧ m' x = m r ∧ underB h'.length b = true ∧ ((x < h'.length ∧ r = x) ∨ (h'.length ≤ x ∧ rs[x - h'.length]? = some r)) := by
    intro x b hx
    by_cases hlt : x < h'.length
    · rw [List.getElem?_append_left hlt] at hx
      refine ⟨x, by rw [List.getElem?_append_left hlt]; exact hx, hlow x hlt, hund b ?_, .inl ⟨hlt, rfl⟩⟩
      obtain ⟨h1, h2⟩ := List.getElem?_eq_some_iff.1 hx
      rw [← h2]; exact List.getElem_mem h1
    · rw [List.getElem?_append_right (by omega)] at hx
      have hxl : x - h'.length < rs.length := by rw [← hl]; exact (List.getElem?_eq_some_iff.1 hx).1
      obtain ⟨q1, q2, q3⟩ := hb (x - h'.length) _ b (List.getElem?_eq_getElem hxl) hx
      refine ⟨_, q2, ?_, q3, .inr ⟨by omega, List.getElem?_eq_getElem hxl⟩⟩
      have := hhigh (x - h'.length) _ (List.getElem?_eq_getElem hxl)
      rwa [show h'.length + (x - h'.length) = x by omega] at this
  have hpart : Part h'.length m m' (h' ++ loc) (h' ++ bs) := by
    constructor
    · intro r hr
      exact ⟨by rw [List.getElem?_append_left hr, List.getElem?_append_left hr], hlow r hr⟩
    · intro b ⟨x, blk, h1, h2, h3⟩
      obtain ⟨r, q1, q2, _⟩ := from_ h1
      exact ⟨r, blk, q1, h2, by rw [← q2]; exact h3⟩
  refine ⟨m', hpart, ⟨?_, ?_⟩, ?_, hhigh⟩
  · intro x y b b' hx hy o1 o2 e
    obtain ⟨r, q1, q2, _, q4⟩ := from_ hx
    obtain ⟨r', p1, p2, _, p4⟩ := from_ hy
    have hrr : r = r' := hs.inj r r' b b' q1 p1 o1 o2 (by rw [← q2, ← p2]; exact e)
    subst hrr
    rcases q4 with ⟨a1, a2⟩ | ⟨a1, a2⟩ <;> rcases p4 with ⟨c1, c2⟩ | ⟨c1, c2⟩
    · omega
    · have := (hb (y - h'.length) r b' c2 (by rw [List.getElem?_append_right (by omega)] at hy; exact hy)).1
      omega
    · have := (hb (x - h'.length) r b a2 (by rw [List.getElem?_append_right (by omega)] at hx; exact hx)).1
      omega
    · have h1 := (List.getElem?_eq_some_iff.1 a2)
      have h2 := (List.getElem?_eq_some_iff.1 c2)
      have hpw := List.pairwise_iff_getElem.1 hnd
      rcases Nat.lt_trichotomy (x - h'.length) (y - h'.length) with hlt | heq | hgt
      · exact absurd (by rw [h1.2, h2.2]) (hpw _ _ h1.1 h2.1 hlt)
      · omega
      · exact absurd (by rw [h1.2, h2.2]) (hpw _ _ h2.1 h1.1 hgt)
  · intro x b hx
    obtain ⟨r, q1, q2, q3, _⟩ := from_ hx
    have hok := hs.blk r b q1
    cases b with
    | free => trivial
    | dead => trivial
    | box cs => obtain ⟨arr, e, fz, c1, c2, c3⟩ := hok; exact ⟨arr, e, fz, by rw [q2]; exact c1, c2, RepL.part hpart q3 c3⟩
    | grow sz cs n => obtain ⟨arr, e, fz, rest, us, c1, c2, c3, c4, c5, c6, c7⟩ := hok; exact ⟨arr, e, fz, rest, us, by rw [q2]; exact c1, c2, c3, RepL.part hpart q3 c4, c5, by rw [q2]; exact c6, by rw [q2]; exact c7⟩
    | ice sz cs n => obtain ⟨c1, c2, c3⟩ := hok; exact ⟨by rw [q2]; exact RepAt.part hpart q3 c1, c2, by rw [q2]; exact c3⟩
    | icebox cs => show RepAt _ _ _ _ _ _; rw [q2]; exact RepAt.part hpart q3 hok
  · refine ⟨he.os, he.tape, he.output, he.size, fun b hb1 hb2 => ?_, fun r b hr => ?_⟩
    · obtain ⟨c1, c2⟩ := he.keep b hb1 hb2
      exact ⟨fun ho => c1 (hpart.own b ho), c2⟩
    · have hlt : r < h'.length := by rw [hlen]; exact (List.getElem?_eq_some_iff.1 hr).1
      obtain ⟨b', c1, c2⟩ := he.blk r b hr
      obtain ⟨d1, d2⟩ := hpart.low r hlt
      refine ⟨b', by rw [d1]; exact c1, ?_⟩
      exact c2.trans (BStep.of_eq d2 b')

/-- Nothing new is handed back. -/
theorem FinOk.drop {h0 h' loc : Heap} {ds : List D} {R : D → Heap → Prop} (hk : h' = h0 ∨ (h'.length = h0.length ∧ ∀ b ∈ h', underB h'.length b = true)) (hu : underL h'.length ds = true) (h : R (packD ds) h') : FinOk h0 (h' ++ loc) ds R := by
  intro m0 m w0 w vs h1 h2 h3 h4
  obtain ⟨m', q1, q2, q3, _⟩ := part_sound (rs := []) (bs := []) h1 h2 h3 hk List.nodup_nil rfl (by intro i r b hi; simp at hi)
  rw [List.append_nil] at q1 q2 q3
  exact ⟨m', ds, h', RepL.part q1 hu h4, q2, q3, h⟩

/-- One new slice is handed back. -/
theorem FinOk.one {h0 h' loc : Heap} {pre post : List D} {r n sz n' : Nat} {cs : List D} {R : D → Heap → Prop} (hk : h' = h0 ∨ (h'.length = h0.length ∧ ∀ b ∈ h', underB h'.length b = true)) (hr : h'.length ≤ r) (hb : loc[r - h'.length]? = some (.grow sz cs n'))
    (hc : underL h'.length cs = true) (h1 : underL h'.length pre = true) (h2 : underL h'.length post = true) (h : R (packD (pre ++ .own h'.length n :: post)) (h' ++ [.grow sz cs n'])) : FinOk h0 (h' ++ loc) (pre ++ .own r n :: post) R := by
  intro m0 m w0 w vs g1 g2 g3 g4
  have hbr : (h' ++ loc)[r]? = some (.grow sz cs n') := by rw [List.getElem?_append_right hr]; exact hb
  obtain ⟨m', q1, q2, q3, q4⟩ := part_sound (rs := [r]) (bs := [.grow sz cs n']) g1 g2 g3 hk (by simp) rfl (by
    intro i x b hi hbi
    have : i = 0 := by
      have := (List.getElem?_eq_some_iff.1 hi).1
      simp at this; exact this
    subst this
    simp only [List.getElem?_cons_zero, Option.some.injEq] at hi hbi
    subst hi; subst hbi
    exact ⟨hr, hbr, hc⟩)
  refine ⟨m', _, _, ?_, q2, q3, h⟩
  have split : ∀ (pre : List D) (vs : List Value), underL h'.length pre = true → RepL m (h' ++ loc) w (pre ++ .own r n :: post) vs → RepL m' (h' ++ [.grow sz cs n']) w (pre ++ .own h'.length n :: post) vs := by
    intro pre
    induction pre with
    | nil =>
      intro vs _ hv
      simp only [List.nil_append, RepL] at hv ⊢
      obtain ⟨u, us, rfl, c1, c2⟩ := hv
      refine ⟨u, us, rfl, ?_, RepL.part q1 h2 c2⟩
      simp only [Rep] at c1 ⊢
      obtain ⟨c0, b, c3, c4⟩ := c1
      rw [hbr] at c3
      injection c3 with c3
      subst c3
      obtain ⟨c5, c6⟩ := c4
      have hq4 := q4 0 r rfl
      rw [Nat.add_zero] at hq4
      have hown : OwnV m' h'.length n (isOwn n u) (.grow sz cs n') := ⟨c5, fun e => by rw [hq4]; exact c6 e⟩
      exact ⟨c0, _, by rw [List.getElem?_append_right (Nat.le_refl _), Nat.sub_self]; rfl, hown⟩
    | cons d pre ih =>
      intro vs hu hv
      simp only [underL, Bool.and_eq_true] at hu
      simp only [List.cons_append, RepL] at hv ⊢
      obtain ⟨u, us, rfl, c1, c2⟩ := hv
      exact ⟨u, us, rfl, Rep.part q1 hu.1 c1, ih us hu.2 c2⟩
  exact split pre vs h1 g4

/-! ### results -/
inductive ARes where
  | tmp (t : Nat)
  | cell (a : Nat) (ag : Option Nat)

def cres (P : Program) : List ResultVar → Option (List ARes)
  | [] => some []
  | .tmp t :: rs => (cres P rs).map fun l => .tmp t :: l
  | .cell a t :: rs => (agOf P t).bind fun ag => (cres P rs).map fun l => .cell a ag :: l

def resD : List ARes → St → Option (List D)
  | [], _ => some []
  | .tmp t :: rs, st => (resD rs st).map fun l => st.t.getD t .any :: l
  | .cell a ag :: rs, st => (ptrCells st.h (st.t.getD a .any)).bind fun cs => (loadCs ag cs).bind fun d => (resD rs st).map fun l => d :: l

theorem run_results {P : Program} {m : Mu} {st : St} {a : Act} {w : World} (hs : Sim m st a w) : ∀ (rs : List ResultVar) (ars : List ARes) (ds : List D), cres P rs = some ars → resD ars st = some ds →
    ∀ acc : Array Value, ∃ vs, (rs.foldlM (fun (acc : Array Value) (r : ResultVar) => acc.push <$> (match r with | .tmp t => pure (a.tmps.getD t undef) | .cell x t => do loadVar t (← asAddr (a.tmps.getD x undef)) : Sem Value)) acc).run P w = .ok (acc ++ vs.toArray) w ∧ RepL m st.h w ds vs
  | [], ars, ds, hc, hd, acc => by
    simp only [cres, Option.some.injEq] at hc
    subst hc
    simp only [resD, Option.some.injEq] at hd
    subst hd
    exact ⟨[], by simp, by simp [RepL]⟩
  | .tmp t :: rs, ars, ds, hc, hd, acc => by
    simp only [cres, Option.map_eq_some_iff] at hc
    obtain ⟨l, h1, rfl⟩ := hc
    simp only [resD, Option.map_eq_some_iff] at hd
    obtain ⟨dl, h2, rfl⟩ := hd
    obtain ⟨vs, h3, h4⟩ := run_results hs rs l dl h1 h2 (acc.push (a.tmps.getD t undef))
    refine ⟨a.tmps.getD t undef :: vs, ?_, ?_⟩
    · simp only [List.foldlM_cons, Sem.run_bind, Sem.run_map, Sem.run_pure, Result.andThen_ok, h3]
      congr 1
      apply Array.ext'
      simp
    · simp only [RepL]
      have := rep_ev hs.tmps (x := .tmp t) (ao := .t t) rfl
      exact ⟨_, _, rfl, this, h4⟩
  | .cell x t :: rs, ars, ds, hc, hd, acc => by
    simp only [cres, Option.bind_eq_some_iff, Option.map_eq_some_iff] at hc
    obtain ⟨ag, h0, l, h1, rfl⟩ := hc
    simp only [resD, Option.bind_eq_some_iff, Option.map_eq_some_iff] at hd
    obtain ⟨cs, h2, d, h3, dl, h4, rfl⟩ := hd
    have hr := rep_ev hs.tmps (x := .tmp x) (ao := .t x) rfl
    obtain ⟨b, off, hv, hl⟩ := ptr_lies hs.heap (d := st.t.getD x .any) hr h2
    obtain ⟨u, h5, h6⟩ := run_loadVar_D (P := P) h0 hl h3
    obtain ⟨vs, h7, h8⟩ := run_results hs rs l dl h1 h4 (acc.push u)
    refine ⟨u :: vs, ?_, ?_⟩
    · have hv' : a.tmps.getD x undef = .pointer (some ⟨b, off, none⟩) := hv
      have hadr : (asAddr (a.tmps.getD x undef)).run P w = .ok ⟨b, off, none⟩ w := by rw [hv']; rfl
      simp only [List.foldlM_cons, Sem.run_bind, Sem.run_map, Sem.run_pure, Result.andThen_ok, hadr, h5]
      rw [h7]
      congr 1
      apply Array.ext'
      simp
    · simp only [RepL]
      exact ⟨_, _, rfl, h6, h8⟩

/-- A function with its types worked in. -/
structure CF where
  code : AC
  res : List ARes
  n : Nat
def cfun (P : Program) (f : FuncId) : Option CF :=
  match P.funcs[f]? with
  | some fn => if fn.name == "runtime.NumGoroutine" then none else fn.body.bind fun b => (comp P b).bind fun c => (cres P fn.results.toList).map fun r => ⟨c, r, fn.ntmps⟩
  | none => none

def endA (rs : List ARes) (h0 : Heap) (R : D → Heap → Prop) : Exit → St → Prop
  | .normal, st | .ret, st => ∃ ds, resD rs st = some ds ∧ FinOk h0 st.h ds R
  | _, _ => False

/-- A FUNCTION. -/
theorem FC.of_cfun {P : Program} {f : FuncId} {c : CF} {args : List D} {h : Heap} {R : D → Heap → Prop} (hc : cfun P f = some c) (ha : AWA P c.code (endA c.res h R) ⟨args ++ List.replicate (c.n - args.length) .any, h⟩) : FC P f args h R := by
  unfold cfun at hc
  split at hc
  · rename_i fn hf
    split at hc
    · cases hc
    · rename_i hnm
      simp only [Option.bind_eq_some_iff, Option.map_eq_some_iff] at hc
      obtain ⟨code, hb, ac, h1, rs, h2, rfl⟩ := hc
      refine ⟨by simp only [callable, hf, hb]; simpa using hnm, ?_⟩
      intro m w vs hh hr
      refine calls_of_wp hf hb ?_
      have hl := hr.length
      have hs : Sim m ⟨args ++ List.replicate (fn.ntmps - args.length) .any, h⟩ { tmps := vs.toArray ++ Array.replicate (fn.ntmps - vs.toArray.size) undef, defers := [] } w :=
        ⟨rfl, by
          have := RepL.append hr (RepL.replicate_any (m := m) (ah := h) (w := w) undef (fn.ntmps - args.length))
          simpa [hl] using this, hh⟩
      refine wp_mono (ha code h1 m _ w hs) fun e a' w' hl => ?_
      obtain ⟨m', st', q1, q2, q3⟩ := hl
      have fin : (∃ ds, resD rs st' = some ds ∧ FinOk h st'.h ds R) → a'.defers = [] ∧ ∃ v, (results fn a'.tmps).run P w' = .ok v w' ∧
          ∃ (v' : Value) (m'' : Mu) (d : D) (h' : Heap), Ending.returned v = .returned v' ∧ HSim m'' h' w' ∧ Rep m'' h' w' d v' ∧ Evo m h w m'' h' w' ∧ R d h' := by
        rintro ⟨ds, hd, hfin⟩
        obtain ⟨us, g1, g2⟩ := run_results q1 fn.results.toList rs ds h2 hd #[]
        obtain ⟨m'', ds', h', g3, g4, g5, g6⟩ := hfin m m' w w' us hh q1.heap q2 g2
        refine ⟨q1.defers, _, ?_, (if hz : us.toArray.size = 1 then us.toArray[0] else .tuple us.toArray), m'', packD ds', h', rfl, g4, ?_, g5, g6⟩
        · unfold results
          rw [Sem.run_bind, Array.mapM_eq_foldlM, ← Array.foldlM_toList]
          refine (congrArg (fun r => Result.andThen r fun vs w' => (pure (if h : vs.size = 1 then vs[0] else .tuple vs) : Sem Value).run P w') g1).trans ?_
          simp
        · have hlen := g3.length
          unfold packD
          split
          · rename_i d
            simp only [RepL] at g3
            obtain ⟨u, us', rfl, g7, g8⟩ := g3
            subst g8
            simpa using g7
          · rename_i hne
            have : us.toArray.size ≠ 1 := by
              intro e
              simp only [List.size_toArray] at e
              rw [hlen] at e
              match ds', e with
              | [d], _ => exact hne d rfl
            rw [dif_neg this]
            simp only [Rep]
            exact ⟨us, rfl, g3⟩
      cases e with
      | normal =>
        obtain ⟨f1, v, f2, f3⟩ := fin q3
        exact ⟨f1, v, f2, f3⟩
      | ret =>
        obtain ⟨f1, v, f2, f3⟩ := fin q3
        exact ⟨f1, v, f2, f3⟩
      | exit id => exact q3.elim
      | goto l => exact q3.elim
      | panic ch => exact q3.elim
      | outgrown => exact q3.elim
  · cases hc

end Go.Ytgokcidfclghpaa
