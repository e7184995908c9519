/-
  Own work. The value machine, part Q: code as a whole, and a function.
-/
import Derived.Test.YtodlpcoffmnmbaaDoorVpe
namespace Go.YtodlpcoffmnmbaaDoor
open Go
set_option linter.unusedVariables false
set_option linter.unusedSimpArgs false

/-- Code with its types worked in. -/
def comp (P : Program) : Code → Option AC
  | .skip => some .skip
  | .region _ ops draw => match csts P ops ops.toList with
    | some ss => if draw = true then match planH (ptrCall P ops) ops ss with
      | some p => some (.dreg p.1 p.2)
      | none => some .bad
      else some (.reg ss)
    | none => some .bad
  | .seq a b => (comp P a).bind fun x => (comp P b).map fun y => .seq x y
  | .cond c a b => (cao c).bind fun z => (comp P a).bind fun x => (comp P b).map fun y => .cond z x y
  | .block id a => (comp P a).map fun x => .block id x
  | .loop a => (comp P a).map fun x => .loop x
  | .exit id => some (.exit id)
  | .ret => some .ret
  | .scope a => (comp P a).map fun x => .scope x
  | .label _ => some .skip
  | .rangeFunc g ps as bd => (cao g).bind fun f => (comp P as).bind fun a => (comp P bd).map fun b => .rfunc f ps.toList a b
  | _ => some .bad

/-- What plain code comes to. -/
def AWA (P : Program) (c : AC) (Q : Exit → St → Prop) (st : St) : Prop := ∀ ro : Option Nat, (ro ≠ none → c.plain = true) → ∀ code, comp P code = some c → AW ro P code Q st

section
variable {P : Program} {Q : Exit → St → Prop} {st : St}

theorem AWA.mono {c : AC} {Q' : Exit → St → Prop} (h : AWA P c Q st) (hq : ∀ e st, Q e st → Q' e st) : AWA P c Q' st := fun ro hp code hc => (h ro hp code hc).mono hq

theorem comp_region {id : Nat} {ops : Array Oper} {draw : Bool} {c : AC} (hc : comp P (.region id ops draw) = some c) : (∃ ss, csts P ops ops.toList = some ss ∧ c = .reg ss ∧ draw = false) ∨ (∃ ss hd tl, csts P ops ops.toList = some ss ∧ planH (ptrCall P ops) ops ss = some (hd, tl) ∧ c = .dreg hd tl ∧ draw = true) ∨ c = .bad := by
  unfold comp at hc
  split at hc
  · rename_i ss h1
    split at hc
    · rename_i hd
      split at hc
      · rename_i p h2
        injection hc with hc
        exact .inr (.inl ⟨ss, p.1, p.2, h1, h2, hc.symm, hd⟩)
      · injection hc with hc
        exact .inr (.inr hc.symm)
    · rename_i hd
      injection hc with hc
      exact .inl ⟨ss, h1, hc.symm, by simpa using hd⟩
  · injection hc with hc
    exact .inr (.inr hc.symm)
theorem AWA.skip (h : Q .normal st) : AWA P .skip Q st := by
  intro ro hp code hc
  cases code with
  | region id ops draw => rcases comp_region hc with ⟨_, _, h, _⟩ | ⟨_, _, _, _, _, h, _⟩ | h <;> cases h
  | skip => exact AW.skip h
  | label l => exact AW.label h
  | _ => simp [comp, Option.bind_eq_some_iff, Option.map_eq_some_iff] at hc
theorem AWA.exit {id : Nat} (h : Q (.exit id) st) : AWA P (.exit id) Q st := by
  intro ro hp code hc
  cases code with
  | region id ops draw => rcases comp_region hc with ⟨_, _, h, _⟩ | ⟨_, _, _, _, _, h, _⟩ | h <;> cases h
  | exit id' =>
    simp [comp] at hc
    subst hc; exact AW.exit h
  | _ => simp [comp, Option.bind_eq_some_iff, Option.map_eq_some_iff] at hc
theorem AWA.ret (h : Q .ret st) : AWA P .ret Q st := by
  intro ro hp code hc
  cases code with
  | region id ops draw => rcases comp_region hc with ⟨_, _, h, _⟩ | ⟨_, _, _, _, _, h, _⟩ | h <;> cases h
  | ret => exact AW.ret h
  | _ => simp [comp, Option.bind_eq_some_iff, Option.map_eq_some_iff] at hc
theorem AWA.seq {x y : AC} {K : St → Prop} (hx : AWA P x (thenQ K Q) st) (hy : ∀ st', K st' → AWA P y Q st') : AWA P (.seq x y) Q st := by
  intro ro hp code hc
  cases code with
  | region id ops draw => rcases comp_region hc with ⟨_, _, h, _⟩ | ⟨_, _, _, _, _, h, _⟩ | h <;> cases h
  | seq a b =>
    simp [comp, Option.bind_eq_some_iff, Option.map_eq_some_iff] at hc
    obtain ⟨h1, h2⟩ := hc
    have hp' : ro ≠ none → x.plain = true ∧ y.plain = true := fun e => by simpa [AC.plain] using hp e
    exact AW.seq (hx ro (fun e => (hp' e).1) _ h1) fun st' hk => hy st' hk ro (fun e => (hp' e).2) _ h2
  | _ => simp [comp, Option.bind_eq_some_iff, Option.map_eq_some_iff] at hc
/-- As the walk takes it: what follows under a name. -/
theorem AWA.seqK {x y : AC} (h : ∀ K : St → Prop, (∀ st', AWA P y Q st' → K st') → AWA P x (thenQ K Q) st) : AWA P (.seq x y) Q st :=
  AWA.seq (h _ fun _ h => h) fun _ h => h

theorem AWA.cond {c : AO} {x y : AC} {b : Bool} (hb : ev st.t c = .bool b) (h1 : b = true → AWA P x Q st) (h2 : b = false → AWA P y Q st) : AWA P (.cond c x y) Q st := by
  intro ro hp code hc
  cases code with
  | region id ops draw => rcases comp_region hc with ⟨_, _, h, _⟩ | ⟨_, _, _, _, _, h, _⟩ | h <;> cases h
  | cond c' a' b' =>
    simp [comp, Option.bind_eq_some_iff, Option.map_eq_some_iff] at hc
    obtain ⟨z, h0, x', h3, y', h4, rfl, rfl, rfl⟩ := hc
    have hp' : ro ≠ none → x'.plain = true ∧ y'.plain = true := fun e => by simpa [AC.plain] using hp e
    refine AW.cond (b := b) (fun B m a w hs => ?_) (fun e => h1 e ro (fun e => (hp' e).1) _ h3) (fun e => h2 e ro (fun e => (hp' e).2) _ h4)
    have := rep_ev hs.heap hs.tmps h0
    rw [hb] at this
    simpa only [Rep] using this
  | _ => simp [comp, Option.bind_eq_some_iff, Option.map_eq_some_iff] at hc
theorem AWA.block {id : Nat} {x : AC} (h : AWA P x (blockQ id Q) st) : AWA P (.block id x) Q st := by
  intro ro hp code hc
  cases code with
  | region id ops draw => rcases comp_region hc with ⟨_, _, h, _⟩ | ⟨_, _, _, _, _, h, _⟩ | h <;> cases h
  | block id' a =>
    simp [comp, Option.bind_eq_some_iff, Option.map_eq_some_iff] at hc
    obtain ⟨h1, rfl⟩ := hc
    exact AW.block (h ro (fun e => by simpa [AC.plain] using hp e) _ h1)
  | _ => simp [comp, Option.bind_eq_some_iff, Option.map_eq_some_iff] at hc
theorem AWA.scope {x : AC} (h : AWA P x (noGoto Q) st) : AWA P (.scope x) Q st := by
  intro ro hp code hc
  cases code with
  | region id ops draw => rcases comp_region hc with ⟨_, _, h, _⟩ | ⟨_, _, _, _, _, h, _⟩ | h <;> cases h
  | scope a =>
    simp [comp, Option.map_eq_some_iff] at hc
    exact AW.scope (h ro (fun e => by simpa [AC.plain] using hp e) _ hc)
  | _ => simp [comp, Option.bind_eq_some_iff, Option.map_eq_some_iff] at hc
theorem AWA.loop {x : AC} (I : St → Prop) (μ : St → Nat) (h0 : I st) (round : ∀ st, I st → AWA P x (thenQ (fun st' => I st' ∧ μ st' < μ st) Q) st) : AWA P (.loop x) Q st := by
  intro ro hp code hc
  cases code with
  | region id ops draw => rcases comp_region hc with ⟨_, _, h, _⟩ | ⟨_, _, _, _, _, h, _⟩ | h <;> cases h
  | loop a =>
    simp [comp, Option.bind_eq_some_iff, Option.map_eq_some_iff] at hc
    exact AW.loop I μ h0 fun st hi => round st hi ro (fun e => by simpa [AC.plain] using hp e) _ hc
  | _ => simp [comp, Option.bind_eq_some_iff, Option.map_eq_some_iff] at hc
theorem AWA.reg {ss : List AStm} (h : aregs P ss st fun st' => Q .normal st') : AWA P (.reg ss) Q st := by
  intro ro hp code hc
  cases code with
  | region id ops draw =>
    rcases comp_region hc with ⟨ss', h1, h2, h3⟩ | ⟨_, _, _, _, _, h, _⟩ | h
    · injection h2 with h2
      subst h2; subst h3
      exact AW.region h1 h
    · cases h
    · cases h
  | _ => simp [comp, Option.bind_eq_some_iff, Option.map_eq_some_iff] at hc
theorem AWA.dreg (hm : P.follows .mixedOrders = true) {hd tl : List AStm} (h : aheads P hd st fun st' => aregs P tl st' fun st' => Q .normal st') : AWA P (.dreg hd tl) Q st := by
  intro ro hp code hc
  cases code with
  | region id ops draw =>
    rcases comp_region hc with ⟨_, _, h, _⟩ | ⟨ss', hd', tl', h1, h2, h3, h4⟩ | h
    · cases h
    · injection h3 with h3 h5
      subst h3; subst h4; subst h5
      exact AW.planH hm h1 h2 h
    · cases h
  | _ => simp [comp, Option.bind_eq_some_iff, Option.map_eq_some_iff] at hc
/-- A LOOP OVER A FUNCTION. -/
theorem AW.rfunc {g : Operand} {ps : Array Tmp} {as bd : Code} {f : AO} (hg : cao g = some f)
    (nf : Nat) (h : RangeK P (ev st.t f) st.h.length (st.h ++ [.recb .ready st.t ps.toList as bd none] ++ List.replicate nf .free) fun _ h' => rangeQ st.h.length st.t ps.toList as bd Q h') : AW none P (.rangeFunc g ps as bd) Q st := by
  intro B m a w hB hs
  refine wpIn_rangeFunc fun fn _ => ?_
  unfold RangeK at h
  split at h
  · rename_i i first cap hfn
    have hr := rep_ev hs.heap hs.tmps hg
    rw [hfn] at hr
    simp only [Rep] at hr
    obtain ⟨vs, us, hv, hr1, hr2⟩ := hr
    obtain ⟨hcl, hfc⟩ := h
    let rec_ : Loop := { state := .ready, pending := none, fn, tmps := a.tmps, params := ps, assign := as, body := bd, defers := w.heap.size }
    let w1 : World := (w.alloc (.deferred (some []))).alloc (.loop rec_)
    have hsz : w1.heap.size = w.heap.size + 2 := by simp [w1, World.size_alloc]
    have hold : ∀ k, k < w.heap.size → w1.heap[k]? = w.heap[k]? := by
      intro k hk
      show ((w.heap.push _).push _)[k]? = _
      rw [Array.getElem?_push_lt (by simp; omega), Array.getElem_push_lt hk, Array.getElem?_eq_getElem hk]
    have hD : w1.heap[w.heap.size]? = some (.deferred (some [])) := by
      show ((w.heap.push _).push _)[w.heap.size]? = _
      rw [Array.getElem?_push_lt (by simp), Array.getElem_push_eq]
    have hL : w1.heap[w.heap.size + 1]? = some (.loop rec_) := by
      show ((w.heap.push _).push _)[w.heap.size + 1]? = _
      rw [show w.heap.size + 1 = (w.heap.push (Obj.deferred (some []))).size by simp, Array.getElem?_push_size]
    have hev := evo_new (w' := w1) hs.heap (.recb .ready st.t ps.toList as bd none) (w.heap.size + 1, 0) (by simp) rfl rfl rfl (by omega) hold
    have hhs := hsim_new (w' := w1) hs.heap (.recb .ready st.t ps.toList as bd none) (w.heap.size + 1, 0) (by simp) rfl rfl rfl (by omega) hold
      ⟨fn, a.tmps, w.heap.size, by rw [muSet_same]; simpa [rec_] using hL, hs.tmps.evo hev⟩
    have hyv : Rep (muSet m st.h.length (w.heap.size + 1, 0)) (st.h ++ [.recb .ready st.t ps.toList as bd none]) w1 (.yv st.h.length) (.func (.yield (w.heap.size + 1)) #[] #[]) := by
      simp only [Rep]
      refine ⟨⟨(w.heap.size + 1, 0), rfl⟩, .recb .ready st.t ps.toList as bd none, by simp, ?_⟩
      show isYv _ _
      rw [muSet_same]
      rfl
    obtain ⟨hhs', hev'⟩ := more_free hhs nf
    have hcalls := hfc _ w1 (vs ++ [.func (.yield (w.heap.size + 1)) #[] #[]] ++ us) hhs' (RepL.append (RepL.append (hr1.evo (hev.trans hev')) (by simp only [RepL]; exact ⟨_, _, rfl, hyv.evo hev', rfl⟩)) (hr2.evo (hev.trans hev')))
    have hcf : ∀ args : Array Value, (callFunc i args).run P w1 = .ok (.enter i args) w1 := by
      intro args
      unfold callable at hcl
      split at hcl
      · rename_i fn hfn'
        simp only [Bool.and_eq_true, Bool.not_eq_true', beq_eq_false_iff_ne, ne_eq] at hcl
        have hb : fn.body.isNone = false := by cases hbb : fn.body <;> simp_all
        unfold callFunc
        simp only [Sem.run_bind, run_program, Result.andThen_ok, hfn']
        rw [if_neg (by simp [hcl.1]), if_neg (by simp [hb])]
        rfl
      · cases hcl
    refine ⟨_, _, w1, { target := .fn (.func i) us.toArray, args := vs.toArray ++ #[Value.func (.yield (w.heap.size + 1)) #[] #[]] }, w1, i, (vs ++ [Value.func (.yield (w.heap.size + 1)) #[] #[]] ++ us).toArray, w1, run_enterLoop_outer .., ?_, fun _ _ => trivial, ?_, fun h => by simp [FF, Fence.wide] at h, ?_⟩
    · simp only [rangeCall, resolve, hv, Deferred.ofValue, Sem.run_bind, Sem.run_pure, Result.andThen_ok]
      congr 2
      simp [Act.eval]
    · simp only [invoke, hcf]
      congr 2
      apply Array.ext'
      simp
    · refine (callsIn_wide (n := 0)).2 (hcalls.mono ?_)
      rintro e w3 ⟨v, m', d, h', rfl, e2, e3, e4, s, pe, e5, e6, e7⟩
      replace e4 := hev'.trans e4
      have hm' : m' st.h.length = (w.heap.size + 1, 0) := by
        obtain ⟨b', c1, c2⟩ := e4.blk st.h.length (.recb .ready st.t ps.toList as bd none) (by simp)
        rw [e5] at c1
        injection c1 with c1
        subst c1
        rcases c2 with c2 | ⟨_, _, _, c2⟩
        · cases c2
        · rw [c2, muSet_same]
      obtain ⟨fn3, tmps3, df3, c1, c2, -, -⟩ := recb_step (s' := .ready) (pe' := none) e2 e5
      rw [hm'] at c1
      obtain ⟨d1, d2⟩ := recb_dead e2 e5 (.loop { state := .exhausted, pending := pe, fn := fn3, tmps := tmps3, params := ps.toList.toArray, assign := as, body := bd, defers := df3 })
      rw [hm'] at d1 d2
      have hevA := hev.trans (e4.trans d2)
      refine ⟨pe, _, run_endLoop c1 (by simpa using e6), ?_⟩
      have hsim : Sim B m' ⟨st.t, h'.set st.h.length .dead⟩ { a with defers := [{ target := .collected w.heap.size, args := #[] }] ++ a.defers } (w3.putObj (w.heap.size + 1) (.loop { state := .exhausted, pending := pe, fn := fn3, tmps := tmps3, params := ps.toList.toArray, assign := as, body := bd, defers := df3 })) := by
        refine ⟨?_, hs.tmps.evo hevA, d1⟩
        have hno : ¬ Owned (muSet m st.h.length (w.heap.size + 1, 0)) (st.h ++ [.recb .ready st.t ps.toList as bd none]) w.heap.size := by
          rintro ⟨r, b, g1, g2, g3⟩
          by_cases hr : r = st.h.length
          · subst hr
            rw [muSet_same] at g3
            simp at g3
          · have hl : r < (st.h ++ [Blk.recb .ready st.t ps.toList as bd none]).length := (List.getElem?_eq_some_iff.1 g1).1
            simp at hl
            rw [muSet_ne _ _ hr] at g3
            rw [List.getElem?_append_left (by omega)] at g1
            have := Owned.lt hs.heap ⟨r, b, g1, g2, g3⟩
            omega
        obtain ⟨k1, k2⟩ := (e4.trans d2).keep w.heap.size (by omega) hno
        refine (hs.defers.evo hevA).cons hB (by rw [k2]; exact hD) k1 fun Ds hDs hmem => ?_
        obtain ⟨Ds', h1, h2, h3⟩ := hs.defers
        have : Ds = Ds' := by
          have hinj : ∀ x y, markOf x = markOf y → x = y := fun x y e => by simpa [markOf] using e
          exact (List.map_inj_right hinj).1 (hDs.symm.trans h1)
        subst this
        have := (Array.getElem?_eq_some_iff.1 (h3 _ hmem).2.1).1
        omega
      have here : ∀ {e : Exit}, Q e ⟨st.t, h'.set st.h.length .dead⟩ → Lift B m st.h w Q e _ _ := fun {e} hq => ⟨m', _, hsim, hevA, hq⟩
      cases pe with
      | none => exact here e7
      | some c =>
        cases c with
        | ret => exact wpIn_ret (here e7)
        | exit id => exact wpIn_exit (here e7)
        | _ => exact e7.elim
  · exact h.elim

theorem AWA.rfunc {f : AO} {ps : List Nat} {a b : AC} (h : ∃ nf, ∀ as bd, comp P as = some a → comp P bd = some b →
    RangeK P (ev st.t f) st.h.length (st.h ++ [.recb .ready st.t ps as bd none] ++ List.replicate nf .free) fun _ h' => rangeQ st.h.length st.t ps as bd Q h') : AWA P (.rfunc f ps a b) Q st := by
  intro ro hp code hc
  have hro : ro = none := by
    cases ro with
    | none => rfl
    | some l => exact absurd (hp (by simp)) (by simp [AC.plain])
  subst hro
  cases code with
  | region id ops draw => rcases comp_region hc with ⟨_, _, h, _⟩ | ⟨_, _, _, _, _, h, _⟩ | h <;> cases h
  | rangeFunc g ps' as bd =>
    simp [comp, Option.bind_eq_some_iff, Option.map_eq_some_iff] at hc
    obtain ⟨f', h1, a', h2, b', h3, rfl, rfl, rfl, rfl⟩ := hc
    obtain ⟨nf, h⟩ := h
    exact AW.rfunc h1 nf (h as bd h2 h3)
  | _ => simp [comp, Option.bind_eq_some_iff, Option.map_eq_some_iff] at hc

/-- A round, out of the walk of its code. -/
theorem YC.walk {r : Nat} {args : List D} {h : Heap} {R : D → Heap → Prop} {T : List D} {ps : List Nat} {as bd : Code} {ca cb : AC} (h1 : comp P as = some ca) (h2 : comp P bd = some cb)
    (hr : h[r]? = some (.recb .ready T ps as bd none)) (p1 : ca.plain = true) (p2 : cb.plain = true) (hl : args.length = ps.length)
    (hw : AWA P ca (thenQ (fun st1 => st1.h[r]? = some (.recb .ready T ps as bd none) ∧ AWA P cb (roundQ h r T ps as bd R) ⟨st1.t, st1.h.set r (.recb .busy T ps as bd none)⟩) (fun _ _ => False)) ⟨setps T ps args, h⟩) : YC P r args h R := by
  refine ⟨T, ps, as, bd, hr, hl, fun ro => (hw ro (fun _ => p1) as h1).mono ?_⟩
  intro e st hq
  cases e with
  | normal => exact ⟨hq.1, hq.2 ro (fun _ => p2) bd h2⟩
  | _ => exact hq
end

end Go.YtodlpcoffmnmbaaDoor
