/-
  Own work. The value machine, part M: what an operation makes of plain data, the machine makes of memory.
-/
import Derived.Test.YtodlpcoffmnmbaaDoorVl
namespace Go.YtodlpcoffmnmbaaDoor
open Go
set_option linter.unusedVariables false
set_option linter.unusedSimpArgs false

/-- An operation's run, told of plain data. -/
def OpYld (P : Program) (a : Act) (o : Oper) (m : Mu) (h : Heap) (w : World) (d : D) (h' : Heap) : Prop :=
  ∃ (v : Value) (m' : Mu) (w' : World), ((execOp a.eval o).run P w = .ok (.value v) w' ∨ (v = undef ∧ (execOp a.eval o).run P w = .ok .skip w')) ∧ Rep m' h' w' d v ∧ HSim m' h' w' ∧ Evo m h w m' h' w'

theorem OpYld.of {P : Program} {a : Act} {o : Oper} {m : Mu} {h : Heap} {w : World} {d : D} {h' : Heap} {s : Sem Value} (he : execOp a.eval o = (do pure (.value (← s)))) (hy : Yld P s m h w d h') : OpYld P a o m h w d h' := by
  obtain ⟨v, m', w', h1, h2, h3, h4⟩ := hy
  exact ⟨v, m', w', .inl (by rw [he]; simp [h1]), h2, h3, h4⟩

section
variable {P : Program} {m : Mu} {h : Heap} {w : World} {a : Act} {t : List D}

theorem bndV_of (hs : HSim m h w) (ht : RepL m h w t a.tmps.toList) {x : Option Operand} {ao : Option AO} (hx : caoO x = some ao) : BndV m h w (ao.map (ev t)) (x.map a.eval) := by
  cases x with
  | none => simp only [caoO, Option.some.injEq] at hx; subst hx; trivial
  | some x =>
    simp only [caoO, Option.map_eq_some_iff] at hx
    obtain ⟨b, h1, rfl⟩ := hx
    exact rep_ev hs ht h1

theorem parts_of (hs : HSim m h w) (ht : RepL m h w t a.tmps.toList) (place : Nat → Option (Nat × Nat)) : ∀ {ps : List (Nat × Operand)} {l : List (Nat × Nat × AO)}, caoParts place ps = some l → PartsV m h w place (l.map fun p => (p.1, p.2.1, ev t p.2.2)) (ps.map fun p => (p.1, a.eval p.2))
  | [], l, hc => by simp only [caoParts, Option.some.injEq] at hc; subst hc; trivial
  | (i, x) :: ps, l, hc => by
    simp only [caoParts, Option.bind_eq_some_iff, Option.map_eq_some_iff] at hc
    obtain ⟨p, h1, b, h2, l', h3, rfl⟩ := hc
    exact ⟨h1, rep_ev hs ht h2, parts_of hs ht place h3⟩

theorem caos_of (hs : HSim m h w) (ht : RepL m h w t a.tmps.toList) : ∀ {xs : List Operand} {l : List AO}, caos xs = some l → RepL m h w (l.map (ev t)) (xs.map a.eval)
  | [], l, hc => by simp only [caos, Option.some.injEq] at hc; subst hc; simp [RepL]
  | x :: xs, l, hc => by
    simp only [caos, Option.bind_eq_some_iff, Option.map_eq_some_iff] at hc
    obtain ⟨b, h1, l', h2, rfl⟩ := hc
    simp only [List.map_cons, RepL]
    exact ⟨_, _, rfl, rep_ev hs ht h1, caos_of hs ht h2⟩

theorem places_of : ∀ (fs : List Field) {l : List (Nat × Nat)}, fieldPlaces P fs = some l → ∀ acc : Array (Nat × Nat), (fs.foldlM (fun (acc : Array (Nat × Nat)) (f : Field) => (do let x ← (do pure (f.offset, ← sizeOf f.type) : Sem (Nat × Nat)); pure (acc.push x))) acc).run P w = .ok (acc ++ l.toArray) w
  | [], l, hc, acc => by simp only [fieldPlaces, Option.some.injEq] at hc; subst hc; simp
  | f :: fs, l, hc, acc => by
    simp only [fieldPlaces, Option.bind_eq_some_iff, Option.map_eq_some_iff] at hc
    obtain ⟨s, h1, l', h2, rfl⟩ := hc
    simp only [List.foldlM_cons, Sem.run_bind, run_sizeOf h1 w, Result.andThen_ok, Sem.run_pure]
    rw [places_of fs h2]
    congr 1
    apply Array.ext'
    simp

theorem run_places {fields : Array Field} {l : List (Nat × Nat)} (hc : fieldPlaces P fields.toList = some l) : (fields.mapM fun f => (do pure (f.offset, ← sizeOf f.type) : Sem (Nat × Nat))).run P w = .ok l.toArray w := by
  have := places_of (P := P) (w := w) fields.toList hc #[]
  rw [Array.mapM_eq_foldlM, ← Array.foldlM_toList]
  simpa using this

theorem vOfBool {x : D} {v : Value} (hx : Rep m h w x v) (b : Bool) (he : x = .bool b) : v = .bool b := by subst he; simpa only [Rep] using hx

theorem nilConst_of {td : TypeDesc} {y : Operand} (hn : nilConst td y = true) {t' : TypeId} (hu : P.underlying t' = some td) : ∃ c, y = .const c ∧ nilOf P t' = some c ∧ tdSort td = nilSort c := by
  unfold nilConst at hn
  split at hn
  · exact ⟨_, rfl, by simp [nilOf, hu], rfl⟩
  · exact ⟨_, rfl, by simp [nilOf, hu], rfl⟩
  · exact ⟨_, rfl, by simp [nilOf, hu], rfl⟩
  · exact ⟨_, rfl, by simp [nilOf, hu], rfl⟩
  · cases hn

theorem eq_sound (hs : HSim m h w) (ht : RepL m h w t a.tmps.toList) {op : BinOp} (ho : op = .eql ∨ op = .neq) {xt : TypeId} {x y : Operand} {ao : AOp} (hc : cEq P op xt x y = some ao) {d : D} {h' : Heap} (ha : aop ao t h = some (d, h')) :
    Yld P (do eqGuard op xt x y (a.eval x) (a.eval y); binOp op xt (a.eval x) (a.eval y)) m h w d h' := by
  have hneg : ∃ neg, isNeq op = neg ∧ ((op = .eql ∧ neg = false) ∨ (op = .neq ∧ neg = true)) := by
    rcases ho with rfl | rfl
    · exact ⟨false, rfl, .inl ⟨rfl, rfl⟩⟩
    · exact ⟨true, rfl, .inr ⟨rfl, rfl⟩⟩
  obtain ⟨neg, hneg, ho⟩ := hneg
  unfold cEq at hc
  simp only [hneg] at hc
  split at hc
  · simp only [Option.bind_eq_some_iff, Option.map_eq_some_iff] at hc
    obtain ⟨b, h1, c, h2, rfl⟩ := hc
    simp only [aop, Option.map_eq_some_iff, Prod.mk.injEq] at ha
    obtain ⟨d', h3, rfl, rfl⟩ := ha
    exact y_arith hs (rep_ev hs ht h1) (rep_ev hs ht h2) h3
  · simp only [Option.bind_eq_some_iff, Option.map_eq_some_iff] at hc
    obtain ⟨b, h1, c, h2, rfl⟩ := hc
    simp only [aop, Option.map_eq_some_iff, Prod.mk.injEq] at ha
    obtain ⟨d', h3, rfl, rfl⟩ := ha
    exact y_arith hs (rep_ev hs ht h1) (rep_ev hs ht h2) h3
  · rename_i hu
    simp only [Option.bind_eq_some_iff, Option.map_eq_some_iff] at hc
    obtain ⟨b, h1, c, h2, rfl⟩ := hc
    simp only [aop] at ha
    split at ha
    · rename_i p q e1 e2
      simp only [Option.some.injEq, Prod.mk.injEq] at ha
      obtain ⟨rfl, rfl⟩ := ha
      exact y_eqb hs ho (e1 ▸ rep_ev hs ht h1) (e2 ▸ rep_ev hs ht h2) hu
    · cases ha
  · simp only [Option.bind_eq_some_iff] at hc
    obtain ⟨ks, hk, ag, hag, hc⟩ := hc
    split at hc
    · rename_i hsome
      simp only [Option.bind_eq_some_iff, Option.map_eq_some_iff] at hc
      obtain ⟨b, h1, c, h2, rfl⟩ := hc
      obtain ⟨n, rfl⟩ := Option.isSome_iff_exists.1 hsome
      simp only [aop] at ha
      split at ha
      · rename_i xs ys e1 e2
        simp only [Option.map_eq_some_iff, Prod.mk.injEq] at ha
        obtain ⟨bb, h3, rfl, rfl⟩ := ha
        exact y_eqa hs ho hag hk (e1 ▸ rep_ev hs ht h1) (e2 ▸ rep_ev hs ht h2) h3
      · cases ha
    · cases hc
  · simp only [Option.bind_eq_some_iff] at hc
    obtain ⟨ks, hk, ag, hag, hc⟩ := hc
    split at hc
    · rename_i hsome
      simp only [Option.bind_eq_some_iff, Option.map_eq_some_iff] at hc
      obtain ⟨b, h1, c, h2, rfl⟩ := hc
      obtain ⟨n, rfl⟩ := Option.isSome_iff_exists.1 hsome
      simp only [aop] at ha
      split at ha
      · rename_i xs ys e1 e2
        simp only [Option.map_eq_some_iff, Prod.mk.injEq] at ha
        obtain ⟨bb, h3, rfl, rfl⟩ := ha
        exact y_eqa hs ho hag hk (e1 ▸ rep_ev hs ht h1) (e2 ▸ rep_ev hs ht h2) h3
      · cases ha
    · cases hc
  · rename_i td _ _ _ _ _ hu
    split at hc
    · rename_i hn
      obtain ⟨c, rfl, hno, hns⟩ := nilConst_of hn hu
      simp only [Option.map_eq_some_iff] at hc
      obtain ⟨b, h1, rfl⟩ := hc
      simp only [aop] at ha
      split at ha
      · rename_i hsort
        simp only [Option.map_eq_some_iff, Prod.mk.injEq] at ha
        obtain ⟨bb, h3, rfl, rfl⟩ := ha
        have hN := isNil_spec hs (rep_ev hs ht h1) h3 hno (by rw [hsort, hns])
        exact Yld.pure hs (hN.run op neg ho x).1 (by simp [Rep])
      · cases ha
    · split at hc
      · rename_i hn
        obtain ⟨c, rfl, hno, hns⟩ := nilConst_of hn hu
        simp only [Option.map_eq_some_iff] at hc
        obtain ⟨b, h1, rfl⟩ := hc
        simp only [aop] at ha
        split at ha
        · rename_i hsort
          simp only [Option.map_eq_some_iff, Prod.mk.injEq] at ha
          obtain ⟨bb, h3, rfl, rfl⟩ := ha
          have hN := isNil_spec hs (rep_ev hs ht h1) h3 hno (by rw [hsort, hns])
          exact Yld.pure hs (hN.run op neg ho y).2 (by simp [Rep])
        · cases ha
      · cases hc
  · cases hc
-- EACH OPERATION.
set_option maxHeartbeats 4000000 in
theorem cop_sound (hs : HSim m h w) (ht : RepL m h w t a.tmps.toList) {o : Oper} {ao : AOp} (hc : cop P o.op o.type = some ao) {d : D} {h' : Heap} (ha : aop ao t h = some (d, h')) : OpYld P a o m h w d h' := by
  obtain ⟨dst, op, type, pos, after, guard⟩ := o
  simp only at hc
  cases op with
  | move x =>
    simp only [cop, Option.map_eq_some_iff] at hc
    obtain ⟨b, h1, rfl⟩ := hc
    simp only [aop, Option.some.injEq, Prod.mk.injEq] at ha
    obtain ⟨rfl, rfl⟩ := ha
    exact ⟨_, m, w, .inl (by simp [execOp]), rep_ev hs ht h1, hs, Evo.refl _ _ _⟩
  | assign x =>
    simp only [cop, Option.map_eq_some_iff] at hc
    obtain ⟨b, h1, rfl⟩ := hc
    simp only [aop, Option.some.injEq, Prod.mk.injEq] at ha
    obtain ⟨rfl, rfl⟩ := ha
    exact ⟨_, m, w, .inl (by simp [execOp]), rep_ev hs ht h1, hs, Evo.refl _ _ _⟩
  | pick c x y =>
    simp only [cop, Option.bind_eq_some_iff, Option.map_eq_some_iff] at hc
    obtain ⟨c', h1, x', h2, y', h3, rfl⟩ := hc
    simp only [aop] at ha
    have hr := rep_ev hs ht h1
    split at ha
    · rename_i e
      simp only [Option.some.injEq, Prod.mk.injEq] at ha
      obtain ⟨rfl, rfl⟩ := ha
      have hb := vOfBool hr _ e
      exact ⟨_, m, w, .inl (by simp [execOp, hb, asBool]), rep_ev hs ht h2, hs, Evo.refl _ _ _⟩
    · rename_i e
      simp only [Option.some.injEq, Prod.mk.injEq] at ha
      obtain ⟨rfl, rfl⟩ := ha
      have hb := vOfBool hr _ e
      exact ⟨_, m, w, .inl (by simp [execOp, hb, asBool]), rep_ev hs ht h3, hs, Evo.refl _ _ _⟩
    · cases ha
  | alloc et =>
    simp only [cop, Option.map_eq_some_iff] at hc
    obtain ⟨z, h1, rfl⟩ := hc
    simp only [aop, Option.some.injEq, Prod.mk.injEq] at ha
    obtain ⟨rfl, rfl⟩ := ha
    exact OpYld.of rfl (y_alloc hs h1)
  | box et x =>
    simp only [cop, Option.map_eq_some_iff] at hc
    obtain ⟨b, h1, rfl⟩ := hc
    simp only [aop] at ha
    split at ha
    · rename_i hl
      simp only [Option.some.injEq, Prod.mk.injEq] at ha
      obtain ⟨rfl, rfl⟩ := ha
      exact OpYld.of rfl (y_box hs (rep_ev hs ht h1) hl)
    · cases ha
  | build et parts =>
    simp only [cop] at hc
    split at hc
    · rename_i fields hu
      simp only [Option.bind_eq_some_iff, Option.map_eq_some_iff] at hc
      obtain ⟨z, h1, pl, h2, l, h3, rfl⟩ := hc
      simp only [aop, Option.map_eq_some_iff, Prod.mk.injEq] at ha
      obtain ⟨cs, h4, rfl, rfl⟩ := ha
      refine OpYld.of (s := Instr.build et (parts.map fun (i, x) => (i, a.eval x))) rfl (y_build hs h1 h4 (.inl ⟨fields, pl.toArray, hu, run_places h2, ?_⟩))
      have := parts_of hs ht _ h3
      simpa using this
    · rename_i n e hu
      simp only [Option.bind_eq_some_iff, Option.map_eq_some_iff] at hc
      obtain ⟨z, h1, sz, h2, l, h3, rfl⟩ := hc
      simp only [aop, Option.map_eq_some_iff, Prod.mk.injEq] at ha
      obtain ⟨cs, h4, rfl, rfl⟩ := ha
      refine OpYld.of (s := Instr.build et (parts.map fun (i, x) => (i, a.eval x))) rfl (y_build hs h1 h4 (.inr ⟨n, e, sz, hu, h2, ?_⟩))
      have := parts_of hs ht _ h3
      simpa using this
    · cases hc
  | buildSlice et len parts =>
    simp only [cop] at hc
    split at hc
    · rename_i e hu
      simp only [Option.bind_eq_some_iff] at hc
      obtain ⟨z, h1, sz, h2, hc⟩ := hc
      split at hc
      · rename_i hl
        simp only [Option.map_eq_some_iff] at hc
        obtain ⟨l, h3, rfl⟩ := hc
        simp only [aop, Option.map_eq_some_iff, Prod.mk.injEq] at ha
        obtain ⟨cs, h4, rfl, rfl⟩ := ha
        have hp := parts_of hs ht _ h3
        refine OpYld.of (s := Instr.buildSlice et len (parts.map fun (i, x) => (i, a.eval x))) rfl (y_bslice hs hu h2 h1 hl.1 hl.2 h4 ?_ (by simpa using hp))
        have flen : ∀ (ds : List (Nat × Nat × D)) (c c' : List D), fillD c ds = some c' → c'.length = c.length := by
          intro ds
          induction ds with
          | nil => intro c c' hf; simp only [fillD, Option.some.injEq] at hf; rw [hf]
          | cons p ds ih =>
            intro c c' hf
            obtain ⟨off, size, x⟩ := p
            simp only [fillD] at hf
            split at hf
            · rename_i hcc
              rw [ih _ _ hf, splice_eq _ _ _ (by omega)]
              simp; omega
            · cases hf
        rw [flen _ _ _ h4, flat_len, hl.1]
      · cases hc
    · cases hc
  | load et x =>
    simp only [cop, Option.bind_eq_some_iff, Option.map_eq_some_iff] at hc
    obtain ⟨ag, h1, b, h2, rfl⟩ := hc
    simp only [aop, Option.bind_eq_some_iff, Option.map_eq_some_iff, Prod.mk.injEq] at ha
    obtain ⟨cs, h3, d', h4, rfl, rfl⟩ := ha
    exact OpYld.of rfl (y_load hs h1 (rep_ev hs ht h2) h3 h4)
  | store et x y =>
    simp only [cop, Option.bind_eq_some_iff, Option.map_eq_some_iff] at hc
    obtain ⟨n, h1, b, h2, c, h3, rfl⟩ := hc
    simp only [aop] at ha
    split at ha
    · rename_i hl
      simp only [Option.map_eq_some_iff, Prod.mk.injEq] at ha
      obtain ⟨hh, h4, rfl, rfl⟩ := ha
      obtain ⟨w', q1, q2, q3⟩ := y_store hs h1 (rep_ev hs ht h2) (rep_ev hs ht h3) hl.1 hl.2 h4
      exact ⟨undef, m, w', .inr ⟨rfl, by simp [execOp, q1]⟩, by simp [Rep], q2, q3⟩
    · cases ha
  | nilCheck x =>
    simp only [cop, Option.map_eq_some_iff] at hc
    obtain ⟨b, h1, rfl⟩ := hc
    have hr := rep_ev hs ht h1
    simp only [aop] at ha
    have key : ∀ (q : D), ev t b = q → fieldAddr h 0 q ≠ none → OpYld P a ⟨dst, .nilCheck x, type, pos, after, guard⟩ m h w q h := by
      intro q hq hf
      obtain ⟨f, hf⟩ := Option.ne_none_iff_exists'.1 hf
      rw [hq] at hr
      obtain ⟨ad, hv⟩ := y_nilchk hs hr hf
      exact ⟨_, m, w, .inl (by simp [execOp, hv]; rfl), by rw [← hv]; exact hr, hs, Evo.refl _ _ _⟩
    split at ha
    · rename_i r o e
      simp only [Option.map_eq_some_iff, Prod.mk.injEq] at ha
      obtain ⟨f, hf, rfl, rfl⟩ := ha
      exact key _ e (by rw [hf]; simp)
    · rename_i r n o e
      simp only [Option.map_eq_some_iff, Prod.mk.injEq] at ha
      obtain ⟨f, hf, rfl, rfl⟩ := ha
      exact key _ e (by rw [hf]; simp)
    · rename_i cs e
      simp only [Option.some.injEq, Prod.mk.injEq] at ha
      obtain ⟨rfl, rfl⟩ := ha
      exact key _ e (by simp [fieldAddr])
    · cases ha
  | binOp op xt x y yt =>
    have plain : (op ≠ .eql ∧ op ≠ .neq) → (cao x).bind (fun a => (cao y).map fun b => AOp.bin op a b) = some ao → OpYld P a ⟨dst, .binOp op xt x y yt, type, pos, after, guard⟩ m h w d h' := by
      intro _ hc
      simp only [Option.bind_eq_some_iff, Option.map_eq_some_iff] at hc
      obtain ⟨b, h1, c, h2, rfl⟩ := hc
      simp only [aop, Option.map_eq_some_iff, Prod.mk.injEq] at ha
      obtain ⟨d', h3, rfl, rfl⟩ := ha
      exact OpYld.of (s := do eqGuard op xt x y (a.eval x) (a.eval y); binOp op xt (a.eval x) (a.eval y)) rfl (y_arith hs (rep_ev hs ht h1) (rep_ev hs ht h2) h3)
    cases op
    case eql => exact OpYld.of (s := do eqGuard .eql xt x y (a.eval x) (a.eval y); binOp .eql xt (a.eval x) (a.eval y)) rfl (eq_sound hs ht (.inl rfl) hc ha)
    case neq => exact OpYld.of (s := do eqGuard .neq xt x y (a.eval x) (a.eval y); binOp .neq xt (a.eval x) (a.eval y)) rfl (eq_sound hs ht (.inr rfl) hc ha)
    all_goals exact plain ⟨by simp, by simp⟩ hc
  | unOp op xt x =>
    simp only [cop, Option.map_eq_some_iff] at hc
    obtain ⟨b, h1, rfl⟩ := hc
    simp only [aop, Option.map_eq_some_iff, Prod.mk.injEq] at ha
    obtain ⟨d', h3, rfl, rfl⟩ := ha
    exact OpYld.of rfl (y_unop hs (rep_ev hs ht h1) h3)
  | convert src dt x =>
    simp only [cop] at hc
    split at hc
    · rename_i td k hu hd
      simp only [Option.map_eq_some_iff] at hc
      obtain ⟨b, h1, rfl⟩ := hc
      simp only [aop] at ha
      split at ha
      · rename_i k' n e
        simp only [Option.some.injEq, Prod.mk.injEq] at ha
        obtain ⟨rfl, rfl⟩ := ha
        exact OpYld.of rfl (y_conv hs hu hd (e ▸ rep_ev hs ht h1))
      · cases ha
    · rename_i e hu hd
      split at hc
      · rename_i he
        simp only [Option.map_eq_some_iff] at hc
        obtain ⟨b, h1, rfl⟩ := hc
        simp only [aop, Option.bind_eq_some_iff, Option.map_eq_some_iff, Prod.mk.injEq] at ha
        obtain ⟨p, h2, l, h3, rfl, rfl⟩ := ha
        exact OpYld.of rfl (y_b2s hs hu he hd (rep_ev hs ht h1) (cs := p.1) (n := p.2) h2 h3)
      · cases hc
    · rename_i e hu hd
      split at hc
      · rename_i he
        simp only [Option.map_eq_some_iff] at hc
        obtain ⟨b, h1, rfl⟩ := hc
        simp only [aop] at ha
        split at ha
        · rename_i s e1
          simp only [Option.some.injEq, Prod.mk.injEq] at ha
          obtain ⟨rfl, rfl⟩ := ha
          exact OpYld.of rfl (y_s2b hs hu hd he (e1 ▸ rep_ev hs ht h1))
        · cases ha
      · cases hc
    · cases hc
  | makeFunc f first cap =>
    simp only [cop, Option.bind_eq_some_iff, Option.map_eq_some_iff] at hc
    obtain ⟨b, h1, c, h2, rfl⟩ := hc
    simp only [aop, Option.some.injEq, Prod.mk.injEq] at ha
    obtain ⟨rfl, rfl⟩ := ha
    refine OpYld.of rfl (Yld.pure (v := .func f (first.map a.eval) (cap.map a.eval)) hs (by simp [Instr.makeFunc]) ?_)
    simp only [Rep]
    exact ⟨first.toList.map a.eval, cap.toList.map a.eval, by congr 1 <;> (apply Array.ext'; simp), caos_of hs ht h1, caos_of hs ht h2⟩
  | makeSlice et l c =>
    simp only [cop] at hc
    split at hc
    · rename_i e hu
      simp only [Option.bind_eq_some_iff] at hc
      obtain ⟨z, h1, sz, h2, by_, h3, hc⟩ := hc
      split at hc
      · rename_i hl
        simp only [Option.bind_eq_some_iff, Option.map_eq_some_iff] at hc
        obtain ⟨b, h4, c', h5, rfl⟩ := hc
        simp only [aop] at ha
        split at ha
        · rename_i i j e1 e2
          split at ha
          · rename_i hb
            simp only [Option.some.injEq, Prod.mk.injEq] at ha
            obtain ⟨rfl, rfl⟩ := ha
            exact OpYld.of rfl (y_mks hs hu h2 h3 h1 hl (e1 ▸ rep_ev hs ht h4) (e2 ▸ rep_ev hs ht h5) hb.1 hb.2.1 hb.2.2.1 hb.2.2.2)
          · cases ha
        · cases ha
      · cases hc
    · cases hc
  | slice et x lo hi mx =>
    simp only [cop] at hc
    split at hc
    · rename_i e hu
      simp only [Option.bind_eq_some_iff, Option.map_eq_some_iff] at hc
      obtain ⟨sz, h1, b, h2, l, h3, r, h4, rfl⟩ := hc
      simp only [aop, Option.map_eq_some_iff, Prod.mk.injEq] at ha
      obtain ⟨d', h5, rfl, rfl⟩ := ha
      exact OpYld.of (s := Instr.sliceAt et (a.eval x) (lo.map a.eval) (hi.map a.eval) none) rfl (y_slc hs hu h1 (rep_ev hs ht h2) (bndV_of hs ht h3) (bndV_of hs ht h4) h5)
    · rename_i e k2 hu
      split at hc
      · rename_i k1
        simp only [Option.bind_eq_some_iff, Option.map_eq_some_iff] at hc
        obtain ⟨sz, h1, b, h2, rfl⟩ := hc
        obtain ⟨q1, q2⟩ := y_slc0 (P := P) hs hu h1 (d := .any) (rep_ev hs ht h2) (k1 := k1) (k2 := k2)
        simp only [aop] at ha
        split at ha
        · rename_i e1
          simp only [Option.some.injEq, Prod.mk.injEq] at ha
          obtain ⟨rfl, rfl⟩ := ha
          exact OpYld.of rfl (q1 e1)
        · rename_i e1
          simp only [Option.map_eq_some_iff, Prod.mk.injEq] at ha
          obtain ⟨n, hn, rfl, rfl⟩ := ha
          exact OpYld.of rfl (q2 n hn e1)
      · cases hc
    · rename_i hu
      simp only [Option.bind_eq_some_iff, Option.map_eq_some_iff] at hc
      obtain ⟨b, h2, l, h3, r, h4, rfl⟩ := hc
      simp only [aop] at ha
      split at ha
      · rename_i s e1
        simp only [Option.bind_eq_some_iff, Option.map_eq_some_iff, Prod.mk.injEq] at ha
        obtain ⟨p, h5, q, h6, rfl, rfl⟩ := ha
        exact OpYld.of (s := Instr.sliceAt et (a.eval x) (lo.map a.eval) (hi.map a.eval) none) rfl (y_sstr hs hu (e1 ▸ rep_ev hs ht h2) (bndV_of hs ht h3) (bndV_of hs ht h4) h5 h6)
      · cases ha
    · rename_i n e hu
      simp only [Option.bind_eq_some_iff, Option.map_eq_some_iff] at hc
      obtain ⟨sz, h1, b, h2, l, h3, r, h4, rfl⟩ := hc
      simp only [aop] at ha
      split at ha
      · rename_i rr off e1
        have hr := rep_ev hs ht h2
        rw [e1] at hr
        have hmain : ∀ cs, (h[rr]? = some (.box cs) ∨ h[rr]? = some (.icebox cs)) → ((bnd (r.map (ev t)) n n).bind fun b => (bnd (l.map (ev t)) 0 b).bind fun a => if a < n then some (D.bsl rr (off + a * sz) (b - a), h) else some (D.sl [] 0 false, h)) = some (d, h') → OpYld P a ⟨dst, .slice et x lo hi none, type, pos, after, guard⟩ m h w d h' := by
          intro cs hcs ha
          simp only [Option.bind_eq_some_iff] at ha
          obtain ⟨p, h5, q, h6, ha⟩ := ha
          have := (y_sarr hs hu h1 hr (bndV_of hs ht h3) (bndV_of hs ht h4) h5 h6).1 rr off cs rfl hcs
          split at ha
          · rename_i hq
            simp only [Option.some.injEq, Prod.mk.injEq] at ha
            obtain ⟨rfl, rfl⟩ := ha
            rw [if_pos hq] at this
            exact OpYld.of (s := Instr.sliceAt et (a.eval x) (lo.map a.eval) (hi.map a.eval) none) rfl this
          · rename_i hq
            simp only [Option.some.injEq, Prod.mk.injEq] at ha
            obtain ⟨rfl, rfl⟩ := ha
            rw [if_neg hq] at this
            exact OpYld.of (s := Instr.sliceAt et (a.eval x) (lo.map a.eval) (hi.map a.eval) none) rfl this
        split at ha
        · rename_i cs e2; exact hmain cs (.inl e2) ha
        · rename_i cs e2; exact hmain cs (.inr e2) ha
        · cases ha
      · rename_i cs e1
        have hr := rep_ev hs ht h2
        rw [e1] at hr
        simp only [Option.bind_eq_some_iff, Option.map_eq_some_iff, Prod.mk.injEq] at ha
        obtain ⟨p, h5, q, h6, rfl, rfl⟩ := ha
        exact OpYld.of (s := Instr.sliceAt et (a.eval x) (lo.map a.eval) (hi.map a.eval) none) rfl ((y_sarr hs hu h1 hr (bndV_of hs ht h3) (bndV_of hs ht h4) h5 h6).2 cs rfl)
      · cases ha
    · cases hc
  | fieldAddr et x f =>
    simp only [cop] at hc
    split at hc
    · rename_i fields hu
      simp only [Option.bind_eq_some_iff] at hc
      obtain ⟨fd, h1, sz, h2, hc⟩ := hc
      split at hc
      · cases hc
      · rename_i hz0
        simp only [Option.map_eq_some_iff] at hc
        obtain ⟨b, h3, rfl⟩ := hc
        simp only [aop, Option.map_eq_some_iff, Prod.mk.injEq] at ha
        obtain ⟨d', h4, rfl, rfl⟩ := ha
        exact OpYld.of rfl (y_fieldAddr hs hu h1 h2 hz0 (rep_ev hs ht h3) h4)
    · cases hc
  | field et x f =>
    simp only [cop] at hc
    split at hc
    · rename_i fields hu
      simp only [Option.bind_eq_some_iff, Option.map_eq_some_iff] at hc
      obtain ⟨fd, h1, ag, h2, b, h3, rfl⟩ := hc
      simp only [aop] at ha
      split at ha
      · rename_i cs e1
        simp only [Option.map_eq_some_iff, Prod.mk.injEq] at ha
        obtain ⟨d', h4, rfl, rfl⟩ := ha
        exact OpYld.of rfl (y_field hs (ft := 0) hu h1 h2 (e1 ▸ rep_ev hs ht h3) h4)
      · cases ha
    · cases hc
  | sliceToArrayPointer et x =>
    simp only [cop] at hc
    split at hc
    · rename_i n e hu
      split at hc
      · rename_i hn
        simp only [Option.bind_eq_some_iff, Option.map_eq_some_iff] at hc
        obtain ⟨sz, h1, b, h2, rfl⟩ := hc
        simp only [aop, Option.bind_eq_some_iff, Option.map_eq_some_iff, Prod.mk.injEq] at ha
        obtain ⟨i, h3, d', h4, rfl, rfl⟩ := ha
        exact OpYld.of rfl (y_s2a hs hu hn (rep_ev hs ht h2) h3 h4)
      · cases hc
    · cases hc
  | indexAddr et x i =>
    simp only [cop] at hc
    split at hc
    · rename_i e hu
      simp only [Option.bind_eq_some_iff, Option.map_eq_some_iff] at hc
      obtain ⟨sz, h1, b, h2, c, h3, rfl⟩ := hc
      simp only [aop, Option.map_eq_some_iff, Prod.mk.injEq] at ha
      obtain ⟨d', h4, rfl, rfl⟩ := ha
      exact OpYld.of rfl (y_ixs hs hu h1 (rep_ev hs ht h2) (rep_ev hs ht h3) h4)
    · rename_i n e hu
      simp only [Option.bind_eq_some_iff, Option.map_eq_some_iff] at hc
      obtain ⟨sz, h1, b, h2, c, h3, rfl⟩ := hc
      simp only [aop, Option.bind_eq_some_iff, Option.map_eq_some_iff, Prod.mk.injEq] at ha
      obtain ⟨j, h4, d', h5, rfl, rfl⟩ := ha
      exact OpYld.of rfl (y_ixa hs hu h1 (rep_ev hs ht h2) (rep_ev hs ht h3) h4 h5)
    · cases hc
  | index et x i =>
    simp only [cop] at hc
    split at hc
    · rename_i hu
      simp only [Option.bind_eq_some_iff, Option.map_eq_some_iff] at hc
      obtain ⟨b, h2, c, h3, rfl⟩ := hc
      simp only [aop] at ha
      split at ha
      · rename_i s k j e1 e2
        split at ha
        · rename_i h0
          simp only [Option.map_eq_some_iff, Prod.mk.injEq] at ha
          obtain ⟨bb, h4, rfl, rfl⟩ := ha
          exact OpYld.of rfl (y_index_str hs hu (e1 ▸ rep_ev hs ht h2) (e2 ▸ rep_ev hs ht h3) h0 h4)
        · cases ha
      · cases ha
    · rename_i n e hu
      simp only [Option.bind_eq_some_iff, Option.map_eq_some_iff] at hc
      obtain ⟨sz, h0, ag, h1, b, h2, c, h3, rfl⟩ := hc
      simp only [aop] at ha
      split at ha
      · rename_i cs e1
        simp only [Option.bind_eq_some_iff, Option.map_eq_some_iff, Prod.mk.injEq] at ha
        obtain ⟨j, h4, d', h5, rfl, rfl⟩ := ha
        exact OpYld.of rfl (y_index_arr hs hu h0 h1 (e1 ▸ rep_ev hs ht h2) (rep_ev hs ht h3) h4 h5)
      · cases ha
    · cases hc
  | extract x i =>
    simp only [cop, Option.map_eq_some_iff] at hc
    obtain ⟨b, h1, rfl⟩ := hc
    simp only [aop] at ha
    split at ha
    · rename_i vs e1
      simp only [Option.map_eq_some_iff, Prod.mk.injEq] at ha
      obtain ⟨d', h2, rfl, rfl⟩ := ha
      exact OpYld.of rfl (y_extract hs (e1 ▸ rep_ev hs ht h1) h2)
    · cases ha
  | call c =>
    obtain ⟨callee, args, tys⟩ := c
    cases callee with
    | builtin b =>
      obtain ⟨args⟩ := args
      obtain ⟨tys⟩ := tys
      have hexec : ∀ (s : Sem Value), (∀ consts, builtin b tys.toArray type consts ((args.map a.eval).toArray) = (do pure (.value (← s)))) → Yld P s m h w d h' → OpYld P a ⟨dst, .call ⟨.builtin b, args.toArray, tys.toArray⟩, type, pos, after, guard⟩ m h w d h' := by
        intro s hb hy
        refine OpYld.of (s := s) ?_ hy
        simp [execOp, resolve, invoke, hb]
      cases b
      case len =>
        simp only [cop] at hc
        split at hc
        · rename_i x ty'
          split at hc
          · rename_i hu
            simp only [Option.map_eq_some_iff] at hc
            obtain ⟨b, h1, rfl⟩ := hc
            simp only [aop] at ha
            split at ha
            · rename_i hsort
              simp only [Option.map_eq_some_iff, Prod.mk.injEq] at ha
              obtain ⟨n, h2, rfl, rfl⟩ := ha
              exact hexec (Builtin.len_ #[ty'] type #[a.eval x]) (fun _ => rfl) (y_len hs hu (rep_ev hs ht h1) h2 (.inl ⟨rfl, hsort⟩) type)
            · cases ha
          · rename_i e hu
            simp only [Option.map_eq_some_iff] at hc
            obtain ⟨b, h1, rfl⟩ := hc
            simp only [aop] at ha
            split at ha
            · rename_i hsort
              simp only [Option.map_eq_some_iff, Prod.mk.injEq] at ha
              obtain ⟨n, h2, rfl, rfl⟩ := ha
              exact hexec (Builtin.len_ #[ty'] type #[a.eval x]) (fun _ => rfl) (y_len hs hu (rep_ev hs ht h1) h2 (.inr ⟨⟨e, rfl⟩, hsort⟩) type)
            · cases ha
          · rename_i n e hu
            injection hc with hc
            subst hc
            simp only [aop, Option.some.injEq, Prod.mk.injEq] at ha
            obtain ⟨rfl, rfl⟩ := ha
            exact hexec (Builtin.len_ #[ty'] type #[a.eval x]) (fun _ => rfl) (Yld.pure (v := .int .i64 n) hs (by simp [Builtin.len_, run_under hu w, goInt]) (by simp [Rep]))
          · rename_i kt et hu
            simp only [Option.map_eq_some_iff] at hc
            obtain ⟨b, h1, rfl⟩ := hc
            simp only [aop, Option.map_eq_some_iff, Prod.mk.injEq] at ha
            obtain ⟨es, h2, rfl, rfl⟩ := ha
            exact hexec (Builtin.len_ #[ty'] type #[a.eval x]) (fun _ => rfl) (y_maplen hs hu (rep_ev hs ht h1) h2)
          · cases hc
        · cases hc
      case append =>
        simp only [cop] at hc
        split at hc
        · rename_i x y t1 t2
          split at hc
          · rename_i e e' hu hu'
            simp only [Option.bind_eq_some_iff] at hc
            obtain ⟨z, h1, sz, h2, by_, h3, hc⟩ := hc
            split at hc
            · rename_i hl
              simp only [Option.bind_eq_some_iff, Option.map_eq_some_iff] at hc
              obtain ⟨b, h4, c, h5, rfl⟩ := hc
              simp only [aop] at ha
              split at ha
              · rename_i hsort
                simp only [Option.bind_eq_some_iff] at ha
                obtain ⟨p, h6, ha⟩ := ha
                split at ha
                · rename_i hone
                  exact hexec (Builtin.append_ #[t1, t2] type #[a.eval x, a.eval y]) (fun _ => rfl) (y_append hs hu h2 h3 h1 hl (rep_ev hs ht h4) (rep_ev hs ht h5) (ys := p.1) (k := p.2) h6 hone (.inr ⟨⟨e', hu'⟩, hsort⟩) ha)
                · cases ha
              · cases ha
            · cases hc
          · rename_i e hu hu'
            simp only [Option.bind_eq_some_iff] at hc
            obtain ⟨z, h1, sz, h2, by_, h3, hc⟩ := hc
            split at hc
            · rename_i hl
              simp only [Option.bind_eq_some_iff, Option.map_eq_some_iff] at hc
              obtain ⟨b, h4, c, h5, rfl⟩ := hc
              simp only [aop] at ha
              split at ha
              · rename_i hsort
                simp only [Option.bind_eq_some_iff] at ha
                obtain ⟨p, h6, ha⟩ := ha
                split at ha
                · rename_i hone
                  exact hexec (Builtin.append_ #[t1, t2] type #[a.eval x, a.eval y]) (fun _ => rfl) (y_append hs hu h2 h3 h1 hl (rep_ev hs ht h4) (rep_ev hs ht h5) (ys := p.1) (k := p.2) h6 hone (.inl ⟨hu', hsort⟩) ha)
                · cases ha
              · cases ha
            · cases hc
          · cases hc
        · cases hc
      case copy =>
        simp only [cop] at hc
        split at hc
        · rename_i x y t1 t2
          split at hc
          · rename_i e hu
            simp only [Option.bind_eq_some_iff, Option.map_eq_some_iff] at hc
            obtain ⟨sz, h2, b, h4, c, h5, rfl⟩ := hc
            simp only [aop, Option.bind_eq_some_iff] at ha
            obtain ⟨n, h6, p, h7, ha⟩ := ha
            split at ha
            · rename_i hone
              simp only [Option.map_eq_some_iff, Prod.mk.injEq] at ha
              obtain ⟨hh, h8, rfl, rfl⟩ := ha
              exact hexec (Builtin.copy_ #[t1, t2] type #[a.eval x, a.eval y]) (fun _ => rfl) (y_copy hs hu h2 (rep_ev hs ht h4) (rep_ev hs ht h5) h6 (ys := p.1) (k := p.2) h7 hone h8)
            · cases ha
          · cases hc
        · cases hc
      case min =>
        simp only [cop] at hc
        split at hc
        · rename_i x y
          simp only [Option.bind_eq_some_iff, Option.map_eq_some_iff] at hc
          obtain ⟨b, h4, c, h5, rfl⟩ := hc
          simp only [aop, Option.map_eq_some_iff, Prod.mk.injEq] at ha
          obtain ⟨d', h6, rfl, rfl⟩ := ha
          have r1 := rep_ev hs ht h4
          have r2 := rep_ev hs ht h5
          unfold mnxD at h6
          split at h6
          · rename_i k p k' q e1 e2
            injection h6 with h6; subst h6
            rw [e1] at r1; rw [e2] at r2
            simp only [Rep] at r1 r2
            exact hexec (Builtin.min_ tys.toArray type #[a.eval x, a.eval y]) (fun _ => rfl) (Yld.pure (v := .int k (if q < p then q else p)) hs (by simp [Builtin.min_, r1, r2, Builtin.min2]) (by simp [Rep]))
          · cases h6
        · cases hc
      case max =>
        simp only [cop] at hc
        split at hc
        · rename_i x y
          simp only [Option.bind_eq_some_iff, Option.map_eq_some_iff] at hc
          obtain ⟨b, h4, c, h5, rfl⟩ := hc
          simp only [aop, Option.map_eq_some_iff, Prod.mk.injEq] at ha
          obtain ⟨d', h6, rfl, rfl⟩ := ha
          have r1 := rep_ev hs ht h4
          have r2 := rep_ev hs ht h5
          unfold mnxD at h6
          split at h6
          · rename_i k p k' q e1 e2
            injection h6 with h6; subst h6
            rw [e1] at r1; rw [e2] at r2
            simp only [Rep] at r1 r2
            exact hexec (Builtin.max_ tys.toArray type #[a.eval x, a.eval y]) (fun _ => rfl) (Yld.pure (v := .int k (if q > p then q else p)) hs (by simp [Builtin.max_, r1, r2, Builtin.max2]) (by simp [Rep]))
          · cases h6
        · cases hc
      all_goals (simp [cop] at hc; done)
    | value f => simp [cop] at hc
    | invoke r n => simp [cop] at hc
  | makeMap mt hnt =>
    cases hnt with
    | some x => simp [cop] at hc
    | none =>
      simp only [cop, Option.some.injEq] at hc
      subst hc
      simp only [aop, Option.some.injEq, Prod.mk.injEq] at ha
      obtain ⟨rfl, rfl⟩ := ha
      exact OpYld.of (s := Instr.makeMap mt none) rfl (y_mkmap hs)
  | lookup mt x i ok =>
    cases ok with
    | true => simp [cop] at hc
    | false =>
      simp only [cop] at hc
      split at hc
      · rename_i kt et hu
        split at hc
        · rename_i kk z hk hz
          simp only [Option.bind_eq_some_iff, Option.map_eq_some_iff] at hc
          obtain ⟨b, h1, c, h2, rfl⟩ := hc
          simp only [aop] at ha
          split at ha
          · rename_i k n e1
            simp only [Option.bind_eq_some_iff, Option.map_eq_some_iff, Prod.mk.injEq] at ha
            obtain ⟨es, g1, q, g2, rfl, rfl⟩ := ha
            have r2 := rep_ev hs ht h2
            rw [e1] at r2
            simp only [Rep] at r2
            refine OpYld.of (s := Instr.lookup mt (a.eval x) (a.eval i) false) rfl ?_
            rw [r2]
            exact y_mapget hs hu hk hz (rep_ev hs ht h1) g1 g2
          · cases ha
        · cases hc
      · cases hc
  | mapUpdate mt x i y =>
    simp only [cop] at hc
    split at hc
    · rename_i kt et hu
      split at hc
      · rename_i kk hk
        simp only [Option.bind_eq_some_iff, Option.map_eq_some_iff] at hc
        obtain ⟨b, h1, c, h2, b3, h3, rfl⟩ := hc
        simp only [aop] at ha
        split at ha
        · rename_i r k n e0 e1
          simp only [Option.bind_eq_some_iff, Option.map_eq_some_iff, Prod.mk.injEq] at ha
          obtain ⟨es, g1, q, g2, rfl, rfl⟩ := ha
          have r2 := rep_ev hs ht h2
          rw [e1] at r2
          simp only [Rep] at r2
          obtain ⟨w', q1, q2, q3⟩ := y_mapset (P := P) hs hu hk (v := .any) (e0 ▸ rep_ev hs ht h1) (rep_ev hs ht h3) g1 g2
          exact ⟨undef, m, w', .inr ⟨rfl, by simp [execOp, r2, q1]⟩, by simp [Rep], q2, q3⟩
        · cases ha
      · cases hc
    · cases hc
  | _ => simp [cop] at hc
end
end Go.YtodlpcoffmnmbaaDoor
