/-
  Own work. The value machine, part N: operations one behind the other, and in whatever order.
-/
import Derived.Test.YtodlpcoffmnmbaaDoorVm
namespace Go.YtodlpcoffmnmbaaDoor
open Go
set_option linter.unusedVariables false
set_option linter.unusedSimpArgs false

/-- A call of a function without a body, which the model answers by itself. -/
def xop (P : Program) (o : Op) : Option AOp :=
  match o with
  | .call ⟨.value (.func i), args, _⟩ => match P.funcs[i]? with
    | some fn => match fn.body with
      | some _ => none
      | none => match args.toList with
        | [x, c] => if fn.name = "internal/bytealg.IndexByteString" ∧ fn.origin = "" then (cao x).bind fun a => (cao c).map fun b => .ixb a b else none
        | _ => none
    | none => none
  | _ => none

theorem xop_alloc {P : Program} {o : Op} {z : List D} : xop P o ≠ some (.alloc z) := by
  intro h
  unfold xop at h
  repeat' split at h
  all_goals try (cases h; done)
  simp only [Option.bind_eq_some_iff, Option.map_eq_some_iff] at h
  obtain ⟨_, _, _, _, h⟩ := h
  cases h

theorem ixb_next {fn : Func} (h1 : fn.name = "internal/bytealg.IndexByteString") (h2 : fn.origin = "") : Extern.findNext fn = none := by
  cases fn; simp only at h1 h2; subst h1; subst h2; kernel_rfl
theorem ixb_find {fn : Func} (h1 : fn.name = "internal/bytealg.IndexByteString") (h2 : fn.origin = "") : Extern.find fn = some Extern.BytealgIndexByte.indexByte := by
  cases fn; simp only at h1 h2; subst h1; subst h2; kernel_rfl

theorem xop_sound {P : Program} {m : Mu} {h : Heap} {w : World} {a : Act} {t : List D} (hs : HSim m h w) (ht : RepL m h w t a.tmps.toList) {o : Oper} {ao : AOp} (hc : xop P o.op = some ao) {d : D} {h' : Heap} (ha : aop ao t h = some (d, h')) : OpYld P a o m h w d h' := by
  unfold xop at hc
  split at hc
  · rename_i i args tys hop
    split at hc
    · rename_i fn hfn
      split at hc
      · cases hc
      · rename_i hb
        split at hc
        · rename_i x c hargs
          split at hc
          · rename_i hn
            simp only [Option.bind_eq_some_iff, Option.map_eq_some_iff] at hc
            obtain ⟨b1, h1, b2, h2, rfl⟩ := hc
            simp only [aop] at ha
            split at ha
            · rename_i s n e1 e2
              injection ha with ha
              injection ha with ha1 ha2
              subst ha1; subst ha2
              have r1 := rep_ev hs ht h1
              have r2 := rep_ev hs ht h2
              rw [e1] at r1; rw [e2] at r2
              simp only [Rep] at r1 r2
              refine ⟨.int .i64 (Lib.indexByte s.data.toList n.toNat.toUInt8), m, w, .inl ?_, (by simp only [Rep]), hs, Evo.refl _ _ _⟩
              have hargs' : args.map a.eval = #[.string s, .int .u8 n] := by
                apply Array.ext'
                rw [Array.toList_map, hargs]
                simp [r1, r2]
              have hcf : ∀ as : Array Value, (callFunc i as).run P w = ((Extern.BytealgIndexByte.indexByte as).run P w).andThen fun v w' => .ok (.value v) w' := fun as =>
                run_callFunc_extern hfn (by rw [hn.1]; kernel_rfl) (by rw [hb]; rfl) (ixb_next hn.1 hn.2) (ixb_find hn.1 hn.2) as w
              have hv : a.eval (.func i) = .func (.func i) #[] #[] := rfl
              simp only [execOp, hop, resolve, hv, Deferred.ofValue, Sem.run_bind, Sem.run_pure, Result.andThen_ok, invoke, hcf, hargs']
              have e3 : ((#[] : Array Value) ++ #[.string s, .int .u8 n] ++ #[]) = #[.string s, .int .u8 n] := rfl
              rw [e3, Lib.run_indexByteString]
              rfl
            · cases ha
          · cases hc
        · cases hc
    · cases hc
  · cases hc

/-- An operation of a region as a statement of plain data. -/
def cstm (P : Program) (ops : Array Oper) (o : Oper) : Option AStm :=
  (match o.guard with
   | none => some none
   | some (j, b) => match (ops[j]?).bind (·.dst) with
     | some s => some (some (s, b))
     | none => none).bind fun g =>
  match xop P o.op with
  | some ao => some (.op o.dst g ao)
  | none => match o.op with
    | .call ⟨.value f, args, _⟩ => (cao f).bind fun f' => (caos args.toList).map fun l => .call o.dst g f' l
    | op => (cop P op o.type).map fun ao => .op o.dst g ao

def csts (P : Program) (ops : Array Oper) : List Oper → Option (List AStm)
  | [] => some []
  | o :: os => (cstm P ops o).bind fun s => (csts P ops os).map fun l => s :: l

theorem cstm_noW {P : Program} {ops : Array Oper} {o : Oper} {dst : Option Nat} {f : AO} {a : List AO} (hc : cstm P ops o = some (.callW dst f a)) : False := by
  simp only [cstm, Option.bind_eq_some_iff] at hc
  obtain ⟨g, _, hc⟩ := hc
  split at hc
  · simp at hc
  · split at hc
    · simp [Option.bind_eq_some_iff, Option.map_eq_some_iff] at hc
    · simp [Option.map_eq_some_iff] at hc
theorem aregs_cons (P : Program) (s : AStm) (rest : List AStm) (st : St) (K : St → Prop) : aregs P (s :: rest) st K = aregs P [s] st fun st' => aregs P rest st' K := by
  cases s <;> rfl

theorem rep_undef (m : Mu) (h : Heap) (w : World) : Rep m h w (.tup []) undef := by
  simp only [Rep]
  exact ⟨[], rfl, by simp [RepL]⟩

section
variable {P : Program} {m : Mu} {w : World} {a : Act} {st : St} {B : Nat} {ro : Option Nat}

theorem Sim.put {m' : Mu} {w' : World} {h' : Heap} (hs : Sim B m st a w) (he : Evo m st.h w m' h' w') (hh : HSim m' h' w') {d : D} {v : Value} (hv : Rep m' h' w' d v) (dst : Option Nat) : Sim B m' ⟨setD st.t dst d, h'⟩ (a.put dst v) w' := by
  refine ⟨?_, ?_, hh⟩
  · have hd := hs.defers.evo he
    cases dst <;> exact hd
  · have ht := hs.tmps.evo he
    cases dst with
    | none => exact ht
    | some i =>
      simp only [setD, Act.put, Array.toList_setIfInBounds]
      exact ht.set i hv

theorem muSet_id (m : Mu) (r : Nat) : muSet m r (m r) = m := by
  funext s
  by_cases e : s = r
  · subst e; exact muSet_same _ _ _
  · exact muSet_ne _ _ e

/-- A loop's record, or what becomes of it, in place. -/
theorem put_block {h : Heap} (hs : HSim m h w) {r : Nat} {b b' : Blk} (hr : h[r]? = some b) (ho : b.owned = true) (o : Obj) (hst : BStep m m r b b')
    (hb : Evo m h w m (h.set r b') (w.putObj (m r).1 o) → BlkOk m (h.set r b') (w.putObj (m r).1 o) r b') : HSim m (h.set r b') (w.putObj (m r).1 o) ∧ Evo m h w m (h.set r b') (w.putObj (m r).1 o) := by
  have hst' : BStep m (muSet m r (m r)) r b b' := by rw [muSet_id]; exact hst
  have h5 : ∀ k, k < w.heap.size → k ≠ (m r).1 → (w.putObj (m r).1 o).heap[k]? = w.heap[k]? := fun k _ hk => World.putObj_heap_other hk
  have he := evo_set (w := w) (w' := w.putObj (m r).1 o) hr ho (m r) (.inl rfl) hst' rfl rfl rfl (by simp) h5
  rw [muSet_id] at he
  have hh := hsim_set (w := w) (w' := w.putObj (m r).1 o) hs hr ho (m r) (.inl rfl) hst' rfl rfl rfl (by simp) h5 (by rw [muSet_id]; exact hb he)
  rw [muSet_id] at hh
  exact ⟨hh, he⟩

theorem recb_step {h : Heap} (hs : HSim m h w) {r : Nat} {s s' : LoopState} {T : List D} {ps : List Nat} {as bd : Code} {pe pe' : Option Code} (hr : h[r]? = some (.recb s T ps as bd pe)) :
    ∃ (fn : FuncId) (tmps : Array Value) (df : Nat), w.heap[(m r).1]? = some (.loop { state := s, pending := pe, fn, tmps, params := ps.toArray, assign := as, body := bd, defers := df }) ∧ RepL m h w T tmps.toList ∧
      HSim m (h.set r (.recb s' T ps as bd pe')) (w.putObj (m r).1 (.loop { state := s', pending := pe', fn, tmps, params := ps.toArray, assign := as, body := bd, defers := df })) ∧
      Evo m h w m (h.set r (.recb s' T ps as bd pe')) (w.putObj (m r).1 (.loop { state := s', pending := pe', fn, tmps, params := ps.toArray, assign := as, body := bd, defers := df })) := by
  obtain ⟨fn, tmps, df, h1, h2⟩ := hs.blk r _ hr
  refine ⟨fn, tmps, df, h1, h2, put_block hs hr rfl _ (.inr ⟨s', pe', rfl, rfl⟩) fun he => ⟨fn, tmps, df, World.putObj_heap_same (Array.getElem?_eq_some_iff.1 h1).1, h2.evo he⟩⟩

theorem recb_dead {h : Heap} (hs : HSim m h w) {r : Nat} {s : LoopState} {T : List D} {ps : List Nat} {as bd : Code} {pe : Option Code} (hr : h[r]? = some (.recb s T ps as bd pe)) (o : Obj) :
    HSim m (h.set r .dead) (w.putObj (m r).1 o) ∧ Evo m h w m (h.set r .dead) (w.putObj (m r).1 o) := put_block hs hr rfl o (.inl rfl) fun _ => trivial

theorem setps_rep {h : Heap} : ∀ (ps : List Nat) {T args : List D} {vs us : List Value}, RepL m h w T vs → RepL m h w args us → RepL m h w (setps T ps args) ((ps.zip us).foldl (fun t p => t.set p.1 p.2) vs)
  | [], T, args, vs, us, h1, h2 => h1
  | p :: ps, T, [], vs, us, h1, h2 => by simp only [RepL] at h2; subst h2; exact h1
  | p :: ps, T, d :: args, vs, us, h1, h2 => by
    simp only [RepL] at h2
    obtain ⟨u, us', rfl, h3, h4⟩ := h2
    exact setps_rep ps (h1.set p h3) h4

theorem foldl_setps (tmps : Array Value) (l : List (Nat × Value)) : (l.foldl (fun (t : Array Value) p => t.setIfInBounds p.1 p.2) tmps).toList = l.foldl (fun t p => t.set p.1 p.2) tmps.toList := by
  induction l generalizing tmps with
  | nil => rfl
  | cons p l ih => simp only [List.foldl_cons]; rw [ih, Array.toList_setIfInBounds]

theorem ff_inRound (ro : Option Nat) (l : Nat) : (FF ro).inRound l = FF (some l) := rfl

/-- ONE ROUND. -/
theorem round_sound {h : Heap} (hs : HSim m h w) {r : Nat} {args : List D} {us : List Value} {R : D → Heap → Prop} (hy : YC P r args h R) (hu : RepL m h w args us) :
    ∃ (fn : FuncId) (tmps : Array Value) (as bd : Code), (Instr.yield (m r).1 us.toArray).run P w = .ok (.round (m r).1 fn tmps as bd) w ∧
      RoundIn (FF ro) 0 P (m r).1 fn tmps as bd w fun e w' => ∃ (v : Value) (m' : Mu) (d : D) (h' : Heap), e = .returned v ∧ HSim m' h' w' ∧ Rep m' h' w' d v ∧ Evo m h w m' h' w' ∧ R d h' := by
  obtain ⟨T, ps, as, bd, h1, h2, h3⟩ := hy
  obtain ⟨fn, tmps, df, k1, k2, -, -⟩ := recb_step (s' := .ready) (pe' := none) hs h1
  have hul : us.length = args.length := hu.length
  refine ⟨fn, _, as, bd, run_yield k1 (by simp [hul, h2]), ?_⟩
  refine roundIn_of_wpIn trivial ?_
  rw [ff_inRound]
  have hsim : Sim w.heap.size m ⟨setps T ps args, h⟩ { tmps := (ps.zip us).foldl (fun (t : Array Value) p => t.setIfInBounds p.1 p.2) tmps, defers := [] } w :=
    ⟨Marks.nil, by rw [foldl_setps]; exact setps_rep ps k2 hu, hs⟩
  have haw := h3 (some (m r).1) _ m _ w (Nat.le_refl _) hsim
  have e0 : ((ps.toArray.zip us.toArray).foldl (fun (tmps : Array Value) (p : Tmp × Value) => tmps.setIfInBounds p.1 p.2) tmps) = (ps.zip us).foldl (fun (t : Array Value) p => t.setIfInBounds p.1 p.2) tmps := by
    simp
  have haw' := wpIn_mono haw (Q' := Exit.then (fun a₁ w₁ => ∃ w₂, (Instr.beginRound (m r).1).run P w₁ = .ok () w₂ ∧ bd.wpIn (FF (some (m r).1)) 0 P (roundPost P (m r).1 fun e w' => ∃ (v : Value) (m' : Mu) (d : D) (h' : Heap), e = .returned v ∧ HSim m' h' w' ∧ Rep m' h' w' d v ∧ Evo m h w m' h' w' ∧ R d h') a₁ w₂) (fun _ _ _ => False)) ?_
  · simpa using haw'
  · rintro e a1 w1 ⟨m1, st1, s1, e1, hq⟩
    cases e with
    | normal =>
      obtain ⟨q1, q2⟩ := hq
      obtain ⟨fn1, tmps1, df1, b1, b2, b3, b4⟩ := recb_step (s' := .busy) (pe' := none) s1.heap q1
      have hm1 : m1 r = m r := by
        obtain ⟨b', c1, c2⟩ := e1.blk r _ h1
        rw [q1] at c1
        injection c1 with c1
        subst c1
        rcases c2 with c2 | ⟨_, _, _, c2⟩
        · cases c2
        · exact c2
      rw [hm1] at b1 b3 b4
      refine ⟨_, run_beginRound b1 rfl, ?_⟩
      have s2 : Sim w.heap.size m1 ⟨st1.t, st1.h.set r (.recb .busy T ps as bd none)⟩ a1 (w1.putObj (m r).1 (.loop { state := .busy, pending := none, fn := fn1, tmps := tmps1, params := ps.toArray, assign := as, body := bd, defers := df1 })) := by
        have := (s1.put b4 b3 (rep_undef _ _ _) none)
        simpa [setD, Act.put] using this
      have hb := q2 _ m1 a1 _ (Nat.le_trans e1.size b4.size) s2
      refine wpIn_mono hb ?_
      rintro e a2 w2 ⟨m2, st2, s3, e3, hq⟩
      have fin : ∀ (j : Option Code), st2.h[r]? = some (.recb .busy T ps as bd none) → Drops h (st2.h.set r (.recb (if j.isNone then .ready else .done) T ps as bd j)) (R (.bool j.isNone)) →
          ∃ v w', (Instr.endRound (m r).1 j).run P w2 = .ok v w' ∧ ∃ (v' : Value) (m' : Mu) (d : D) (h' : Heap), Ending.returned v = .returned v' ∧ HSim m' h' w' ∧ Rep m' h' w' d v' ∧ Evo m h w m' h' w' ∧ R d h' := by
        intro j q3 q4
        obtain ⟨fn2, tmps2, df2, c1, c2, c3, c4⟩ := recb_step (s' := if j.isNone then .ready else .done) (pe' := j) s3.heap q3
        have hm2 : m2 r = m1 r := by
          obtain ⟨b', d1, d2⟩ := e3.blk r _ (List.getElem?_set_self (List.getElem?_eq_some_iff.1 q1).1)
          rw [q3] at d1
          injection d1 with d1
          subst d1
          rcases d2 with d2 | ⟨_, _, _, d2⟩
          · cases d2
          · exact d2
        rw [hm2, hm1] at c1 c3 c4
        obtain ⟨m', h', p2, p3, d3⟩ := q4.sound hs c3 (((e1.trans b4).trans e3).trans c4)
        exact ⟨_, _, run_endRound j c1, _, m', .bool j.isNone, h', rfl, p2, by simp [Rep], p3, d3⟩
      cases e with
      | normal => exact fin none hq.1 hq.2
      | exit id => exact fin (some (.exit id)) hq.1 hq.2
      | ret => exact fin (some .ret) hq.1 hq.2
      | goto l => exact hq.elim
      | panic ch => exact hq.elim
      | outgrown => exact hq.elim
    | exit id => exact hq
    | goto l => exact hq
    | ret => exact hq
    | panic ch => exact hq
    | outgrown => exact hq

theorem semAt_of {ρ : Operand → Value} {o : Oper} (h : ∀ c, o.op ≠ .defer c) : Oper.semAt ro ρ o = execOp ρ o := by
  cases ro with
  | none => exact Oper.semAt_none _ _
  | some l => exact Oper.semAt_some l _ _ h

theorem getD_some {t : List D} {i : Nat} {d : D} (h : t.getD i .any = d) (hd : d ≠ .any) : t[i]? = some d := by
  cases hi : t[i]? with
  | none => simp [List.getD, hi] at h; exact absurd h.symm hd
  | some x => simp [List.getD, hi] at h; rw [h]

theorem guard_of (hs : Sim B m st a w) {ops : Array Oper} {o : Oper} {g : Option (Nat × Bool)} (hg : (match o.guard with
   | none => some none
   | some (j, b) => match (ops[j]?).bind (·.dst) with
     | some s => some (some (s, b))
     | none => none) = some g) {yes no : Prop} (hk : guardK st.t g yes no) : (Region.wanted o (yielded ops a.tmps) = true ∧ yes) ∨ (Region.wanted o (yielded ops a.tmps) = false ∧ no) := by
  unfold Region.wanted
  cases hgd : o.guard with
  | none =>
    simp only [hgd, Option.some.injEq] at hg
    subst hg
    exact .inl ⟨rfl, hk⟩
  | some p =>
    obtain ⟨j, b⟩ := p
    simp only [hgd] at hg
    split at hg
    · rename_i s hsl
      simp only [Option.some.injEq] at hg
      subst hg
      simp only [guardK] at hk
      split at hk
      · rename_i c hc
        obtain ⟨v, h1, h2⟩ := hs.tmps.get (getD_some hc (by simp))
        simp only [Rep] at h2
        subst h2
        have hy : yielded ops a.tmps j = some c := by
          simp only [yielded, hsl, Option.bind_some]
          rw [show a.tmps[s]? = some (.bool c) by simpa using h1]
        simp only [hy]
        by_cases hcb : c = b
        · exact .inl ⟨by simp [hcb], hk.1 hcb⟩
        · exact .inr ⟨by simpa using hcb, hk.2 hcb⟩
      · rename_i hc
        obtain ⟨v, h1, h2⟩ := hs.tmps.get (getD_some hc (by simp))
        simp only [Rep] at h2
        obtain ⟨vs, rfl, h3⟩ := h2
        have hy : yielded ops a.tmps j = none := by
          simp only [yielded, hsl, Option.bind_some]
          rw [show a.tmps[s]? = some (.tuple vs.toArray) by simpa using h1]
        simp only [hy]
        exact .inr ⟨by simp, hk⟩
      · exact hk.elim
    · cases hg

/-- ONE STATEMENT. -/
theorem stm_sound (hs : Sim B m st a w) {ops : Array Oper} {o : Oper} {s : AStm} (hc : cstm P ops o = some s) {K : St → Prop} (hw : aregs P [s] st K) {Kc : Act → World → Prop} {Q : Exit → Act → World → Prop}
    (hk : ∀ m' st' a' w', Sim B m' st' a' w' → Evo m st.h w m' st'.h w' → K st' → Kc a' w') : if Region.wanted o (yielded ops a.tmps) then o.wpIn (FF ro) 0 P a w Kc Q else (∀ f, o.about P w a.eval = some f → (FF ro).fn f) ∧ Kc (a.put o.dst undef) w := by
  simp only [cstm, Option.bind_eq_some_iff] at hc
  obtain ⟨g, hg, hc⟩ := hc
  have skip : Region.wanted o (yielded ops a.tmps) = false → K ⟨setD st.t o.dst (.tup []), st.h⟩ → if Region.wanted o (yielded ops a.tmps) then o.wpIn (FF ro) 0 P a w Kc Q else (∀ f, o.about P w a.eval = some f → (FF ro).fn f) ∧ Kc (a.put o.dst undef) w := by
    intro hw hK
    rw [hw]
    exact ⟨fun _ _ => trivial, hk m _ _ w (hs.put (Evo.refl _ _ _) hs.heap (rep_undef _ _ _) o.dst) (Evo.refl _ _ _) hK⟩
  split at hc
  · rename_i ao hco
    injection hc with hc
    subst hc
    have hsem : Oper.semAt (FF ro).round a.eval o = execOp a.eval o := semAt_of fun c e => by rw [e] at hco; simp [xop] at hco
    rcases guard_of hs hg hw with ⟨hw1, hy⟩ | ⟨hw1, hn⟩
    · rw [if_pos hw1]
      obtain ⟨⟨d, h'⟩, ha, hK⟩ := hy
      obtain ⟨v, m', w', h1, h2, h3, h4⟩ := xop_sound hs.heap hs.tmps hco ha
      refine ⟨fun _ _ => trivial, ?_⟩
      rw [hsem]
      rcases h1 with h1 | ⟨rfl, h1⟩
      · rw [h1]
        exact hk m' _ _ w' (hs.put h4 h3 h2 o.dst) h4 hK
      · rw [h1]
        exact hk m' _ _ w' (hs.put h4 h3 h2 o.dst) h4 hK
    · exact skip hw1 hn
  split at hc
  · rename_i f args tys hop
    simp only [Option.bind_eq_some_iff, Option.map_eq_some_iff] at hc
    obtain ⟨f', hf, l, hl, rfl⟩ := hc
    have hsem : Oper.semAt (FF ro).round a.eval o = execOp a.eval o := semAt_of fun c e => by rw [hop] at e; cases e
    rcases guard_of hs hg hw with ⟨hw1, hy⟩ | ⟨hw1, hn⟩
    · rw [if_pos hw1]
      have hargs := caos_of hs.heap hs.tmps hl
      unfold CallK at hy
      split at hy
      · rename_i i first cap hfn
        have hr := rep_ev hs.heap hs.tmps hf
        rw [hfn] at hr
        simp only [Rep] at hr
        obtain ⟨vs, us, hv, hr1, hr2⟩ := hr
        obtain ⟨hcl, hfc⟩ := hy
        have hcalls := hfc m w (vs ++ args.toList.map a.eval ++ us) hs.heap (RepL.append (RepL.append hr1 hargs) hr2)
        have hrun : (execOp a.eval o).run P w = .ok (.enter i (vs ++ args.toList.map a.eval ++ us).toArray) w := by
          unfold callable at hcl
          split at hcl
          · rename_i fn hfn'
            simp only [Bool.and_eq_true, Bool.not_eq_true', beq_eq_false_iff_ne, ne_eq] at hcl
            have hb : fn.body.isNone = false := by cases hbb : fn.body <;> simp_all
            have hcf : ∀ args : Array Value, (callFunc i args).run P w = .ok (.enter i args) w := by
              intro args
              unfold callFunc
              simp only [Sem.run_bind, run_program, Result.andThen_ok, hfn']
              rw [if_neg (by simp [hcl.1]), if_neg (by simp [hb])]
              rfl
            simp only [execOp, hop, resolve, hv, Deferred.ofValue, Sem.run_bind, Sem.run_pure, Result.andThen_ok, invoke, hcf]
            congr 2
            apply Array.ext'
            simp
          · cases hcl
        refine ⟨fun _ _ => trivial, ?_⟩
        rw [hsem, hrun, Oper.uponIn_enter]
        refine ⟨fun h => by simp [FF, Fence.wide] at h, ?_⟩
        refine (callsIn_wide (n := 0)).2 (hcalls.mono fun e w'' ⟨v, m', d, h', e1, e2, e3, e4, e5⟩ => ?_)
        subst e1
        exact hk m' _ _ w'' (hs.put e4 e2 e3 o.dst) e4 e5
      · rename_i r hfn
        have hr := rep_ev hs.heap hs.tmps hf
        rw [hfn] at hr
        simp only [Rep] at hr
        obtain ⟨-, blk, hr1, hr2⟩ := hr
        have hy0 := hy
        obtain ⟨T, ps, as, bd, y1, -⟩ := hy0
        rw [y1] at hr1
        injection hr1 with hr1
        subst hr1
        have hv : a.eval f = .func (.yield (m r).1) #[] #[] := hr2
        obtain ⟨fn, tmps, as', bd', r1, r2⟩ := round_sound (ro := ro) hs.heap hy hargs
        have hrun : (execOp a.eval o).run P w = .ok (.round (m r).1 fn tmps as' bd') w := by
          simp only [execOp, hop, resolve, hv, Deferred.ofValue, Sem.run_bind, Sem.run_pure, Result.andThen_ok, invoke]
          rw [← r1]
          congr 2
          apply Array.ext'
          simp
        refine ⟨fun _ _ => trivial, ?_⟩
        rw [hsem, hrun, Oper.uponIn_round]
        refine ⟨fun h => by simp [FF, Fence.wide] at h, ?_⟩
        refine r2.mono fun e w'' ⟨v, m', d, h', e1, e2, e3, e4, e5⟩ => ?_
        subst e1
        exact hk m' _ _ w'' (hs.put e4 e2 e3 o.dst) e4 e5
      · exact hy.elim
    · exact skip hw1 hn
  · rename_i hnop
    simp only [Option.map_eq_some_iff] at hc
    obtain ⟨ao, hco, rfl⟩ := hc
    have hsem : Oper.semAt (FF ro).round a.eval o = execOp a.eval o := semAt_of fun c e => by rw [e] at hco; simp [cop] at hco
    rcases guard_of hs hg hw with ⟨hw1, hy⟩ | ⟨hw1, hn⟩
    · rw [if_pos hw1]
      obtain ⟨⟨d, h'⟩, ha, hK⟩ := hy
      obtain ⟨v, m', w', h1, h2, h3, h4⟩ := cop_sound hs.heap hs.tmps hco ha
      refine ⟨fun _ _ => trivial, ?_⟩
      rw [hsem]
      rcases h1 with h1 | ⟨rfl, h1⟩
      · rw [h1]
        exact hk m' _ _ w' (hs.put h4 h3 h2 o.dst) h4 hK
      · rw [h1]
        exact hk m' _ _ w' (hs.put h4 h3 h2 o.dst) h4 hK
    · exact skip hw1 hn

theorem list_sound {ops : Array Oper} {m0 : Mu} {h0 : Heap} {w0 : World} {Q : Exit → St → Prop} : ∀ (l : List Oper) (ss : List AStm) (m : Mu) (st : St) (a : Act) (w : World), csts P ops l = some ss → Sim B m st a w → Evo m0 h0 w0 m st.h w →
    aregs P ss st (fun st' => Q .normal st') → wpListIn (FF ro) 0 P ops (Lift B m0 h0 w0 Q) l a w
  | [], ss, m, st, a, w, hc, hs, he, hw => by
    simp only [csts, Option.some.injEq] at hc
    subst hc
    exact wpListIn_nil ⟨m, st, hs, he, hw⟩
  | o :: l, ss, m, st, a, w, hc, hs, he, hw => by
    simp only [csts, Option.bind_eq_some_iff, Option.map_eq_some_iff] at hc
    obtain ⟨s, h1, ss', h2, rfl⟩ := hc
    rw [aregs_cons] at hw
    refine wpListIn_step fun K hK => ?_
    exact stm_sound hs h1 hw fun m' st' a' w' hs' he' hw' => hK _ _ (list_sound l ss' m' st' a' w' h2 hs' (he.trans he') hw')

theorem AW.region {id : Nat} {ops : Array Oper} {ss : List AStm} {Q : Exit → St → Prop} (hc : csts P ops ops.toList = some ss) (hw : aregs P ss st (fun st' => Q .normal st')) : AW ro P (.region id ops false) Q st := by
  intro B m a w hB hs
  obtain ⟨l⟩ := ops
  exact wpIn_region_lit (list_sound l ss m st a w hc hs (Evo.refl _ _ _) hw)
end

/-! ### In whatever order -/
def AO.slot : AO → List Nat
  | .t n => [n]
  | .c _ => []
def aoO : Option AO → List AO
  | none => []
  | some x => [x]
def AOp.aos : AOp → List AO
  | .mv x | .box x | .nilchk x | .un _ x | .conv _ x | .b2s x | .s2b x | .slc0 _ x | .faddr _ x | .fld _ _ x | .ext x _ | .len _ x | .isnil _ _ x | .load _ x | .maplen x | .s2a _ _ x => [x]
  | .pick c a b => [c, a, b]
  | .alloc _ | .lit _ | .mkmap => []
  | .build _ ps | .bslice _ _ _ ps => ps.map (·.2.2)
  | .store _ x y | .bin _ x y | .eqb _ x y | .eqa _ _ x y | .mks _ _ _ x y | .ixs _ x y | .ixa _ _ x y | .ixv _ _ _ x y | .ixstr x y | .mnx _ x y | .append _ _ _ x y | .copy _ x y | .mapget _ x y | .ixb x y => [x, y]
  | .mapset x i y => [x, i, y]
  | .slc _ x l r | .sstr x l r | .sarr _ _ x l r => x :: aoO l ++ aoO r
  | .mkfn _ a b => a ++ b
def AStm.slots : AStm → List Nat
  | .op _ g o => (match g with | some (s, _) => [s] | none => []) ++ o.aos.flatMap AO.slot
  | .call _ g f args => (match g with | some (s, _) => [s] | none => []) ++ (f :: args).flatMap AO.slot
  | .callW _ f args => (f :: args).flatMap AO.slot
  | _ => []
def AStm.dst : AStm → Option Nat
  | .op d _ _ => d
  | .call d _ _ _ => d
  | .callW d _ _ => d
  | _ => none

theorem ev_congr {t t' : List D} {x : AO} (h : ∀ n ∈ x.slot, t.getD n .any = t'.getD n .any) : ev t x = ev t' x := by
  cases x with
  | t n => exact h n (by simp [AO.slot])
  | c d => rfl

theorem evO_congr {t t' : List D} {x : Option AO} (h : ∀ y ∈ aoO x, ev t y = ev t' y) : x.map (ev t) = x.map (ev t') := by
  cases x with
  | none => rfl
  | some y => simp [h y (by simp [aoO])]

theorem aop_congr {o : AOp} {t t' : List D} {h : Heap} (hx : ∀ x ∈ o.aos, ev t x = ev t' x) : aop o t h = aop o t' h := by
  have hm : ∀ l : List AO, (∀ x ∈ l, ev t x = ev t' x) → l.map (ev t) = l.map (ev t') := fun l hl => List.map_congr_left hl
  cases o <;> simp only [AOp.aos] at hx <;> simp only [aop]
  case build zero ps =>
    rw [List.map_congr_left (f := fun p : Nat × Nat × AO => (p.1, p.2.1, ev t p.2.2)) (g := fun p => (p.1, p.2.1, ev t' p.2.2)) fun p hp => by rw [hx p.2.2 (List.mem_map.2 ⟨p, hp, rfl⟩)]]
  case bslice sz zero len ps =>
    rw [List.map_congr_left (f := fun p : Nat × Nat × AO => (p.1, p.2.1, ev t p.2.2)) (g := fun p => (p.1, p.2.1, ev t' p.2.2)) fun p hp => by rw [hx p.2.2 (List.mem_map.2 ⟨p, hp, rfl⟩)]]
  case slc sz x l r =>
    rw [hx x (by simp), evO_congr (x := l) (fun y hy => hx y (by simp [hy])), evO_congr (x := r) (fun y hy => hx y (by simp [hy]))]
  case sstr x l r =>
    rw [hx x (by simp), evO_congr (x := l) (fun y hy => hx y (by simp [hy])), evO_congr (x := r) (fun y hy => hx y (by simp [hy]))]
  case sarr n sz x l r =>
    rw [hx x (by simp), evO_congr (x := l) (fun y hy => hx y (by simp [hy])), evO_congr (x := r) (fun y hy => hx y (by simp [hy]))]
  case mkfn f x y =>
    rw [hm x fun z hz => hx z (by simp [hz]), hm y fun z hz => hx z (by simp [hz])]
  all_goals simp_all

/-- A statement's answer, if it leaves the blocks as they are. -/
def SY (P : Program) (s : AStm) (t : List D) (h : Heap) (d : D) : Prop :=
  match s with
  | .op _ g o => guardK t g (o.quiet = true ∧ ∃ h', aop o t h = some (d, h')) (d = .tup [])
  | .call _ g f args => guardK t g (CallK P (ev t f) (args.map (ev t)) h fun d' h' => d' = d ∧ h' = h) (d = .tup [])
  | _ => False

theorem guardK_congr {t t' : List D} {g : Option (Nat × Bool)} (hg : ∀ s b, g = some (s, b) → t.getD s .any = t'.getD s .any) {y n y' n' : Prop} (hy : y → y') (hn : n → n') (h : guardK t g y n) : guardK t' g y' n' := by
  unfold guardK at *
  split
  · exact hy (by simpa using h)
  · rename_i s b
    simp only [hg s b rfl] at h
    split
    · rename_i c hc
      rw [hc] at h
      exact ⟨fun e => hy (h.1 e), fun e => hn (h.2 e)⟩
    · rename_i hc
      rw [hc] at h
      exact hn h
    · rename_i h1 h2
      split at h
      · rename_i c hc; exact h1 c hc
      · rename_i hc; exact h2 hc
      · exact h

theorem SY.congr {P : Program} {s : AStm} {t t' : List D} {h : Heap} {d : D} (hx : ∀ n ∈ s.slots, t.getD n .any = t'.getD n .any) (hs : SY P s t h d) : SY P s t' h d := by
  cases s with
  | op dst g o =>
    refine guardK_congr (fun s b e => hx s (by subst e; simp [AStm.slots])) (fun ⟨hq, h', ha⟩ => ⟨hq, h', ?_⟩) id hs
    rw [← ha]
    exact aop_congr fun x hxo => ev_congr fun n hn => (hx n (by simp only [AStm.slots, List.mem_append, List.mem_flatMap]; exact .inr ⟨x, hxo, hn⟩)).symm
  | call dst g f args =>
    have e1 : ev t f = ev t' f := ev_congr fun n hn => hx n (by simp only [AStm.slots, List.mem_append, List.mem_flatMap]; exact .inr ⟨f, by simp, hn⟩)
    have e2 : args.map (ev t) = args.map (ev t') := List.map_congr_left fun x hxo => ev_congr fun n hn => hx n (by simp only [AStm.slots, List.mem_append, List.mem_flatMap]; exact .inr ⟨x, by simp [hxo], hn⟩)
    refine guardK_congr (fun s b e => hx s (by subst e; simp [AStm.slots])) (fun h => ?_) id hs
    rw [← e1, ← e2]; exact h
  | callL dst g f args => exact hs.elim
  | callG dst g f args => exact hs.elim
  | callW dst f args => exact hs.elim
  | chk dst g o => exact hs.elim

theorem SY.toRegs {P : Program} {s : AStm} {st : St} {d : D} (hs : SY P s st.t st.h d) {K : St → Prop} (hK : K ⟨setD st.t s.dst d, st.h⟩) : aregs P [s] st K := by
  cases s with
  | op dst g o =>
    have hyes : (o.quiet = true ∧ ∃ h', aop o st.t st.h = some (d, h')) → holds (aop o st.t st.h) fun p => aregs P [] ⟨setD st.t dst p.1, p.2⟩ K := by
      rintro ⟨hq, h', ha⟩
      have := aop_quiet hq ha
      subst this
      exact ⟨_, ha, hK⟩
    have hno : d = .tup [] → aregs P [] ⟨setD st.t dst (.tup []), st.h⟩ K := by
      intro e; subst e; exact hK
    exact guardK_congr (fun _ _ _ => rfl) hyes hno hs
  | call dst g f args =>
    have hyes : (CallK P (ev st.t f) (args.map (ev st.t)) st.h fun d' h' => d' = d ∧ h' = st.h) → CallK P (ev st.t f) (args.map (ev st.t)) st.h fun d h' => aregs P [] ⟨setD st.t dst d, h'⟩ K := by
      intro hc
      unfold CallK at hc ⊢
      split
      · rename_i i first cap hf
        rw [hf] at hc
        exact hc.mono fun d' h' he => by obtain ⟨e1, e2⟩ := he; subst e1; subst e2; exact hK
      · rename_i r hf
        rw [hf] at hc
        exact hc.mono fun d' h' he => by obtain ⟨e1, e2⟩ := he; subst e1; subst e2; exact hK
      · rename_i hne hne2
        split at hc
        · rename_i i first cap hf; exact hne i first cap hf
        · rename_i r hf; exact hne2 r hf
        · exact hc
    have hno : d = .tup [] → aregs P [] ⟨setD st.t dst (.tup []), st.h⟩ K := by
      intro e; subst e; exact hK
    exact guardK_congr (fun _ _ _ => rfl) hyes hno hs
  | callL dst g f args => exact hs.elim
  | callG dst g f args => exact hs.elim
  | callW dst f args => exact hs.elim
  | chk dst g o => exact hs.elim

end Go.YtodlpcoffmnmbaaDoor
