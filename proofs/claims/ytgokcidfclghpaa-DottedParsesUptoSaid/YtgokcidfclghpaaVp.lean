/-
  Own work. The value machine, part P: a region whose order is open.
-/
import Derived.Test.YtgokcidfclghpaaVo
namespace Go.Ytgokcidfclghpaa
open Go
set_option linter.unusedVariables false
set_option linter.unusedSimpArgs false

theorem csts_get {P : Program} {ops : Array Oper} : ∀ {l : List Oper} {ss : List AStm}, csts P ops l = some ss → l.length = ss.length ∧ ∀ (i : Nat) (o : Oper), l[i]? = some o → ∃ s, ss[i]? = some s ∧ cstm P ops o = some s
  | [], ss, h => by simp only [csts, Option.some.injEq] at h; subst h; exact ⟨rfl, fun i o hi => by simp at hi⟩
  | o :: l, ss, h => by
    simp only [csts, Option.bind_eq_some_iff, Option.map_eq_some_iff] at h
    obtain ⟨s, h1, ss', h2, rfl⟩ := h
    obtain ⟨h3, h4⟩ := csts_get h2
    refine ⟨by simp [h3], fun i o' hi => ?_⟩
    cases i with
    | zero => simp at hi; subst hi; exact ⟨s, rfl, h1⟩
    | succ i => exact h4 i o' (by simpa using hi)

theorem apart_map {l : List AStm} : ∀ {r : DD}, r.map (·.1) = l.map AStm.dst → allApart (l.map fun s => (s.dst, D.any)) = true → allApart r = true := by
  induction l with
  | nil => intro r h _; simp at h; subst h; rfl
  | cons s l ih =>
    intro r h ha
    cases r with
    | nil => simp at h
    | cons p r =>
      simp only [List.map_cons, List.cons.injEq] at h
      simp only [List.map_cons, allApart, Bool.and_eq_true] at ha ⊢
      refine ⟨?_, ih h.2 ha.2⟩
      rw [List.all_eq_true]
      intro q hq
      have hm : q.1 ∈ r.map (·.1) := List.mem_map.2 ⟨q, hq, rfl⟩
      rw [h.2] at hm
      obtain ⟨s', hs', e⟩ := List.mem_map.1 hm
      have := List.all_eq_true.1 ha.1 (s'.dst, D.any) (List.mem_map.2 ⟨s', hs', rfl⟩)
      rw [← e, h.1]
      exact this

theorem exists_first {n : Nat} (p : Nat → Prop) [DecidablePred p] (h : ∃ i, i < n ∧ p i) : ∃ i, i < n ∧ p i ∧ ∀ j, j < i → ¬ p j := by
  induction n with
  | zero => obtain ⟨i, hi, _⟩ := h; omega
  | succ n ih =>
    by_cases hn : ∃ i, i < n ∧ p i
    · obtain ⟨i, h1, h2, h3⟩ := ih hn
      exact ⟨i, by omega, h2, h3⟩
    · obtain ⟨i, h1, h2⟩ := h
      have : i = n := by
        by_cases e : i = n
        · exact e
        · exact absurd ⟨i, by omega, h2⟩ hn
      subst this
      exact ⟨i, h1, h2, fun j hj hp => hn ⟨j, hj, hp⟩⟩

section
variable {P : Program} {ops : Array Oper} {ss : List AStm} {k : Nat}

theorem order_parts (ho : orderOk ops ss k = true) : ops.size = ss.length ∧ k ≤ ss.length ∧ (ss.take k).all AStm.quiet = true ∧ allApart ((ss.take k).map fun s => (s.dst, D.any)) = true ∧
    ∀ i, i < ss.length → ∃ o s, ops[i]? = some o ∧ ss[i]? = some s ∧ (∀ e ∈ o.after, Region.binds .any e = true → e.on < i) ∧
      (i < k → ∀ x ∈ s.slots, ∀ j, j < k → ∀ p, ss[j]? = some p → p.dst ≠ some x ∨ (j < i ∧ bindsOn o j = true)) ∧ (k ≤ i → ∀ j, j < i → bindsOn o j = true) := by
  simp only [orderOk, Bool.and_eq_true, beq_iff_eq, decide_eq_true_eq] at ho
  obtain ⟨⟨⟨⟨h1, h2⟩, h3⟩, h4⟩, h5⟩ := ho
  refine ⟨h1, h2, h3, h4, fun i hi => ?_⟩
  have h6 := List.all_eq_true.1 h5 i (List.mem_range.2 hi)
  split at h6
  · rename_i o s ho hs
    simp only [Bool.and_eq_true] at h6
    refine ⟨o, s, ho, hs, fun e he hb => ?_, fun hik x hx j hj p hp => ?_, fun hki j hj => ?_⟩
    · have := Array.all_eq_true_iff_forall_mem.1 h6.1 e he
      simpa [hb] using this
    · rw [if_pos hik] at h6
      have := List.all_eq_true.1 (List.all_eq_true.1 h6.2 x hx) j (List.mem_range.2 hj)
      rw [hp] at this
      simp only [Bool.or_eq_true, Bool.and_eq_true, decide_eq_true_eq] at this
      rcases this with h7 | h7
      · left
        intro e
        rw [e] at h7
        simp at h7
      · exact .inr h7
    · rw [if_neg (by omega)] at h6
      exact List.all_eq_true.1 h6.2 j (List.mem_range.2 hj)
  · cases h6

theorem binds_listed {o : Oper} {j : Nat} {listed : Array Bool} (hb : bindsOn o j = true) (hr : ∀ e ∈ o.after, Region.binds .any e = true → listed.getD e.on false = true) : listed.getD j false = true := by
  unfold bindsOn at hb
  obtain ⟨e, he, h⟩ := Array.any_eq_true'.1 hb
  simp only [Bool.and_eq_true, beq_iff_eq] at h
  have := hr e he h.1
  rwa [h.2] at this

theorem draw_sound (hc : csts P ops ops.toList = some ss) (ho : orderOk ops ss k = true) {h : Heap} {t0 t' : List D} {r : DD} (tr : Trace P h (ss.take k) t0 r t') {Q : Exit → St → Prop}
    (hK : aregs P (ss.drop k) ⟨t', h⟩ fun st' => Q .normal st') {m0 : Mu} {h0 : Heap} {w0 : World} :
    ∀ (fuel : Nat) (listed : Array Bool) (m : Mu) (st : St) (a : Act) (w : World), listed.toList.count false = fuel → listed.size = ss.length → Sim m st a w → Evo m0 h0 w0 m st.h w →
      (((∃ i, i < k ∧ listed.getD i false = false) ∧ (∀ j, k ≤ j → listed.getD j false = false) ∧ st = ⟨app r listed 0 t0, h⟩) ∨
       (∃ c, k ≤ c ∧ c ≤ ss.length ∧ (∀ j, listed.getD j false = decide (j < c)) ∧ aregs P (ss.drop c) st fun st' => Q .normal st')) →
      wpAny P .any ops (Lift m0 h0 w0 Q) fuel listed a w := by
  obtain ⟨o1, o2, o3, o4, o5⟩ := order_parts ho
  obtain ⟨c1, c2⟩ := csts_get hc
  have hlen : (ss.take k).length = k := by simp; omega
  have hap : allApart r = true := apart_map tr.dsts o4
  intro fuel
  induction fuel with
  | zero =>
    intro listed m st a w hcnt hsz hs he hinv
    have hall : ∀ j, j < ss.length → listed.getD j false = true := by
      intro j hj
      have hnot : false ∉ listed.toList := List.count_eq_zero.1 hcnt
      have hj' : j < listed.size := by omega
      rw [Array.getD_eq_getD_getElem?, Array.getElem?_eq_getElem hj']
      simp only [Option.getD_some]
      cases hb : listed[j] with
      | true => rfl
      | false => exact absurd (by rw [← hb]; simp) hnot
    refine ⟨?_, ?_⟩
    · rw [List.eq_nil_iff_forall_not_mem]
      intro i hi
      obtain ⟨h1, o, h2, _⟩ := mem_ready.1 hi
      have hi' : i < ss.length := by rw [← o1]; exact (Array.getElem?_eq_some_iff.1 h2).1
      have := hall i hi'
      rw [Array.getD_eq_getD_getElem?] at this h1
      cases hx : listed[i]? with
      | none => simp [hx] at h1
      | some b => simp [hx] at h1 this; rw [this] at h1; cases h1
    · rcases hinv with ⟨⟨i, hi, hf⟩, _, _⟩ | ⟨c, hc1, hc2, hl, hr⟩
      · rw [hall i (by omega)] at hf; cases hf
      · have : c = ss.length := by
          rcases Nat.lt_or_ge c ss.length with hlt | hge
          · have := hall c hlt
            rw [hl c] at this
            simp at this
          · omega
        subst this
        rw [List.drop_length] at hr
        exact ⟨m, st, hs, he, hr⟩
  | succ fuel ih =>
    intro listed m st a w hcnt hsz hs he hinv
    have hun : ∃ i, i < ss.length ∧ listed.getD i false = false := by
      have hmem : false ∈ listed.toList := List.count_pos_iff.1 (by omega)
      obtain ⟨i, hi, hv⟩ := List.getElem_of_mem hmem
      have hi' : i < listed.size := by simpa using hi
      refine ⟨i, by omega, ?_⟩
      rw [Array.getD_eq_getD_getElem?, Array.getElem?_eq_getElem hi']
      simpa using hv
    have getT : ∀ i, i < ss.length → listed.getD i false = false → listed.getD i true = false := by
      intro i hi hf
      have hi' : i < listed.size := by omega
      rw [Array.getD_eq_getD_getElem?, Array.getElem?_eq_getElem hi'] at hf ⊢
      simpa using hf
    have getF : ∀ i, listed.getD i true = false → i < ss.length ∧ listed.getD i false = false := by
      intro i hi
      rw [Array.getD_eq_getD_getElem?] at hi ⊢
      cases hx : listed[i]? with
      | none => simp [hx] at hi
      | some b =>
        have := (Array.getElem?_eq_some_iff.1 hx).1
        simp [hx] at hi ⊢
        exact ⟨by omega, hi⟩
    have cnt' : ∀ i, i < ss.length → listed.getD i false = false → (listed.setIfInBounds i true).toList.count false = fuel := by
      intro i hi hf
      have hi' : i < listed.size := by omega
      have hv : listed[i] = false := by
        rw [Array.getD_eq_getD_getElem?, Array.getElem?_eq_getElem hi'] at hf
        simpa using hf
      rw [Array.toList_setIfInBounds, List.count_set (by simpa using hi')]
      simp [hv, hcnt]
    refine ⟨fun hempty => ?_, fun i hi => ?_⟩
    · exfalso
      obtain ⟨i, h1, h2, h3⟩ := exists_first (fun i => listed.getD i false = false) hun
      obtain ⟨o, s, g1, g2, g3, _⟩ := o5 i h1
      have : i ∈ Region.ready .any ops listed := mem_ready.2 ⟨getT i h1 h2, o, g1, fun e he hb => by
        have := h3 e.on (g3 e he hb)
        simpa using this⟩
      rw [hempty] at this
      cases this
    · obtain ⟨q1, o, q2, q3⟩ := mem_ready.1 hi
      obtain ⟨hin, hfi⟩ := getF i q1
      obtain ⟨o', s, g1, g2, g3, g4, g5⟩ := o5 i hin
      rw [q2] at g1
      injection g1 with g1
      subst g1
      obtain ⟨s', hs', hcs⟩ := c2 i o (by simpa using q2)
      rw [g2] at hs'
      injection hs' with hs'
      subst hs'
      unfold wpOp
      simp only [q2]
      have hsz' : (listed.setIfInBounds i true).size = ss.length := by simpa using hsz
      have lset : ∀ j, (listed.setIfInBounds i true).getD j false = (decide (j = i) || listed.getD j false) := by
        intro j
        by_cases e : j = i
        · subst e
          have : j < listed.size := by omega
          simp [this]
        · rw [getD_set_ne' (by omega)]
          simp [e]
      have fin : ∀ {K : St → Prop}, aregs P [s] st K → (∀ st', K st' → (((∃ j, j < k ∧ (listed.setIfInBounds i true).getD j false = false) ∧ (∀ j, k ≤ j → (listed.setIfInBounds i true).getD j false = false) ∧ st' = ⟨app r (listed.setIfInBounds i true) 0 t0, h⟩) ∨
       (∃ c, k ≤ c ∧ c ≤ ss.length ∧ (∀ j, (listed.setIfInBounds i true).getD j false = decide (j < c)) ∧ aregs P (ss.drop c) st' fun st' => Q .normal st'))) →
          if Region.wanted o (yielded ops a.tmps) = true then o.wp P a w (wpAny P .any ops (Lift m0 h0 w0 Q) fuel (listed.setIfInBounds i true)) (Lift m0 h0 w0 Q) ∨ (o.asks P a w ∧ LetsOut (Lift m0 h0 w0 Q)) else wpAny P .any ops (Lift m0 h0 w0 Q) fuel (listed.setIfInBounds i true) (a.put o.dst undef) w := by
        intro K hreg hKK
        have := stm_sound (Kc := wpAny P .any ops (Lift m0 h0 w0 Q) fuel (listed.setIfInBounds i true)) (Q := Lift m0 h0 w0 Q) hs hcs hreg fun m' st' a' w' s1 s2 s3 => ih _ m' st' a' w' (cnt' i hin hfi) hsz' s1 (he.trans s2) (hKK st' s3)
        split
        · rename_i hw; rw [if_pos hw] at this; exact .inl this
        · rename_i hw; rw [if_neg hw] at this; exact this
      rcases hinv with ⟨⟨j0, hj0, hf0⟩, hlate, rfl⟩ | ⟨c, hc1, hc2, hl, hr⟩
      · -- one of the first ones
        have hik : i < k := by
          rcases Nat.lt_or_ge i k with h1 | h1
          · exact h1
          · have := binds_listed (g5 h1 j0 (by omega)) q3
            rw [this] at hf0; cases hf0
        have hsi : (ss.take k)[i]? = some s := by rw [List.getElem?_take, if_pos hik]; exact g2
        obtain ⟨⟨x, d⟩, hri⟩ : ∃ p, r[i]? = some p := ⟨r[i]'(by rw [tr.len, hlen]; exact hik), List.getElem?_eq_getElem _⟩
        obtain ⟨hx, hsy⟩ := tr.at i s d x hsi hri
        subst hx
        have hrs : ∀ j, j < k → ∃ p dj, ss[j]? = some p ∧ r[j]? = some (p.dst, dj) := by
          intro j hj
          have hjl : j < r.length := by rw [tr.len, hlen]; exact hj
          have hsj : j < ss.length := by omega
          refine ⟨ss[j], (r[j]).2, List.getElem?_eq_getElem hsj, ?_⟩
          have := congrArg (fun l => l[j]?) tr.dsts
          simp only [List.getElem?_map, List.getElem?_eq_getElem hjl, Option.map_some, List.getElem?_take, if_pos hj, List.getElem?_eq_getElem hsj] at this
          rw [List.getElem?_eq_getElem hjl]
          simp only [Option.some.injEq] at this
          rw [← this]
        have hagree : ∀ n ∈ s.slots, (app r (firsts (ss.take k).length i) 0 t0).getD n .any = (app r listed 0 t0).getD n .any := by
          intro n hn
          rw [hlen]
          simp only [List.getD_eq_getElem?_getD]
          congr 1
          by_cases hex : ∃ j, j < k ∧ ∃ p, ss[j]? = some p ∧ p.dst = some n
          · obtain ⟨j, hj, p, hp, hpd⟩ := hex
            rcases g4 hik n hn j hj p hp with hne | ⟨hji, hbj⟩
            · exact absurd hpd hne
            · have hlj := binds_listed hbj q3
              obtain ⟨p', dj, hp', hrj⟩ := hrs j hj
              rw [hp] at hp'
              injection hp' with hp'
              subst hp'
              rw [hpd] at hrj
              by_cases hlt : n < t0.length
              · rw [app_some r _ 0 j t0 n dj hap hrj (by rw [Nat.zero_add, firsts_get]; simp [hj, hji]) hlt, app_some r listed 0 j t0 n dj hap hrj (by rw [Nat.zero_add]; exact hlj) hlt]
              · rw [List.getElem?_eq_none (by rw [app_length]; omega), List.getElem?_eq_none (by rw [app_length]; omega)]
          · have hno : ∀ p ∈ r, p.1 ≠ some n := by
              intro p hp e
              obtain ⟨j, hj, hje⟩ := List.getElem_of_mem hp
              have hjk : j < k := by rw [tr.len, hlen] at hj; exact hj
              obtain ⟨p', dj, hp', hrj⟩ := hrs j hjk
              rw [List.getElem?_eq_getElem hj, hje] at hrj
              injection hrj with hrj
              subst hrj
              exact hex ⟨j, hjk, p', hp', e⟩
            rw [app_none r _ 0 t0 n hno, app_none r listed 0 t0 n hno]
        have hsy' := hsy.congr hagree
        refine fin (K := fun st' => st' = ⟨setD (app r listed 0 t0) s.dst d, h⟩) (SY.toRegs (st := ⟨app r listed 0 t0, h⟩) hsy' rfl) fun st' hst' => ?_
        subst hst'
        have hadd := app_add r listed 0 i t0 s.dst d hap (Nat.zero_le _) (by simpa using hri) hfi (by omega)
        by_cases hmore : ∃ j, j < k ∧ (listed.setIfInBounds i true).getD j false = false
        · left
          refine ⟨hmore, fun j hj => ?_, by rw [hadd]⟩
          rw [lset j, hlate j hj]
          simp; omega
        · right
          refine ⟨k, Nat.le_refl _, o2, fun j => ?_, ?_⟩
          · by_cases hj : j < k
            · have : (listed.setIfInBounds i true).getD j false = true := by
                cases hb : (listed.setIfInBounds i true).getD j false with
                | true => rfl
                | false => exact absurd ⟨j, hj, hb⟩ hmore
              rw [this]; simp [hj]
            · rw [lset j, hlate j (by omega)]
              simp; omega
          · rw [← hadd]
            have := tr.end (listed.setIfInBounds i true) 0 fun j hj => by
              rw [hlen] at hj
              rw [Nat.zero_add]
              cases hb : (listed.setIfInBounds i true).getD j false with
              | true => rfl
              | false => exact absurd ⟨j, hj, hb⟩ hmore
            rw [this]
            exact hK
      · -- one of the last ones
        have hic : i = c := by
          have h1 : ¬ i < c := by
            have := hl i
            rw [hfi] at this
            simpa using this.symm
          rcases Nat.lt_or_ge c i with h2 | h2
          · have := binds_listed (g5 (by omega) c h2) q3
            rw [hl c] at this
            simp at this
          · omega
        subst hic
        rw [List.drop_eq_getElem_cons hin] at hr
        have hsg : ss[i] = s := by
          rw [List.getElem?_eq_getElem hin] at g2
          injection g2
        rw [hsg, aregs_cons] at hr
        refine fin hr fun st' hst' => .inr ⟨i + 1, by omega, by omega, fun j => ?_, hst'⟩
        rw [lset j, hl j]
        by_cases e : j = i
        · subst e; simp
        · by_cases hj : j < i
          · simp [hj]; omega
          · have e1 : decide (j = i) = false := by simpa using e
            have e2 : decide (j < i) = false := by simpa using hj
            have e3 : decide (j < i + 1) = false := by simp; omega
            rw [e1, e2, e3]; rfl

/-- A REGION WHOSE ORDER IS OPEN. -/
theorem AW.draw (hm : P.follows .mixedOrders = true) {id : Nat} {st : St} {Q : Exit → St → Prop} (hc : csts P ops ops.toList = some ss) (ho : orderOk ops ss k = true)
    (hw : aheads P (ss.take k) st fun st' => aregs P (ss.drop k) st' fun st' => Q .normal st') : AW P (.region id ops true) Q st := by
  intro m a w hs
  obtain ⟨o1, o2, o3, o4, o5⟩ := order_parts ho
  obtain ⟨r, t', tr, hK⟩ := trace_of P _ st _ o3 hw
  refine wp_region_any hm ?_
  have he : Evo m st.h w m st.h { w with drawn := w.drawn + 1 } := Evo.same rfl rfl rfl rfl
  have hs' : Sim m st a { w with drawn := w.drawn + 1 } := ⟨hs.defers, hs.tmps.evo he, ⟨hs.heap.inj, fun r b hr => (hs.heap.blk r b hr).evo he rfl fun _ => rfl⟩⟩
  refine draw_sound hc ho tr hK ops.size (Array.replicate ops.size false) m st a _ ?_ (by simpa using o1) hs' he ?_
  · simp
  · have hz : ∀ j, (Array.replicate ops.size false).getD j false = false := by
      intro j
      rw [Array.getD_eq_getD_getElem?]
      by_cases hj : j < ops.size <;> simp [hj]
    rcases Nat.eq_zero_or_pos k with e | e
    · right
      refine ⟨0, by omega, by omega, fun j => by rw [hz j]; simp, ?_⟩
      have : t' = st.t := by
        have := tr.end (Array.replicate ops.size false) 0 (fun i hi => by rw [List.length_take] at hi; omega)
        have hr : r = [] := List.length_eq_zero_iff.1 (by rw [tr.len]; simp [e])
        subst hr
        exact this.symm
      rw [this] at hK
      rw [e] at hK
      exact hK
    · left
      refine ⟨⟨0, e, hz 0⟩, fun j _ => hz j, ?_⟩
      have : ∀ (r : DD) (k : Nat) (t : List D), app r (Array.replicate ops.size false) k t = t := by
        intro r
        induction r with
        | nil => intro k t; rfl
        | cons p r ih => intro k t; simp only [app, hz]; simpa using ih (k + 1) t
      rw [this]
end
end Go.Ytgokcidfclghpaa
