/-
  Own work. The value machine, part Pe: regions whose order is open, with calls that change blocks that were there, and allocations that may come at any time.
-/
import Derived.Test.YtodlpcoffmnmbaaDoorVpg
namespace Go.YtodlpcoffmnmbaaDoor
open Go
set_option linter.unusedVariables false
set_option linter.unusedSimpArgs false

section
variable {P : Program} {ops : Array Oper} {ss : List AStm} {k : Nat} {ro : Option Nat} {B : Nat}
/-- What holds of the state when some are done is kept by each step: then the region does what comes behind. -/
theorem draw_gen (hc : csts P ops ops.toList = some ss) (hsz0 : ops.size = ss.length)
    (hops : ∀ i, i < ss.length → ∃ o, ops[i]? = some o ∧ (∀ e ∈ o.after, Region.binds .any e = true → e.on < i) ∧ (k ≤ i → ∀ j, j < i → bef (clos ops.toList) i j = true)) (hk : k ≤ ss.length) (I : (Nat → Bool) → St → Prop)
    (step : ∀ (e : Nat → Bool) (i : Nat) (st : St), i < k → Ready (clos ops.toList) e i → I e st →
      aregs P [stA ss i] st (fun st' => I (addE e i) st') ∨ ∃ x z r, stA ss i = .op (some x) none (.alloc z) ∧ st.h[r]? = some .free ∧ I (addE e i) ⟨setD st.t (some x) (.ref r 0), st.h.set r (.box z)⟩)
    {Q : Exit → St → Prop} (hK : ∀ (e : Nat → Bool) st, (∀ j, j < k → e j = true) → I e st → aregs P (ss.drop k) st fun st' => Q .normal st') {m0 : Mu} {h0 : Heap} {w0 : World} :
    ∀ (fuel : Nat) (listed : Array Bool) (m : Mu) (st : St) (a : Act) (w : World), listed.toList.count false = fuel → listed.size = ss.length → Sim B m st a w → Evo m0 h0 w0 m st.h w →
      (∀ i j, listed.getD i false = true → bef (clos ops.toList) i j = true → listed.getD j false = true) →
      (((∃ i, i < k ∧ listed.getD i false = false) ∧ (∀ j, k ≤ j → listed.getD j false = false) ∧ I (fun i => listed.getD i false) st) ∨
       (∃ c, k ≤ c ∧ c ≤ ss.length ∧ (∀ j, listed.getD j false = decide (j < c)) ∧ aregs P (ss.drop c) st fun st' => Q .normal st')) →
      wpAnyIn (FF ro) 0 P .any ops (Lift B m0 h0 w0 Q) fuel listed a w := by
  obtain ⟨c1, c2⟩ := csts_get hc
  have onestep : ∀ (i : Nat) (o : Oper), ops[i]? = some o → i < ss.length → ∀ j, bef (clos ops.toList) i j = true → ∃ x ∈ o.after, Region.binds .any x = true ∧ (j = x.on ∨ bef (clos ops.toList) x.on j = true) := by
    intro i o ho hi j hb
    obtain ⟨o', ho', hlt, _⟩ := hops i hi
    rw [ho] at ho'
    injection ho' with ho'
    subst ho'
    exact clos_get ops.toList i o (by simpa using ho) hlt j hb
  intro fuel
  induction fuel with
  | zero =>
    intro listed m st a w hcnt hsz hs he hcl hinv
    have hall : ∀ j, j < ss.length → listed.getD j false = true := by
      intro j hj
      have hnot : false ∉ listed.toList := List.count_eq_zero.1 hcnt
      have hj' : j < listed.size := by omega
      rw [Array.getD_eq_getD_getElem?, Array.getElem?_eq_getElem hj']
      simp only [Option.getD_some]
      cases hb : listed[j] with
      | true => rfl
      | false => exact absurd (by rw [← hb]; simp) hnot
    refine ⟨?_, ?_⟩
    · rw [List.eq_nil_iff_forall_not_mem]
      intro i hi
      obtain ⟨h1, o, h2, _⟩ := mem_ready.1 hi
      have hi' : i < ss.length := by rw [← hsz0]; exact (Array.getElem?_eq_some_iff.1 h2).1
      have := hall i hi'
      rw [Array.getD_eq_getD_getElem?] at this h1
      cases hx : listed[i]? with
      | none => simp [hx] at h1
      | some b => simp [hx] at h1 this; rw [this] at h1; cases h1
    · rcases hinv with ⟨⟨i, hi, hff⟩, _, _⟩ | ⟨c, hc1, hc2, hl, hr⟩
      · rw [hall i (by omega)] at hff; cases hff
      · have : c = ss.length := by
          rcases Nat.lt_or_ge c ss.length with hlt | hge
          · have := hall c hlt
            rw [hl c] at this
            simp at this
          · omega
        subst this
        rw [List.drop_length] at hr
        exact ⟨m, st, hs, he, hr⟩
  | succ fuel ih =>
    intro listed m st a w hcnt hsz hs he hcl hinv
    have hun : ∃ i, i < ss.length ∧ listed.getD i false = false := by
      have hmem : false ∈ listed.toList := List.count_pos_iff.1 (by omega)
      obtain ⟨i, hi, hv⟩ := List.getElem_of_mem hmem
      have hi' : i < listed.size := by simpa using hi
      refine ⟨i, by omega, ?_⟩
      rw [Array.getD_eq_getD_getElem?, Array.getElem?_eq_getElem hi']
      simpa using hv
    have getT : ∀ i, i < ss.length → listed.getD i false = false → listed.getD i true = false := by
      intro i hi hff
      have hi' : i < listed.size := by omega
      rw [Array.getD_eq_getD_getElem?, Array.getElem?_eq_getElem hi'] at hff ⊢
      simpa using hff
    have getF : ∀ i, listed.getD i true = false → i < ss.length ∧ listed.getD i false = false := by
      intro i hi
      rw [Array.getD_eq_getD_getElem?] at hi ⊢
      cases hx : listed[i]? with
      | none => simp [hx] at hi
      | some b =>
        have := (Array.getElem?_eq_some_iff.1 hx).1
        simp [hx] at hi ⊢
        exact ⟨by omega, hi⟩
    have cnt' : ∀ i, i < ss.length → listed.getD i false = false → (listed.setIfInBounds i true).toList.count false = fuel := by
      intro i hi hff
      have hi' : i < listed.size := by omega
      have hv : listed[i] = false := by
        rw [Array.getD_eq_getD_getElem?, Array.getElem?_eq_getElem hi'] at hff
        simpa using hff
      rw [Array.toList_setIfInBounds, List.count_set (by simpa using hi')]
      simp [hv, hcnt]
    refine ⟨fun hempty => ?_, fun i hi => ?_⟩
    · exfalso
      obtain ⟨i, h1, h2, h3⟩ := exists_first (fun i => listed.getD i false = false) hun
      obtain ⟨o, g1, g3, _⟩ := hops i h1
      have : i ∈ Region.ready .any ops listed := mem_ready.2 ⟨getT i h1 h2, o, g1, fun e he hb => by
        have := h3 e.on (g3 e he hb)
        simpa using this⟩
      rw [hempty] at this
      cases this
    · obtain ⟨q1, o, q2, q3⟩ := mem_ready.1 hi
      obtain ⟨hin, hfi⟩ := getF i q1
      obtain ⟨o', g1, g3, g5⟩ := hops i hin
      rw [q2] at g1
      injection g1 with g1
      subst g1
      obtain ⟨s, g2, hcs⟩ := c2 i o (by simpa using q2)
      have hsA : stA ss i = s := by simp [stA, List.getD_eq_getElem?_getD, g2]
      unfold wpOpIn
      simp only [q2]
      have hsz' : (listed.setIfInBounds i true).size = ss.length := by simpa using hsz
      have lset : ∀ j, (listed.setIfInBounds i true).getD j false = (j == i || listed.getD j false) := by
        intro j
        by_cases e : j = i
        · subst e
          have : j < listed.size := by omega
          simp [this]
        · rw [getD_set_ne' (by omega)]
          simp [e]
      have pre : ∀ j, bef (clos ops.toList) i j = true → listed.getD j false = true := fun j hb =>
        binds_listed (e := fun i => listed.getD i false) (fun a b h1 h2 => hcl a b h1 h2) (onestep i o q2 hin j) q3 hb
      have hcl' : ∀ p q, (listed.setIfInBounds i true).getD p false = true → bef (clos ops.toList) p q = true → (listed.setIfInBounds i true).getD q false = true := by
        intro p q h1 h2
        rw [lset] at h1 ⊢
        simp only [Bool.or_eq_true, beq_iff_eq] at h1 ⊢
        rcases h1 with rfl | h1
        · exact .inr (pre q h2)
        · exact .inr (hcl p q h1 h2)
      have eadd : (fun j => (listed.setIfInBounds i true).getD j false) = addE (fun j => listed.getD j false) i := by
        funext j; rw [lset]; rfl
      have fin : ∀ {K : St → Prop}, aregs P [s] st K → (∀ st', K st' → (((∃ j, j < k ∧ (listed.setIfInBounds i true).getD j false = false) ∧ (∀ j, k ≤ j → (listed.setIfInBounds i true).getD j false = false) ∧ I (fun j => (listed.setIfInBounds i true).getD j false) st') ∨
       (∃ c, k ≤ c ∧ c ≤ ss.length ∧ (∀ j, (listed.setIfInBounds i true).getD j false = decide (j < c)) ∧ aregs P (ss.drop c) st' fun st' => Q .normal st'))) →
          if Region.wanted o (yielded ops a.tmps) = true then o.wpIn (FF ro) 0 P a w (wpAnyIn (FF ro) 0 P .any ops (Lift B m0 h0 w0 Q) fuel (listed.setIfInBounds i true)) (Lift B m0 h0 w0 Q) else (∀ f, o.about P w a.eval = some f → (FF ro).fn f) ∧ wpAnyIn (FF ro) 0 P .any ops (Lift B m0 h0 w0 Q) fuel (listed.setIfInBounds i true) (a.put o.dst undef) w := by
        intro K hreg hKK
        have := stm_sound (ro := ro) (Kc := wpAnyIn (FF ro) 0 P .any ops (Lift B m0 h0 w0 Q) fuel (listed.setIfInBounds i true)) (Q := Lift B m0 h0 w0 Q) hs hcs hreg fun m' st' a' w' s1 s2 s3 => ih _ m' st' a' w' (cnt' i hin hfi) hsz' s1 (he.trans s2) hcl' (hKK st' s3)
        exact this
      rcases hinv with ⟨⟨j0, hj0, hf0⟩, hlate, hI⟩ | ⟨c, hc1, hc2, hl, hr⟩
      · -- one of the first ones
        have hik : i < k := by
          rcases Nat.lt_or_ge i k with h1 | h1
          · exact h1
          · have := pre j0 (g5 h1 j0 (by omega))
            rw [this] at hf0; cases hf0
        have hrd : Ready (clos ops.toList) (fun j => listed.getD j false) i := ⟨hfi, fun a b h1 h2 => hcl a b h1 h2, pre⟩
        -- what comes of it
        have next : ∀ st', I (fun j => (listed.setIfInBounds i true).getD j false) st' → (((∃ j, j < k ∧ (listed.setIfInBounds i true).getD j false = false) ∧ (∀ j, k ≤ j → (listed.setIfInBounds i true).getD j false = false) ∧ I (fun j => (listed.setIfInBounds i true).getD j false) st') ∨
            (∃ c, k ≤ c ∧ c ≤ ss.length ∧ (∀ j, (listed.setIfInBounds i true).getD j false = decide (j < c)) ∧ aregs P (ss.drop c) st' fun st' => Q .normal st')) := by
          intro st' hst'
          by_cases hmore : ∃ j, j < k ∧ (listed.setIfInBounds i true).getD j false = false
          · left
            refine ⟨hmore, fun j hj => ?_, hst'⟩
            have e1 : (j == i) = false := by simp; omega
            rw [lset j, hlate j hj, e1]; rfl
          · right
            have hallk : ∀ j, j < k → (listed.setIfInBounds i true).getD j false = true := by
              intro j hj
              cases hb : (listed.setIfInBounds i true).getD j false with
              | true => rfl
              | false => exact absurd ⟨j, hj, hb⟩ hmore
            refine ⟨k, Nat.le_refl _, hk, fun j => ?_, ?_⟩
            · by_cases hj : j < k
              · rw [hallk j hj]; simp [hj]
              · have e1 : (j == i) = false := by simp; omega
                rw [lset j, hlate j (by omega), e1]; simp [hj]
            · exact hK _ st' hallk hst'
        rcases step _ i st hik hrd hI with hreg | ⟨x, z, r, hsx, hfree, hI'⟩
        · rw [hsA] at hreg
          exact fin hreg fun st' hst' => next st' (by rw [eadd]; exact hst')
        · rw [hsA] at hsx
          rw [hsx] at hcs
          simp only [cstm, Option.bind_eq_some_iff] at hcs
          obtain ⟨g, hg, hcs⟩ := hcs
          have hguard : o.guard = none := by
            split at hcs
            · rename_i ao hx
              simp only [Option.some.injEq, AStm.op.injEq] at hcs
              exact absurd (hcs.2.2 ▸ hx) xop_alloc
            split at hcs
            · simp only [Option.bind_eq_some_iff, Option.map_eq_some_iff] at hcs
              obtain ⟨_, _, _, _, hcs⟩ := hcs
              cases hcs
            · simp only [Option.map_eq_some_iff, AStm.op.injEq] at hcs
              obtain ⟨_, _, _, rfl, _⟩ := hcs
              split at hg
              · assumption
              · split at hg <;> simp at hg
          have hop : ∃ et, o.op = .alloc et ∧ zeroOf P et = some z := by
            split at hcs
            · rename_i ao hx
              simp only [Option.some.injEq, AStm.op.injEq] at hcs
              exact absurd (hcs.2.2 ▸ hx) xop_alloc
            split at hcs
            · simp only [Option.bind_eq_some_iff, Option.map_eq_some_iff] at hcs
              obtain ⟨_, _, _, _, hcs⟩ := hcs
              cases hcs
            · simp only [Option.map_eq_some_iff, AStm.op.injEq] at hcs
              obtain ⟨ao, h1, _, _, rfl⟩ := hcs
              exact cop_alloc h1
          have hdst : o.dst = some x := by
            split at hcs
            · rename_i ao hx
              simp only [Option.some.injEq, AStm.op.injEq] at hcs
              exact absurd (hcs.2.2 ▸ hx) xop_alloc
            split at hcs
            · simp only [Option.bind_eq_some_iff, Option.map_eq_some_iff] at hcs
              obtain ⟨_, _, _, _, hcs⟩ := hcs
              cases hcs
            · simp only [Option.map_eq_some_iff, AStm.op.injEq] at hcs
              obtain ⟨_, _, h1, _⟩ := hcs
              exact h1
          obtain ⟨et, hop, hzt⟩ := hop
          have hw : Region.wanted o (yielded ops a.tmps) = true := by simp [Region.wanted, hguard]
          rw [if_pos hw]
          obtain ⟨v, m', w', h1, h2, h3, h4⟩ := y_alloc_free (P := P) hs.heap hzt hfree
          have hrun : (execOp a.eval o).run P w = .ok (.value v) w' := by
            simp only [execOp, hop]
            simp [h1]
          have hsem : Oper.semAt (FF ro).round a.eval o = execOp a.eval o := semAt_of fun c e => by rw [hop] at e; cases e
          refine ⟨fun _ _ => trivial, ?_⟩
          rw [hsem, hrun]
          refine ih _ m' ⟨setD _ o.dst (.ref r 0), _⟩ _ w' (cnt' i hin hfi) hsz' (hs.put h4 h3 h2 o.dst) (he.trans h4) hcl' (next _ ?_)
          rw [eadd, hdst]
          exact hI'
      · -- one of the last ones
        have hic : i = c := by
          have h1 : ¬ i < c := by
            have := hl i
            rw [hfi] at this
            simpa using this.symm
          rcases Nat.lt_or_ge c i with h2 | h2
          · have := pre c (g5 (by omega) c h2)
            rw [hl c] at this
            simp at this
          · omega
        subst hic
        rw [List.drop_eq_getElem_cons hin] at hr
        have hsg : ss[i] = s := by
          rw [List.getElem?_eq_getElem hin] at g2
          injection g2
        rw [hsg, aregs_cons] at hr
        refine fin hr fun st' hst' => .inr ⟨i + 1, by omega, by omega, fun j => ?_, hst'⟩
        rw [lset j, hl j]
        by_cases e : j = i
        · subst e; simp
        · by_cases hj : j < i
          · simp [hj]; omega
          · have e1 : (j == i) = false := by simpa using e
            have e2 : decide (j < i) = false := by simpa using hj
            have e3 : decide (j < i + 1) = false := by simp; omega
            rw [e1, e2, e3]; rfl
end

/-! ### the plan -/
theorem aheads_app {P : Program} : ∀ (M : List AStm) {R : List AStm} {st : St} {K : St → Prop}, aheads P (M ++ R) st K = aheads P M st fun st' => aheads P R st' K
  | [], _, _, _ => rfl
  | .op dst g o :: M, R, st, K => by simp only [List.cons_append, aheads, aheads_app M]
  | .call dst g f a :: M, R, st, K => by simp only [List.cons_append, aheads, aheads_app M]
  | .callL dst g f a :: M, R, st, K => by simp only [List.cons_append, aheads, aheads_app M]
  | .callG dst g f a :: M, R, st, K => by simp only [List.cons_append, aheads]
  | .callW dst f a :: M, R, st, K => by simp only [List.cons_append, aheads, aheads_app M]
  | .chk dst g o :: M, R, st, K => by simp only [List.cons_append, aheads, aheads_app M]

/-- An unguarded call, as one that changes blocks. -/
def toW : AStm → AStm
  | .call dst none f a => .callW dst f a
  | s => s
def AStm.isW : AStm → Bool
  | .callW .. => true
  | _ => false
def layE (ss : List AStm) (cl : List Nat) (k : Nat) : Lay :=
  let hs := List.range k
  let SL := hs.filter (isS ss)
  let noS := fun i => SL.all fun s => !bef cl i s
  ⟨hs.filter fun i => isQ ss i && noS i, [], [], hs.filter fun i => isS ss i || (isQ ss i && !noS i)⟩
def flE (ss : List AStm) (k : Nat) : List Nat := (List.range k).filter (isA ss)
def headsE (ss : List AStm) (cl : List Nat) (y : Lay) (AL : List Nat) : List AStm :=
  (y.EA.map fun i => hq false (stA ss i)) ++ (laH ss cl y.EA y.LA ++ AL.map (stA ss))
/-- The statements are the ones as they stand, with unguarded calls as those that change blocks. -/
def okE (ops : Array Oper) (ss : List AStm) (cl : List Nat) (k : Nat) (y : Lay) : Bool :=
  ((List.range k).all fun i => (isQ ss i && !(stA ss i).isCall) || isA ss i || (isS ss i && (stA ss i).isW)) &&
  ((List.range ss.length).all fun i => match ops[i]? with
    | some o => (o.after.all fun e => !Region.binds .any e || decide (e.on < i)) && (decide (i < k) || (List.range i).all fun j => bef cl i j)
    | none => false) &&
  ((List.range k).all fun i => isA ss i || y.co.contains i) && (y.co.all fun i => decide (i < k)) &&
  ((List.range k).all fun i => (List.range i).all fun j => apart (stA ss i).dst (stA ss j).dst) &&
  ((List.range k).all fun i => (stA ss i).slots.all fun x => (List.range k).all fun j => apart (stA ss j).dst (some x) || bef cl i j || bef cl j i || i == j) &&
  inOrder cl k [] y.co && chkSlots ss cl y.EA y.LA &&
  (y.EA.all fun i => isQ ss i) && (y.LA.all fun i => isS ss i || (isQ ss i && !(stA ss i).isCall)) &&
  ((List.range k).all fun i => (flE ss k).all fun a => !bef cl i a)

section
variable {P : Program} {ops : Array Oper} {ss : List AStm} {cl : List Nat} {k : Nat} {y : Lay} {ro : Option Nat} {B : Nat}
structure PlanE (ops : Array Oper) (ss : List AStm) (cl : List Nat) (k : Nat) (y : Lay) : Prop extends Plan0 ops ss cl k y where
  alE : y.AL = []
  miE : y.MI = []
  cov : ∀ i, i < k → isA ss i = true ∨ i ∈ y.co
  kindE : ∀ i, i < k → (isQ ss i = true ∧ (stA ss i).isCall = false) ∨ isA ss i = true ∨ (isS ss i = true ∧ (stA ss i).isW = true)
  flo : ∀ i, i < k → ∀ a, a < k → isA ss a = true → bef cl i a = false

theorem planE_of (hal : y.AL = []) (hmi : y.MI = []) (h : okE ops ss cl k y = true) : PlanE ops ss cl k y := by
  simp only [okE, Bool.and_eq_true] at h
  obtain ⟨⟨⟨⟨⟨⟨⟨⟨⟨⟨h1, h2⟩, h3⟩, h4⟩, h5⟩, h6⟩, h7⟩, h8⟩, h9⟩, h10⟩, h11⟩ := h
  have kindE : ∀ i, i < k → (isQ ss i = true ∧ (stA ss i).isCall = false) ∨ isA ss i = true ∨ (isS ss i = true ∧ (stA ss i).isW = true) := fun i hi => by
    have := all_range h1 hi
    simp only [Bool.or_eq_true, Bool.and_eq_true, Bool.not_eq_true'] at this
    rcases this with (a | a) | a
    · exact .inl a
    · exact .inr (.inl a)
    · exact .inr (.inr a)
  refine ⟨⟨fun i hi => ?_, fun i hi => ?_, fun i hi => ?_, ?_, ?_, h7, by rw [hal, hmi]; simpa using h8, fun i hi => List.all_eq_true.1 h9 i hi, fun i hi => by rw [hal] at hi; simp at hi, fun i hi => by rw [hmi] at hi; simp at hi, fun i hi => ?_⟩, hal, hmi, fun i hi => ?_, kindE, fun i hi a ha hA => ?_⟩
  · rcases kindE i hi with a | a | a
    · exact .inl a.1
    · exact .inr (.inl a)
    · exact .inr (.inr a.1)
  · have := all_range h2 hi
    split at this
    · rename_i o ho
      simp only [Bool.and_eq_true, Bool.or_eq_true, decide_eq_true_eq] at this
      refine ⟨o, ho, fun e he hb => ?_, fun hk j hj => ?_⟩
      · have := Array.all_eq_true_iff_forall_mem.1 this.1 e he
        simpa [hb] using this
      · rcases this.2 with a | a
        · omega
        · exact all_range a hj
    · cases this
  · simpa using List.all_eq_true.1 h4 i hi
  · intro i j hi hj hne
    rcases Nat.lt_or_ge j i with hlt | hge
    · exact all_range (all_range h5 hi) hlt
    · exact apart_symm (all_range (all_range h5 hj) (show i < j by omega))
  · intro i hi x hx j hj hd
    have := all_range (List.all_eq_true.1 (all_range h6 hi) x hx) hj
    simp only [Bool.or_eq_true, beq_iff_eq, hd] at this
    rcases this with ((a | a) | a) | a
    · simp [YtodlpcoffmnmbaaDoor.apart] at a
    · exact .inl a
    · exact .inr (.inl a)
    · exact .inr (.inr a)
  · have := List.all_eq_true.1 h10 i hi
    simp only [Bool.and_eq_true, Bool.or_eq_true, Bool.not_eq_true'] at this
    exact ⟨fun a ha => by rw [hal] at ha; simp at ha, this⟩
  · have := all_range h3 hi
    simpa using this
  · have := List.all_eq_true.1 (all_range h11 hi) a (List.mem_filter.2 ⟨List.mem_range.2 ha, hA⟩)
    simpa using this

/-- The temporaries and the blocks when some are done. -/
def tE (ss : List AStm) (y : Lay) (AL : List Nat) (d : Nat → D) (t0 : List D) (e : Nat → Bool) : List D := ap ss d (AL.filter e) (tS ss y d t0 e)
def mE (ss : List AStm) (AL : List Nat) (e : Nat → Bool) : Heap := AL.map fun a => if e a then .box (zeroA ss a) else .free

theorem drawE_step (hp : PlanE ops ss cl k y) {AL : List Nat} (hAL : AL = flE ss k) {ss0 : List AStm} {i : Nat} (hss : ss = ss0.map toW) (hW0 : ∀ dst f a, stA ss0 i ≠ .callW dst f a) {t0 : List D} {h : Heap} {d : Nat → D} {G : Nat → Heap} (hf : Facts P ss cl y t0 h d G)
    (hdA : ∀ A i B, AL = A ++ i :: B → d i = .ref (h.length + A.length) 0) (hk : k ≤ ss.length) (e : Nat → Bool) (st : St) (hik : i < k) (hr : Ready cl e i)
    (hI : st = ⟨tE ss y AL d t0 e, G (cS ss y e) ++ mE ss AL e⟩ ∧ (G (cS ss y e)).length = h.length) :
    aregs P [stA ss0 i] st (fun st' => st' = ⟨tE ss y AL d t0 (addE e i), G (cS ss y (addE e i)) ++ mE ss AL (addE e i)⟩ ∧ (G (cS ss y (addE e i))).length = h.length) ∨
    ∃ x z r, stA ss0 i = .op (some x) none (.alloc z) ∧ st.h[r]? = some .free ∧ ((⟨setD st.t (some x) (.ref r 0), st.h.set r (.box z)⟩ : St) = ⟨tE ss y AL d t0 (addE e i), G (cS ss y (addE e i)) ++ mE ss AL (addE e i)⟩ ∧ (G (cS ss y (addE e i))).length = h.length) := by
  obtain ⟨rfl, hlen⟩ := hI
  have hst0 : stA ss i = toW (stA ss0 i) := by
    have hi : i < ss0.length := by rw [hss] at hk; simp at hk; omega
    simp [stA, hss, List.getD_eq_getElem?_getD, List.getElem?_eq_getElem hi]
  have hn : y.co.Nodup := by simpa using inOrder_nodup hp.order (by simp)
  have hAn : AL.Nodup := by rw [hAL]; exact List.nodup_range.filter _
  have memA : ∀ a, a ∈ AL ↔ a < k ∧ isA ss a = true := fun a => by rw [hAL, flE, List.mem_filter, List.mem_range]
  have notA : ∀ j, j ∈ y.co → isA ss j = false := by
    intro j hj
    cases hb : isA ss j with
    | false => rfl
    | true =>
      simp only [isA, beq_iff_eq] at hb
      rw [Lay.co, hp.alE, hp.miE] at hj
      simp only [List.append_nil, List.mem_append] at hj
      rcases hj with hj | hj
      · have := hp.ea j hj; simp [isQ, hb] at this
      · rcases (hp.la j hj).2 with c | c
        · simp [isS, hb] at c
        · have := c.1; simp [isQ, hb] at this
  have hdep : ∀ j, j < k → bef cl i j = true → j ∈ y.co := fun j hj hb => by
    rcases hp.cov j hj with c | c
    · have := hp.flo i hik j hj c; rw [hb] at this; cases this
    · exact c
  have hSG : hS ss y h G e = G (cS ss y e) := hS_done hf (by rw [hp.alE]; simp)
  -- the places of i are not those of the floating ones that are done
  have agT : ∀ x ∈ (stA ss i).slots, (tE ss y AL d t0 e).getD x .any = (tS ss y d t0 e).getD x .any := by
    intro x hx
    unfold tE
    simp only [List.getD_eq_getElem?_getD]
    congr 1
    refine ap_none fun a ha => ?_
    obtain ⟨h1, h2⟩ := List.mem_filter.1 ha
    obtain ⟨h3, h4⟩ := (memA a).1 h1
    refine apart_ne.2 fun hd => ?_
    rcases hp.slots i hik x hx a h3 hd with hb | hb | hb
    · have := hp.flo i hik a h3 h4; rw [hb] at this; cases this
    · have := hr.closed a i h2 hb; rw [hr.off] at this; cases this
    · subst hb; rw [hr.off] at h2; cases h2
  have apA : ∀ a, a ∈ AL → a ≠ i → apart (stA ss a).dst (stA ss i).dst = true := fun a ha hne => hp.apart a i ((memA a).1 ha).1 hik hne
  -- one of the others done
  have other : i ∈ y.co → ∀ v, setD (tS ss y d t0 e) (stA ss i).dst v = setD (tS ss y d t0 e) (stA ss i).dst (d i) → setD (tE ss y AL d t0 e) (stA ss i).dst v = tE ss y AL d t0 (addE e i) := by
    intro hm v hv
    have hiA : i ∉ AL := fun hA => by have := notA i hm; rw [((memA i).1 hA).2] at this; cases this
    have hfl : AL.filter (addE e i) = AL.filter e := by
      apply List.filter_congr
      intro j hj
      have : ¬ j = i := fun e => hiA (e ▸ hj)
      simp [addE, this]
    unfold tE
    rw [hfl, tS_add hp.toPlan0 hik hm hr.off, ← hv]
    exact (ap_setD fun j hj => apA j (List.mem_filter.1 hj).1 (fun e => hiA (e ▸ (List.mem_filter.1 hj).1))).symm
  have maskO : i ∈ y.co → mE ss AL (addE e i) = mE ss AL e := by
    intro hm
    have hiA : i ∉ AL := fun hA => by have := notA i hm; rw [((memA i).1 hA).2] at this; cases this
    unfold mE
    apply List.map_congr_left
    intro j hj
    have : ¬ j = i := fun e => hiA (e ▸ hj)
    simp [addE, this]
  rcases hp.kindE i hik with ⟨hQ, hnc⟩ | hA | ⟨hS', hW⟩
  · -- quiet
    left
    have hm : i ∈ y.co := by
      rcases hp.cov i hik with c | c
      · simp only [isA, isQ, beq_iff_eq] at c hQ; omega
      · exact c
    obtain ⟨d', hsy, hset⟩ := step_quiet hp.toPlan0 hf hik hm hdep hr hQ
    rw [hSG] at hsy
    have hsy2 := (SY.more hnc hsy (mE ss AL e)).congr (t' := tE ss y AL d t0 e) fun x hx => (agT x hx).symm
    have hs0 : stA ss0 i = stA ss i := by
      have q1 : (toW (stA ss0 i)).kind = 0 := by rw [← hst0]; simpa [isQ] using hQ
      have q2 : (toW (stA ss0 i)).isCall = false := by rw [← hst0]; exact hnc
      rw [hst0]
      revert q1 q2
      generalize stA ss0 i = s
      intro q1 q2
      cases s with
      | call dst g f args =>
        cases g with
        | none => simp [toW, AStm.kind] at q1
        | some g => simp [toW, AStm.isCall] at q2
      | _ => rfl
    rw [hs0]
    have hcc : cS ss y (addE e i) = cS ss y e := by
      rw [cS_add hp.toPlan0 hik hm hr.off]
      have : isS ss i = false := by
        simp only [isQ, beq_iff_eq] at hQ
        simp [isS, hQ]
      rw [this]; rfl
    refine SY.toRegs (st := ⟨tE ss y AL d t0 e, G (cS ss y e) ++ mE ss AL e⟩) hsy2 ?_
    rw [hcc, maskO hm]
    exact ⟨by rw [other hm d' hset], hlen⟩
  · -- an allocation
    right
    obtain ⟨x, z, hsx⟩ := kind_alloc (s := stA ss i) (by simpa [isA] using hA)
    have hmA : i ∈ AL := (memA i).2 ⟨hik, hA⟩
    obtain ⟨A, B, eA⟩ := split_of_mem hmA
    obtain ⟨n1, n2⟩ := nodup_split hAn eA
    have hs0 : stA ss0 i = .op (some x) none (.alloc z) := by
      rw [hst0] at hsx
      cases hs : stA ss0 i with
      | call dst g f args => rw [hs] at hsx; cases g <;> simp [toW] at hsx
      | op dst g o => rw [hs] at hsx; simpa [toW] using hsx
      | callL dst g f args => rw [hs] at hsx; simp [toW] at hsx
      | callG dst g f args => rw [hs] at hsx; simp [toW] at hsx
      | callW dst f args => rw [hs] at hsx; simp [toW] at hsx
      | chk dst g o => rw [hs] at hsx; simp [toW] at hsx
    have hz : zeroA ss i = z := by simp [zeroA, hsx]
    have hico : i ∉ y.co := fun hm => by rw [notA i hm] at hA; cases hA
    have hcc : cS ss y (addE e i) = cS ss y e := by
      unfold cS
      congr 1
      apply List.filter_congr
      intro j hj
      have : ¬ j = i := fun e => hico (e ▸ hj)
      simp [addE, this]
    have htt : tS ss y d t0 (addE e i) = tS ss y d t0 e := by
      unfold tS
      congr 1
      apply List.filter_congr
      intro j hj
      have : ¬ j = i := fun e => hico (e ▸ hj)
      simp [addE, this]
    have hmk : ∀ M : List Nat, i ∉ M → (M.map fun a => if addE e i a then Blk.box (zeroA ss a) else .free) = M.map fun a => if e a then Blk.box (zeroA ss a) else .free := by
      intro M hM
      apply List.map_congr_left
      intro a ha
      have : ¬ a = i := fun e => hM (e ▸ ha)
      simp [addE, this]
    refine ⟨x, z, h.length + A.length, hs0, ?_, ?_, by rw [hcc]; exact hlen⟩
    · show (G (cS ss y e) ++ mE ss AL e)[h.length + A.length]? = some .free
      rw [List.getElem?_append_right (by omega), hlen, Nat.add_sub_cancel_left, mE, eA, List.map_append, List.getElem?_append_right (by simp)]
      simp [hr.off]
    · have e1 : setD (tE ss y AL d t0 e) (some x) (.ref (h.length + A.length) 0) = tE ss y AL d t0 (addE e i) := by
        obtain ⟨g1, g2⟩ := filter_add eA n1 n2 hr.off
        unfold tE
        rw [htt, g1, g2, ap_app, ap_app]
        have hd : d i = .ref (h.length + A.length) 0 := hdA A i B eA
        have hdst : (stA ss i).dst = some x := by rw [hsx]; rfl
        have : ap ss d (i :: B.filter e) (ap ss d (A.filter e) (tS ss y d t0 e)) = ap ss d (B.filter e) (setD (ap ss d (A.filter e) (tS ss y d t0 e)) (some x) (.ref (h.length + A.length) 0)) := by
          rw [← hd, ← hdst]; rfl
        rw [this, ap_setD]
        intro j hj
        have hjB := (List.mem_filter.1 hj).1
        rw [← hdst]
        exact apA j (by rw [eA]; simp [hjB]) (fun e => n2 (e ▸ hjB))
      have e2 : (G (cS ss y e) ++ mE ss AL e).set (h.length + A.length) (.box z) = G (cS ss y (addE e i)) ++ mE ss AL (addE e i) := by
        rw [hcc, List.set_append_right _ _ (by omega), hlen, Nat.add_sub_cancel_left]
        congr 1
        unfold mE
        rw [eA, List.map_append, List.map_append, List.map_cons, List.map_cons, hmk A n1, hmk B n2, List.set_append_right _ _ (by simp)]
        simp [addE, hz]
      rw [e1, e2]
  · -- a call that changes blocks
    left
    obtain ⟨dst, f, args, hsx⟩ : ∃ dst f args, stA ss i = .callW dst f args := by
      cases hs : stA ss i with
      | callW dst f args => exact ⟨_, _, _, rfl⟩
      | _ => rw [hs] at hW; cases hW
    have hm : i ∈ y.co := by
      rcases hp.cov i hik with c | c
      · simp only [isA, isS, beq_iff_eq] at c hS'; omega
      · exact c
    have hs0 : stA ss0 i = .call dst none f args := by
      rw [hst0] at hsx
      cases hs : stA ss0 i with
      | call dst' g f' args' =>
        rw [hs] at hsx
        cases g with
        | none => simp only [toW, AStm.callW.injEq] at hsx; rw [hsx.1, hsx.2.1, hsx.2.2]
        | some g => simp [toW] at hsx
      | op dst' g o => rw [hs] at hsx; simp [toW] at hsx
      | callL dst' g f' args' => rw [hs] at hsx; simp [toW] at hsx
      | callG dst' g f' args' => rw [hs] at hsx; simp [toW] at hsx
      | callW dst' f' args' => exact absurd hs (hW0 _ _ _)
      | chk dst' g o => rw [hs] at hsx; simp [toW] at hsx
    have hmL : i ∈ y.LA := by
      have hm' := hm
      rw [Lay.co, hp.alE, hp.miE] at hm'
      simp only [List.append_nil, List.mem_append] at hm'
      rcases hm' with hm' | hm'
      · have := hp.ea i hm'; simp only [isS, isQ, beq_iff_eq] at this hS'; omega
      · exact hm'
    obtain ⟨hst, _⟩ := hf.st i hmL hS'
    rw [hsx] at hst
    obtain ⟨hst1, hst2⟩ := hst
    have hcnt : cS ss y e = cntS ss (pa y.co i) := by
      obtain ⟨A', B', e2⟩ := split_of_mem hmL
      obtain ⟨gS, _⟩ := chkSlots_at hp.late e2
      have e3 : y.co = (y.EA ++ y.AL ++ y.MI ++ A') ++ i :: B' := by rw [Lay.co, e2]; simp
      have hpa := pa_eq e3 (nodup_split hn e3).1
      rw [hpa]
      unfold cS cntS
      rw [e3, List.filter_append, List.filter_cons]
      rw [if_neg (by rw [hr.off]; simp)]
      rw [List.filter_append]
      have h1 : (((y.EA ++ y.AL ++ y.MI ++ A').filter e).filter (isS ss)) = (y.EA ++ y.AL ++ y.MI ++ A').filter (isS ss) := by
        rw [List.filter_filter]
        apply List.filter_congr
        intro j hj
        cases hSj : isS ss j with
        | false => rfl
        | true => rw [hr.pre j (gS j hj hSj)]; rfl
      have h2 : ((B'.filter e).filter (isS ss)) = [] := by
        rw [List.filter_eq_nil_iff]
        intro j hj hSj
        obtain ⟨hjB, hje⟩ := List.mem_filter.1 hj
        obtain ⟨C, D', e5⟩ := split_of_mem hjB
        have e6 : y.LA = (A' ++ i :: C) ++ j :: D' := by rw [e2, e5]; simp
        obtain ⟨gS2, _⟩ := chkSlots_at hp.late e6
        have := hr.closed j i hje (gS2 i (by simp) hS')
        rw [hr.off] at this; cases this
      rw [h1, h2, List.append_nil]
    have hag := agree hp.toPlan0 hik hm hdep hr (d := d) (t0 := t0)
    have hag2 : ∀ x ∈ (stA ss i).slots, (ap ss d (pa y.co i) t0).getD x .any = (tE ss y AL d t0 e).getD x .any := fun x hx => (hag x hx).trans (agT x hx).symm
    have f1 : ev (ap ss d (pa y.co i) t0) f = ev (tE ss y AL d t0 e) f := ev_congr fun n hn => hag2 n (by rw [hsx]; simp only [AStm.slots, List.mem_flatMap]; exact ⟨f, by simp, hn⟩)
    have f2 : args.map (ev (ap ss d (pa y.co i) t0)) = args.map (ev (tE ss y AL d t0 e)) := List.map_congr_left fun x hx => ev_congr fun n hn => hag2 n (by rw [hsx]; simp only [AStm.slots, List.mem_flatMap]; exact ⟨x, by simp [hx], hn⟩)
    rw [hs0]
    have hcall := hst2 (mE ss AL e)
    rw [f1, f2, ← hcnt] at hcall
    have hdst : (stA ss i).dst = dst := by rw [hsx]; rfl
    have hcc : cS ss y (addE e i) = cS ss y e + 1 := by rw [cS_add hp.toPlan0 hik hm hr.off, hS']; rfl
    have fin : ∀ d' h', (d' = d i ∧ h' = G (cS ss y e + 1) ++ mE ss AL e) → ((⟨setD (tE ss y AL d t0 e) dst d', h'⟩ : St) = ⟨tE ss y AL d t0 (addE e i), G (cS ss y (addE e i)) ++ mE ss AL (addE e i)⟩ ∧ (G (cS ss y (addE e i))).length = h.length) := by
      rintro d' h' ⟨rfl, rfl⟩
      rw [hcc, maskO hm, ← hdst, other hm _ rfl]
      exact ⟨rfl, by rw [hcnt, hst1, ← hcnt]; exact hlen⟩
    show CallK P (ev (tE ss y AL d t0 e) f) (args.map (ev (tE ss y AL d t0 e))) (G (cS ss y e) ++ mE ss AL e) _
    unfold CallK at hcall ⊢
    split
    · rename_i i' first cap hfn
      rw [hfn] at hcall
      exact hcall.mono fun d' h' he => fin d' h' he
    · rename_i r hfn
      rw [hfn] at hcall
      exact hcall.mono fun d' h' he => fin d' h' he
    · rename_i h1 h2
      split at hcall
      · rename_i hfn; exact absurd hfn (h1 _ _ _)
      · rename_i hfn; exact absurd hfn (h2 _)
      · exact hcall.elim

theorem cstmW {P : Program} {ops : Array Oper} {ss0 : List AStm} (hc : csts P ops ops.toList = some ss0) (i : Nat) (dst : Option Nat) (f : AO) (a : List AO) : stA ss0 i ≠ .callW dst f a := by
  intro h
  obtain ⟨c1, c2⟩ := csts_get hc
  by_cases hi : i < ss0.length
  · have hi' : i < ops.toList.length := by omega
    obtain ⟨s, g1, g2⟩ := c2 i _ (List.getElem?_eq_getElem hi')
    have : stA ss0 i = s := by simp [stA, List.getD_eq_getElem?_getD, g1]
    rw [this] at h
    rw [h] at g2
    exact cstm_noW g2
  · have : stA ss0 i = .op none none (.lit .any) := by simp [stA, List.getD_eq_getElem?_getD, List.getElem?_eq_none (by omega : ss0.length ≤ i)]
    rw [this] at h; cases h

/-- A REGION WHOSE ORDER IS OPEN, with calls that change blocks. -/
theorem AW.drawE (hm : P.follows .mixedOrders = true) {id : Nat} {st : St} {Q : Exit → St → Prop} {ss0 : List AStm} (hc : csts P ops ops.toList = some ss0) (hss : ss = ss0.map toW) (hsz0 : ops.size = ss0.length) (hp : PlanE ops ss (clos ops.toList) k y) (hk : k ≤ ss.length)
    (hw : aheads P (headsE ss (clos ops.toList) y (flE ss k)) st fun st' => aregs P (ss0.drop k) st' fun st' => Q .normal st') : AW ro P (.region id ops true) Q st := by
  intro B m a w hB hs
  have hlen0 : ss.length = ss0.length := by rw [hss]; simp
  have hn : y.co.Nodup := by simpa using inOrder_nodup hp.order (by simp)
  have hAn : (flE ss k).Nodup := List.nodup_range.filter _
  -- the walk of the others
  have hw1 : aheads P (y.heads ss (clos ops.toList) ++ (flE ss k).map (stA ss)) st fun st' => aregs P (ss0.drop k) st' fun st' => Q .normal st' := by
    have : y.heads ss (clos ops.toList) ++ (flE ss k).map (stA ss) = headsE ss (clos ops.toList) y (flE ss k) := by
      unfold Lay.heads headsE
      rw [hp.alE, hp.miE]
      simp
    rw [this]; exact hw
  rw [aheads_app] at hw1
  obtain ⟨d1, G, hf, hK⟩ := facts_of hp.toPlan0 hw1
  have notA : ∀ j, j ∈ y.co → j ∉ flE ss k := by
    intro j hj hA
    obtain ⟨_, hb⟩ := List.mem_filter.1 hA
    simp only [isA, beq_iff_eq] at hb
    rw [Lay.co, hp.alE, hp.miE] at hj
    simp only [List.append_nil, List.mem_append] at hj
    rcases hj with hj | hj
    · have := hp.ea j hj; simp [isQ, hb] at this
    · rcases (hp.la j hj).2 with c | c
      · simp [isS, hb] at c
      · have := c.1; simp [isQ, hb] at this
  have hnd : (y.co ++ flE ss k).Nodup := by
    rw [List.nodup_append]
    exact ⟨hn, hAn, fun a ha b hb e => notA a ha (e ▸ hb)⟩
  obtain ⟨d, g1, g2, g3⟩ := walk_alloc (R := []) (flE ss k) y.co _ d1 (fun i hi => by simpa [isA] using (List.mem_filter.1 hi).2) hnd (by simpa using hK)
  have hdco : ∀ i ∈ y.co, d i = d1 i := g1
  have hpaco : ∀ i ∈ y.co, ∀ j ∈ pa y.co i, d j = d1 j := fun i hi j hj => by
    obtain ⟨A, B', e1⟩ := split_of_mem hi
    rw [pa_eq e1 (nodup_split hn e1).1] at hj
    exact hdco j (by rw [e1]; simp [hj])
  have hEA : ∀ i ∈ y.EA, i ∈ y.co := fun i hi => by simp [Lay.co, hi]
  have hLA : ∀ i ∈ y.LA, i ∈ y.co := fun i hi => by simp [Lay.co, hi]
  have hf2 : Facts P ss (clos ops.toList) y st.t st.h d G := by
    refine ⟨fun i hi => ?_, fun A i B' e => by rw [hp.alE] at e; simp at e, hf.g0, fun i hi => by rw [hp.miE] at hi; simp at hi, fun i hi hS => ?_, fun i hi hS => ?_⟩
    · rw [hdco i (hEA i hi), ap_congr (hpaco i (hEA i hi))]; exact hf.ea i hi
    · rw [hdco i (hLA i hi), ap_congr (hpaco i (hLA i hi))]; exact hf.late i hi hS
    · rw [hdco i (hLA i hi), ap_congr (hpaco i (hLA i hi))]; exact hf.st i hi hS
  have hG0 : G 0 = st.h := by rw [hf.g0, hp.alE]; simp
  have hGl : ∀ A' B', y.LA = A' ++ B' → (G (cntS ss (y.EA ++ A'))).length = st.h.length := by
    intro A'
    refine rev_ind (p := fun A' => ∀ B', y.LA = A' ++ B' → (G (cntS ss (y.EA ++ A'))).length = st.h.length) ?_ ?_ _ A' rfl
    · intro B' _
      have : cntS ss (y.EA ++ []) = 0 := by
        unfold cntS
        rw [List.append_nil, List.length_eq_zero_iff, List.filter_eq_nil_iff]
        intro j hj
        have := hp.ea j hj
        simp only [isQ, beq_iff_eq] at this
        simp [isS, this]
      rw [this, hG0]
    · intro l i ih B' e1
      have e2 : y.LA = l ++ i :: B' := by rw [e1]; simp
      have ih' := ih (i :: B') e2
      have hiL : i ∈ y.LA := by rw [e2]; simp
      have e3 : y.co = (y.EA ++ l) ++ i :: B' := by rw [Lay.co, hp.alE, hp.miE, e2]; simp
      have hpa := pa_eq e3 (nodup_split hn e3).1
      cases hSi : isS ss i with
      | false =>
        have : cntS ss (y.EA ++ (l ++ [i])) = cntS ss (y.EA ++ l) := by simp [cntS, hSi]
        rw [this]; exact ih'
      | true =>
        have : cntS ss (y.EA ++ (l ++ [i])) = cntS ss (y.EA ++ l) + 1 := by simp [cntS, hSi]; omega
        rw [this]
        have hw' : (stA ss i).isW = true := by
          rcases hp.kindE i (hp.low i (by rw [e3]; simp)) with c | c | c
          · have := c.1; simp only [isQ, isS, beq_iff_eq] at this hSi; omega
          · simp only [isA, isS, beq_iff_eq] at c hSi; omega
          · exact c.2
        obtain ⟨hst, _⟩ := hf2.st i hiL hSi
        rw [hpa] at hst
        cases hs : stA ss i with
        | callW dst f args =>
          rw [hs] at hst
          rw [hst.1]; exact ih'
        | _ => rw [hs] at hw'; cases hw'
  have hGm : (G (cntS ss y.co)).length = st.h.length := by
    have : y.co = y.EA ++ y.LA := by rw [Lay.co, hp.alE, hp.miE]; simp
    rw [this]
    exact hGl y.LA [] (by simp)
  rw [hGm] at g2
  refine wpIn_region_any hm ?_
  have he : Evo m st.h w m st.h { w with drawn := w.drawn + 1 } := Evo.same rfl rfl rfl rfl
  have hs' : Sim B m st a { w with drawn := w.drawn + 1 } := ⟨hs.defers.evo he, hs.tmps.evo he, ⟨hs.heap.inj, fun r b hr => (hs.heap.blk r b hr).evo he rfl fun _ => rfl, fun p hp => (hs.heap.glob p hp).evo he⟩⟩
  obtain ⟨hsF, heF⟩ := more_free hs'.heap (flE ss k).length
  have hz : ∀ j, (Array.replicate ops.size false).getD j false = false := by
    intro j
    rw [Array.getD_eq_getD_getElem?]
    by_cases hj : j < ops.size <;> simp [hj]
  have hsim : Sim B m ⟨st.t, st.h ++ List.replicate (flE ss k).length .free⟩ a { w with drawn := w.drawn + 1 } := ⟨hs'.defers.evo heF, hs'.tmps.evo heF, hsF⟩
  have hfil : ∀ M : List Nat, (M.filter fun j => (Array.replicate ops.size false).getD j false) = [] := fun M => by
    rw [List.filter_eq_nil_iff]
    intro j _; rw [hz]; simp
  have hI0 : (⟨st.t, st.h ++ List.replicate (flE ss k).length .free⟩ : St) = ⟨tE ss y (flE ss k) d st.t (fun i => (Array.replicate ops.size false).getD i false), G (cS ss y (fun i => (Array.replicate ops.size false).getD i false)) ++ mE ss (flE ss k) (fun i => (Array.replicate ops.size false).getD i false)⟩ ∧ (G (cS ss y (fun i => (Array.replicate ops.size false).getD i false))).length = st.h.length := by
    have e1 : tE ss y (flE ss k) d st.t (fun i => (Array.replicate ops.size false).getD i false) = st.t := by unfold tE tS; rw [hfil, hfil]; rfl
    have e2 : cS ss y (fun i => (Array.replicate ops.size false).getD i false) = 0 := by unfold cS; rw [hfil]; rfl
    have e3 : mE ss (flE ss k) (fun i => (Array.replicate ops.size false).getD i false) = List.replicate (flE ss k).length .free := by
      rw [List.eq_replicate_iff]
      refine ⟨by simp [mE], fun b hb => ?_⟩
      obtain ⟨q, _, rfl⟩ := List.mem_map.1 hb
      simp only [hz]; simp
    rw [e1, e2, e3, hG0]
    exact ⟨rfl, rfl⟩
  refine draw_gen (k := k) hc hsz0 (fun i hi => hp.ops i (by omega)) (by omega) (fun e s => s = ⟨tE ss y (flE ss k) d st.t e, G (cS ss y e) ++ mE ss (flE ss k) e⟩ ∧ (G (cS ss y e)).length = st.h.length)
    (fun e i s hi hr hI => drawE_step hp rfl hss (cstmW hc i) hf2 g2 hk e s hi hr hI) ?_ ops.size (Array.replicate ops.size false) m _ a _ (by simp) (by simpa using hsz0) hsim (he.trans heF) (fun i j h => by rw [hz] at h; cases h) ?_
  · rintro e s hall ⟨rfl, hl⟩
    have h1 : y.co.filter e = y.co := List.filter_eq_self.2 fun j hj => hall j (hp.low j hj)
    have h2 : (flE ss k).filter e = flE ss k := List.filter_eq_self.2 fun j hj => hall j (List.mem_range.1 (List.mem_filter.1 hj).1)
    have h3 : mE ss (flE ss k) e = (flE ss k).map fun i => .box (zeroA ss i) := List.map_congr_left fun j hj => by rw [hall j (List.mem_range.1 (List.mem_filter.1 hj).1)]; rfl
    have h4 : cS ss y e = cntS ss y.co := by unfold cS; rw [h1]
    have h5 : tE ss y (flE ss k) d st.t e = ap ss d (y.co ++ flE ss k) st.t := by unfold tE tS; rw [h1, h2, ap_app]
    rw [h3, h4, h5]
    have := g3
    simp only [aheads] at this
    have e6 : ap ss d (y.co ++ flE ss k) st.t = ap ss d (y.co ++ flE ss k) st.t := rfl
    exact this
  · rcases Nat.eq_zero_or_pos k with e | e
    · right
      refine ⟨0, by omega, by omega, fun j => by rw [hz j]; simp, ?_⟩
      have hF : flE ss k = [] := by rw [e]; rfl
      have hco : y.co = [] := by
        cases hco : y.co with
        | nil => rfl
        | cons i l => have := hp.low i (by rw [hco]; simp); omega
      have := g3
      simp only [aheads] at this
      rw [hF, hco, e] at this
      rw [hF]
      have hc0 : cntS ss [] = 0 := rfl
      rw [List.append_nil, hc0, hG0] at this
      simpa [ap] using this
    · left
      exact ⟨⟨0, e, hz 0⟩, fun j _ => hz j, hI0⟩

def planEK (ops : Array Oper) (ss0 : List AStm) (cl : List Nat) (k : Nat) : Option (List AStm × List AStm) :=
  if k ≤ (ss0.map toW).length ∧ okE ops (ss0.map toW) cl k (layE (ss0.map toW) cl k) = true then some (headsE (ss0.map toW) cl (layE (ss0.map toW) cl k) (flE (ss0.map toW) k), ss0.drop k) else none
def planEF (ops : Array Oper) (ss0 : List AStm) (cl : List Nat) : Nat → Option (List AStm × List AStm)
  | 0 => none
  | k + 1 => match planEK ops ss0 cl (k + 1) with
    | some p => some p
    | none => planEF ops ss0 cl k
theorem planEF_ok {cl : List Nat} {ss0 : List AStm} {hd tl : List AStm} : ∀ {n : Nat}, planEF ops ss0 cl n = some (hd, tl) → ∃ k, k ≤ (ss0.map toW).length ∧ okE ops (ss0.map toW) cl k (layE (ss0.map toW) cl k) = true ∧ hd = headsE (ss0.map toW) cl (layE (ss0.map toW) cl k) (flE (ss0.map toW) k) ∧ tl = ss0.drop k
  | 0, h => by cases h
  | n + 1, h => by
    unfold planEF at h
    split at h
    · rename_i p hp
      injection h with h
      subst h
      unfold planEK at hp
      split at hp
      · rename_i hc
        simp only [Option.some.injEq, Prod.mk.injEq] at hp
        exact ⟨n + 1, hc.1, hc.2, hp.1.symm, hp.2.symm⟩
      · cases hp
    · exact planEF_ok h
/-- Does a call stand in it that must hold for whatever further blocks? -/
def hasL (l : List AStm) : Bool := l.any fun s => match s with
  | .callL .. => true
  | _ => false
/-- The order that is walked: calls for whatever further blocks, if there is another way, as those that change blocks. -/
def ptrCall (P : Program) (ops : Array Oper) : Bool := ops.any fun o => match o.op with
  | .call ⟨.value (.func f), _, _⟩ => match P.funcs[f]? with
    | some fn => fn.params.any fun t => match P.underlying t with
      | some (.pointer _) => true
      | _ => false
    | none => false
  | _ => false
def planH (pw : Bool) (ops : Array Oper) (ss : List AStm) : Option (List AStm × List AStm) :=
  match planG ops ss with
  | some p => if (hasL p.1 && pw) = true then match (if ops.size = ss.length then planEF ops ss (clos ops.toList) ss.length else none) with
    | some q => some q
    | none => some p
    else some p
  | none => if ops.size = ss.length then planEF ops ss (clos ops.toList) ss.length else none
theorem AW.planH {pw : Bool} (hm : P.follows .mixedOrders = true) {id : Nat} {st : St} {Q : Exit → St → Prop} {ss : List AStm} {hd tl : List AStm} (hc : csts P ops ops.toList = some ss) (hpl : YtodlpcoffmnmbaaDoor.planH pw ops ss = some (hd, tl))
    (hw : aheads P hd st fun st' => aregs P tl st' fun st' => Q .normal st') : AW ro P (.region id ops true) Q st := by
  have viaE : (if ops.size = ss.length then planEF ops ss (clos ops.toList) ss.length else none) = some (hd, tl) → AW ro P (.region id ops true) Q st := by
    intro h
    split at h
    · rename_i hsz
      obtain ⟨k, hk, hok, rfl, rfl⟩ := planEF_ok h
      exact AW.drawE hm hc rfl hsz (planE_of rfl rfl hok) hk hw
    · cases h
  unfold YtodlpcoffmnmbaaDoor.planH at hpl
  split at hpl
  · rename_i p hp
    split at hpl
    · split at hpl
      · rename_i q hq
        injection hpl with hpl
        subst hpl
        exact viaE hq
      · injection hpl with hpl
        subst hpl
        exact AW.planG hm hc hp hw
    · injection hpl with hpl
      subst hpl
      exact AW.planG hm hc hp hw
  · exact viaE hpl
end
end Go.YtodlpcoffmnmbaaDoor
