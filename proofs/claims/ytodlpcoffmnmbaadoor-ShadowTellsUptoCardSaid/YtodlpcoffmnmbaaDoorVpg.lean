/-
  Own work. The value machine, part PG: calls that lay new memory, among operations whose order is open.
-/
import Derived.Test.YtodlpcoffmnmbaaDoorVpz
namespace Go.YtodlpcoffmnmbaaDoor
open Go
set_option linter.unusedVariables false
set_option linter.unusedSimpArgs false

/-- A call that may lay new memory. -/
def toG : AStm → AStm
  | .call d g f a => .callG d g f a
  | s => s
/-- All that stands behind a call comes behind it. -/
def growOk (ss : List AStm) (cl : List Nat) : List Nat → Bool
  | [] => true
  | c :: B => (!(stA ss c).isCall || B.all fun q => bef cl q c) && growOk ss cl B
def layCo (ss : List AStm) (cl : List Nat) (k : Nat) : List Nat :=
  let hs := List.range k
  let cs := hs.filter fun i => (stA ss i).isCall
  let key := fun i => (cs.filter fun c => bef cl i c).length
  (List.range (cs.length + 1)).flatMap fun j => (hs.filter fun i => !(stA ss i).isCall && key i == j) ++ (hs.filter fun i => (stA ss i).isCall && key i == j)

theorem growOk_at {ss : List AStm} {cl : List Nat} : ∀ {l A B : List Nat} {c : Nat}, growOk ss cl l = true → l = A ++ c :: B → (stA ss c).isCall = true → ∀ q ∈ B, bef cl q c = true
  | [], A, B, c, _, e, _ => by cases A <;> cases e
  | x :: l, A, B, c, h, e, hc => by
    simp only [growOk, Bool.and_eq_true, Bool.or_eq_true, Bool.not_eq_true', List.all_eq_true] at h
    cases A with
    | nil =>
      simp only [List.nil_append, List.cons.injEq] at e
      obtain ⟨rfl, rfl⟩ := e
      rcases h.1 with h1 | h1
      · rw [hc] at h1; cases h1
      · exact h1
    | cons a A =>
      simp only [List.cons_append, List.cons.injEq] at e
      exact growOk_at h.2 e.2 hc

theorem SY.more {P : Program} {s : AStm} {t : List D} {h : Heap} {d : D} (hc : s.isCall = false) (hs : SY P s t h d) (L : Heap) : SY P s t (h ++ L) d := by
  cases s with
  | op dst g o => exact guardK_congr (fun _ _ _ => rfl) (fun ⟨hq, h', ha⟩ => ⟨hq, aop_more hq ha L⟩) id hs
  | call dst g f args => cases hc
  | callL dst g f args => exact hs.elim
  | callG dst g f args => exact hs.elim
  | callW dst f args => exact hs.elim
  | chk dst g o => exact hs.elim

theorem holds_mono {α : Type} {o : Option α} {p q : α → Prop} (h : ∀ x, p x → q x) (ho : holds o p) : holds o q := by
  obtain ⟨x, h1, h2⟩ := ho
  exact ⟨x, h1, h x h2⟩
theorem aregs_heads {P : Program} : ∀ (M : List AStm) {R : List AStm} {st : St} {K : St → Prop}, (∀ s ∈ M, ∃ d g o, s = .op d g o) → aregs P (M ++ R) st K → aheads P M st fun st' => aregs P R st' K
  | [], R, st, K, _, h => h
  | s :: M, R, st, K, hM, h => by
    obtain ⟨d, g, o, rfl⟩ := hM s (by simp)
    have hM' : ∀ s ∈ M, ∃ d g o, s = .op d g o := fun s hs => hM s (by simp [hs])
    exact guardK_congr (fun _ _ _ => rfl) (holds_mono fun p hp => aregs_heads M hM' hp) (fun hp => aregs_heads M hM' hp) h

section
variable {P : Program} {ops : Array Oper} {ss : List AStm} {cl : List Nat} {k : Nat} {y : Lay} {ro : Option Nat} {B : Nat} {co : List Nat}

theorem noCall_op {s : AStm} (hk : s.kind = 0) (hc : s.isCall = false) : (∃ d g o, s = .op d g o) ∧ toG s = s ∧ hq false s = s := by
  cases s with
  | op dst g o => exact ⟨⟨_, _, _, rfl⟩, rfl, rfl⟩
  | call dst g f args => cases hc
  | callL dst g f args => cases hk
  | callG dst g f args => cases hk
  | callW dst f args => cases hk
  | chk dst g o => cases hk

/-- The quiet ones up to the next call. -/
theorem grow_split {t0 : List D} {H : Heap} {d : Nat → D} {A R : List Nat} {tl : List AStm} {K : St → Prop} (hk : ∀ i ∈ R, (stA ss i).kind = 0) (hn : (A ++ R).Nodup) (hw : aregs P (R.map (fun i => toG (stA ss i)) ++ tl) ⟨ap ss d A t0, H⟩ K) :
    ∃ d' M R2, R = M ++ R2 ∧ (∀ i ∈ M, (stA ss i).isCall = false) ∧ (∀ c R', R2 = c :: R' → (stA ss c).isCall = true) ∧ (∀ i ∈ A, d' i = d i) ∧
      (∀ A1 i A2, M = A1 ++ i :: A2 → SY P (stA ss i) (ap ss d' (A ++ A1) t0) H (d' i)) ∧ aregs P (R2.map (fun i => toG (stA ss i)) ++ tl) ⟨ap ss d' (A ++ M) t0, H⟩ K := by
  have hR : R = R.takeWhile (fun i => !(stA ss i).isCall) ++ R.dropWhile (fun i => !(stA ss i).isCall) := (List.takeWhile_append_dropWhile).symm
  have hMc : ∀ i ∈ R.takeWhile (fun i => !(stA ss i).isCall), (stA ss i).isCall = false := fun i hi => by
    have := List.all_eq_true.1 (List.all_takeWhile (p := fun i => !(stA ss i).isCall) (l := R)) i hi
    simpa using this
  have hR2 : ∀ c R', R.dropWhile (fun i => !(stA ss i).isCall) = c :: R' → (stA ss c).isCall = true := fun c R' e => by
    have := List.head?_dropWhile_not (p := fun i => !(stA ss i).isCall) (l := R)
    rw [e] at this
    simpa using this
  generalize R.takeWhile (fun i => !(stA ss i).isCall) = M at *
  generalize R.dropWhile (fun i => !(stA ss i).isCall) = R2 at *
  subst hR
  have hMk : ∀ i ∈ M, (stA ss i).kind = 0 := fun i hi => hk i (by simp [hi])
  have e1 : M.map (fun i => toG (stA ss i)) = M.map fun i => hq false (stA ss i) := List.map_congr_left fun i hi => by
    obtain ⟨_, h1, h2⟩ := noCall_op (hMk i hi) (hMc i hi)
    rw [h1, h2]
  rw [List.map_append, List.append_assoc, e1] at hw
  have hw2 := aregs_heads _ (fun s hs => by
    obtain ⟨i, hi, rfl⟩ := List.mem_map.1 hs
    obtain ⟨h0, _, h2⟩ := noCall_op (hMk i hi) (hMc i hi)
    rw [h2]; exact h0) hw
  have hn1 : (A ++ M).Nodup := by
    rw [← List.append_assoc] at hn
    exact (List.nodup_append.1 hn).1
  obtain ⟨d', g1, g2, g3⟩ := walk_quiet (R := []) M A d hMk hn1 (by rw [List.append_nil]; exact hw2)
  refine ⟨d', M, R2, rfl, hMc, hR2, g1, fun A1 i A2 e => ?_, g3⟩
  have := (g2 A1 i A2 e).sy [] (hMk i (by rw [e]; simp)) (.inr rfl)
  rwa [List.append_nil] at this

/-- What is known while heads are still to come. -/
def GInv (P : Program) (ss : List AStm) (y : Lay) (co : List Nat) (t0 : List D) (tl : List AStm) (K : St → Prop) (e : Nat → Bool) (st : St) : Prop :=
  ∃ (d : Nat → D) (A R : List Nat), co = A ++ R ∧ (∀ c R', R = c :: R' → (stA ss c).isCall = true) ∧ (∀ i ∈ A, (stA ss i).isCall = true → e i = true) ∧ (∀ i ∈ R, e i = false) ∧ st.t = tS ss y d t0 e ∧
    (∀ A1 i A2, A = A1 ++ i :: A2 → (stA ss i).isCall = false → SY P (stA ss i) (ap ss d A1 t0) st.h (d i)) ∧ aregs P (R.map (fun i => toG (stA ss i)) ++ tl) ⟨ap ss d A t0, st.h⟩ K

theorem GInv.all {t0 : List D} {tl : List AStm} {K : St → Prop} {e : Nat → Bool} {st : St} (hi : GInv P ss y co t0 tl K e st) (hp : Plan ops ss cl k y) (hco : y.co = co) (ha : ∀ j, j < k → e j = true) : aregs P tl st K := by
  obtain ⟨d, A, R, h1, h2, h3, h4, h5, h6, h7⟩ := hi
  have hR : R = [] := by
    cases R with
    | nil => rfl
    | cons c R =>
      have := h4 c (by simp)
      rw [ha c (hp.low c (by rw [hco, h1]; simp))] at this
      cases this
  subst hR
  rw [List.append_nil] at h1
  have ht : tS ss y d t0 e = ap ss d A t0 := by
    unfold tS
    rw [hco, h1, List.filter_eq_self.2 fun j hj => ha j (hp.low j (by rw [hco, h1]; exact hj))]
  obtain ⟨t, hh⟩ := st
  simp only at h5 h7
  rw [h5, ht]
  simpa using h7

theorem ap_upd {d : Nat → D} {A : List Nat} {i : Nat} {v : D} {t0 : List D} (hi : i ∉ A) : ap ss (fun j => if j = i then v else d j) (A ++ [i]) t0 = setD (ap ss d A t0) (stA ss i).dst v := by
  have hd1 : ∀ j ∈ A, (fun j => if j = i then v else d j) j = d j := fun j hj => if_neg (by intro e; subst e; exact hi hj)
  rw [ap_app, ap_congr hd1]; simp [ap]

/-- ONE STATEMENT, whenever it comes. -/
theorem GInv.step {t0 : List D} {tl : List AStm} {K : St → Prop} {e : Nat → Bool} {st : St} (hi : GInv P ss y co t0 tl K e st) (hp : Plan ops ss cl k y) (hco : y.co = co) (hg : growOk ss cl co = true) {i : Nat} (hik : i < k) (hr : Ready cl e i) (hkq : ∀ j, j < k → (stA ss j).kind = 0) :
    ∃ K', aregs P [stA ss i] st K' ∧ ∀ st', K' st' → GInv P ss y co t0 tl K (addE e i) st' := by
  obtain ⟨d, A, R, h1, h2, h3, h4, h5, h6, h7⟩ := hi
  obtain ⟨t, H⟩ := st
  simp only at h5 h6 h7
  subst h5
  have hn : co.Nodup := by rw [← hco]; simpa using inOrder_nodup hp.order (by simp)
  have hag := agree hp.toPlan0 hik (hp.cov i hik) (fun j hj _ => hp.cov j hj) hr (d := d) (t0 := t0)
  have hmem : i ∈ A ++ R := by rw [← h1, ← hco]; exact hp.cov i hik
  cases hcall : (stA ss i).isCall with
  | false =>
    have hiA : i ∈ A := by
      rcases List.mem_append.1 hmem with h | h
      · exact h
      · exfalso
        cases R with
        | nil => cases h
        | cons c R' =>
          have hc := h2 c R' rfl
          rcases List.mem_cons.1 h with rfl | h
          · rw [hcall] at hc; cases hc
          · have := hr.pre c (growOk_at hg h1 hc i h)
            rw [h4 c (by simp)] at this; cases this
    obtain ⟨A1, A2, rfl⟩ := split_of_mem hiA
    have hpa : pa y.co i = A1 := pa_eq (B := A2 ++ R) (by rw [hco, h1]; simp) (nodup_split (A := A1) (B := A2 ++ R) hn (by rw [h1]; simp)).1
    rw [hpa] at hag
    have hsy := (h6 A1 i A2 rfl hcall).congr hag
    refine ⟨fun st' => st' = ⟨setD (tS ss y d t0 e) (stA ss i).dst (d i), H⟩, SY.toRegs (st := ⟨tS ss y d t0 e, H⟩) hsy rfl, ?_⟩
    rintro st' rfl
    refine ⟨d, A1 ++ i :: A2, R, h1, h2, fun j hj hc => ?_, fun j hj => ?_, (tS_add hp.toPlan0 hik (hp.cov i hik) hr.off).symm, h6, h7⟩
    · simp [addE, h3 j hj hc]
    · have : ¬ j = i := by
        rintro rfl
        rw [h1] at hn
        exact (List.nodup_append.1 hn).2.2 j hiA j hj rfl
      simp [addE, this, h4 j hj]
  | true =>
    have hiR : i ∈ R := by
      rcases List.mem_append.1 hmem with h | h
      · have := h3 i h hcall
        rw [hr.off] at this; cases this
      · exact h
    cases R with
    | nil => cases hiR
    | cons c R' =>
      have hc := h2 c R' rfl
      have hic : i = c := by
        rcases List.mem_cons.1 hiR with h | h
        · exact h
        · have := hr.pre c (growOk_at hg h1 hc i h)
          rw [h4 c (by simp)] at this; cases this
      subst hic
      have hns := nodup_split hn h1
      have hpa : pa y.co i = A := pa_eq (B := R') (by rw [hco, h1]) hns.1
      rw [hpa] at hag
      cases hs : stA ss i with
      | op dst g o => rw [hs] at hcall; cases hcall
      | callL dst g f args => rw [hs] at hcall; cases hcall
      | callG dst g f args => rw [hs] at hcall; cases hcall
      | callW dst f args => rw [hs] at hcall; cases hcall
      | chk dst g o => rw [hs] at hcall; cases hcall
      | call dst g f args =>
        rw [List.map_cons, hs] at h7
        have hw : guardK (ap ss d A t0) g (CallK P (ev (ap ss d A t0) f) (args.map (ev (ap ss d A t0))) H fun v h' => (∃ L, h' = H ++ L) ∧ aregs P (R'.map (fun i => toG (stA ss i)) ++ tl) ⟨setD (ap ss d A t0) dst v, h'⟩ K) (aregs P (R'.map (fun i => toG (stA ss i)) ++ tl) ⟨setD (ap ss d A t0) dst (.tup []), H⟩ K) := h7
        rw [hs] at hag
        have e1 : ev (ap ss d A t0) f = ev (tS ss y d t0 e) f := ev_congr fun n hn => hag n (by simp only [AStm.slots, List.mem_append, List.mem_flatMap]; exact .inr ⟨f, by simp, hn⟩)
        have e2 : args.map (ev (ap ss d A t0)) = args.map (ev (tS ss y d t0 e)) := List.map_congr_left fun x hxo => ev_congr fun n hn => hag n (by simp only [AStm.slots, List.mem_append, List.mem_flatMap]; exact .inr ⟨x, by simp [hxo], hn⟩)
        rw [e1, e2] at hw
        refine ⟨fun st' => ∃ v h', st' = ⟨setD (tS ss y d t0 e) dst v, h'⟩ ∧ (∃ L, h' = H ++ L) ∧ aregs P (R'.map (fun i => toG (stA ss i)) ++ tl) ⟨setD (ap ss d A t0) dst v, h'⟩ K, ?_, ?_⟩
        · refine guardK_congr (fun s b eg => hag s (by subst eg; simp [AStm.slots])) (fun hc2 => ?_) (fun hc2 => ?_) hw
          · have key : ∀ (v : D) (h' : Heap), ((∃ L, h' = H ++ L) ∧ aregs P (R'.map (fun i => toG (stA ss i)) ++ tl) ⟨setD (ap ss d A t0) dst v, h'⟩ K) → aregs P [] ⟨setD (tS ss y d t0 e) dst v, h'⟩ (fun st' => ∃ v h', st' = ⟨setD (tS ss y d t0 e) dst v, h'⟩ ∧ (∃ L, h' = H ++ L) ∧ aregs P (R'.map (fun i => toG (stA ss i)) ++ tl) ⟨setD (ap ss d A t0) dst v, h'⟩ K) := fun v h' hv => ⟨v, h', rfl, hv⟩
            unfold CallK at hc2 ⊢
            split
            · rename_i j first cap hf
              simp only at hf
              rw [hf] at hc2
              exact hc2.mono key
            · rename_i r hf
              simp only at hf
              rw [hf] at hc2
              exact hc2.mono key
            · rename_i hne hne2
              split at hc2
              · rename_i j first cap hf; exact hne j first cap hf
              · rename_i r hf; exact hne2 r hf
              · exact hc2
          · exact ⟨.tup [], H, rfl, ⟨[], (List.append_nil _).symm⟩, hc2⟩
        · rintro st' ⟨v, h', rfl, ⟨L, rfl⟩, hrest⟩
          have hdst : (stA ss i).dst = dst := by rw [hs]; rfl
          rw [← hdst, ← ap_upd hns.1] at hrest
          have hn2 : (A ++ [i] ++ R').Nodup := by rw [h1] at hn; simpa using hn
          obtain ⟨d', M, R2, rfl, hMc, hR2, hd', hM, hrest2⟩ := grow_split (fun j hj => hkq j (hp.low j (by rw [hco, h1]; simp [hj]))) hn2 hrest
          have hdA : ∀ j ∈ A, d' j = d j := fun j hj => by
            rw [hd' j (by simp [hj])]
            exact if_neg (by intro e; subst e; exact hns.1 hj)
          have hdi : d' i = v := by rw [hd' i (by simp)]; simp
          refine ⟨d', A ++ [i] ++ M, R2, by rw [h1]; simp, hR2, fun j hj hc2 => ?_, fun j hj => ?_, ?_, ?_, by simpa using hrest2⟩
          · rcases List.mem_append.1 hj with hj | hj
            · rcases List.mem_append.1 hj with hj | hj
              · simp [addE, h3 j hj hc2]
              · simp only [List.mem_singleton] at hj; simp [addE, hj]
            · rw [hMc j hj] at hc2; cases hc2
          · have : ¬ j = i := by
              rintro rfl
              exact hns.2 (by simp [hj])
            simp [addE, this, h4 j (by simp [hj])]
          · rw [tS_add hp.toPlan0 hik (hp.cov i hik) hr.off, hdst, hdi]
            refine congrArg (fun x => setD x dst v) ?_
            unfold tS
            refine ap_congr fun j hj => ?_
            obtain ⟨hj1, hj2⟩ := List.mem_filter.1 hj
            rw [hco, h1] at hj1
            rcases List.mem_append.1 hj1 with h | h
            · exact (hdA j h).symm
            · rw [h4 j h] at hj2; cases hj2
          · intro A1 j A2 eA hcj
            have hsplit : (∃ A3, A = A1 ++ j :: A3) ∨ ∃ M1 M2, M = M1 ++ j :: M2 ∧ A1 = A ++ [i] ++ M1 := by
              rcases List.append_eq_append_iff.1 eA with ⟨a', q1, q2⟩ | ⟨c', q1, q2⟩
              · -- A1 = A ++ [i] ++ a'
                exact .inr ⟨a', A2, q2, q1⟩
              · cases c' with
                | nil =>
                  simp only [List.nil_append] at q2
                  exact .inr ⟨[], A2, q2.symm, by simpa using q1.symm⟩
                | cons x c' =>
                  simp only [List.cons_append, List.cons.injEq] at q2
                  obtain ⟨rfl, q2⟩ := q2
                  rcases List.eq_nil_or_concat c' with rfl | ⟨c2, z, rfl⟩
                  · have : A = A1 ∧ i = j := by
                      have := List.append_inj' q1 rfl
                      exact ⟨this.1, by simpa using this.2⟩
                    rw [← this.2, hcall] at hcj; cases hcj
                  · left
                    have : A ++ [i] = (A1 ++ j :: c2) ++ [z] := by rw [q1]; simp
                    exact ⟨c2, (List.append_inj' this rfl).1⟩
            rcases hsplit with ⟨A3, rfl⟩ | ⟨M1, M2, rfl, rfl⟩
            · have := (h6 A1 j A3 rfl hcj).more hcj L
              rw [hdA j (by simp), ap_congr (d := d') (d' := d) (fun q hq => hdA q (by simp [hq]))]
              exact this
            · have := hM M1 j M2 rfl
              simpa using this

theorem grow_sound (hc : csts P ops ops.toList = some ss) (hsz0 : ops.size = ss.length) (hp : Plan ops ss (clos ops.toList) k y) (hk : k ≤ ss.length) (hco : y.co = co) (hg : growOk ss (clos ops.toList) co = true) (hkq : ∀ j, j < k → (stA ss j).kind = 0) {t0 : List D} {Q : Exit → St → Prop} {m0 : Mu} {h0 : Heap} {w0 : World} :
    ∀ (fuel : Nat) (listed : Array Bool) (m : Mu) (st : St) (a : Act) (w : World), listed.toList.count false = fuel → listed.size = ss.length → Sim B m st a w → Evo m0 h0 w0 m st.h w →
      (∀ i j, listed.getD i false = true → bef (clos ops.toList) i j = true → listed.getD j false = true) →
      (((∃ i, i < k ∧ listed.getD i false = false) ∧ (∀ j, k ≤ j → listed.getD j false = false) ∧ GInv P ss y co t0 (ss.drop k) (fun st' => Q .normal st') (fun i => listed.getD i false) st) ∨
       (∃ c, k ≤ c ∧ c ≤ ss.length ∧ (∀ j, listed.getD j false = decide (j < c)) ∧ aregs P (ss.drop c) st fun st' => Q .normal st')) →
      wpAnyIn (FF ro) 0 P .any ops (Lift B m0 h0 w0 Q) fuel listed a w := by
  obtain ⟨c1, c2⟩ := csts_get hc
  have onestep : ∀ (i : Nat) (o : Oper), ops[i]? = some o → i < ss.length → ∀ j, bef (clos ops.toList) i j = true → ∃ x ∈ o.after, Region.binds .any x = true ∧ (j = x.on ∨ bef (clos ops.toList) x.on j = true) := by
    intro i o ho hi j hb
    obtain ⟨o', ho', hlt, _⟩ := hp.ops i hi
    rw [ho] at ho'
    injection ho' with ho'
    subst ho'
    exact clos_get ops.toList i o (by simpa using ho) hlt j hb
  intro fuel
  induction fuel with
  | zero =>
    intro listed m st a w hcnt hsz hs he hcl hinv
    have hall : ∀ j, j < ss.length → listed.getD j false = true := by
      intro j hj
      have hnot : false ∉ listed.toList := List.count_eq_zero.1 hcnt
      have hj' : j < listed.size := by omega
      rw [Array.getD_eq_getD_getElem?, Array.getElem?_eq_getElem hj']
      simp only [Option.getD_some]
      cases hb : listed[j] with
      | true => rfl
      | false => exact absurd (by rw [← hb]; simp) hnot
    refine ⟨?_, ?_⟩
    · rw [List.eq_nil_iff_forall_not_mem]
      intro i hi
      obtain ⟨h1, o, h2, _⟩ := mem_ready.1 hi
      have hi' : i < ss.length := by rw [← hsz0]; exact (Array.getElem?_eq_some_iff.1 h2).1
      have := hall i hi'
      rw [Array.getD_eq_getD_getElem?] at this h1
      cases hx : listed[i]? with
      | none => simp [hx] at h1
      | some b => simp [hx] at h1 this; rw [this] at h1; cases h1
    · rcases hinv with ⟨⟨i, hi, hff⟩, _, _⟩ | ⟨c, hc1, hc2, hl, hr⟩
      · rw [hall i (by omega)] at hff; cases hff
      · have : c = ss.length := by
          rcases Nat.lt_or_ge c ss.length with hlt | hge
          · have := hall c hlt
            rw [hl c] at this
            simp at this
          · omega
        subst this
        rw [List.drop_length] at hr
        exact ⟨m, st, hs, he, hr⟩
  | succ fuel ih =>
    intro listed m st a w hcnt hsz hs he hcl hinv
    have hun : ∃ i, i < ss.length ∧ listed.getD i false = false := by
      have hmem : false ∈ listed.toList := List.count_pos_iff.1 (by omega)
      obtain ⟨i, hi, hv⟩ := List.getElem_of_mem hmem
      have hi' : i < listed.size := by simpa using hi
      refine ⟨i, by omega, ?_⟩
      rw [Array.getD_eq_getD_getElem?, Array.getElem?_eq_getElem hi']
      simpa using hv
    have getT : ∀ i, i < ss.length → listed.getD i false = false → listed.getD i true = false := by
      intro i hi hff
      have hi' : i < listed.size := by omega
      rw [Array.getD_eq_getD_getElem?, Array.getElem?_eq_getElem hi'] at hff ⊢
      simpa using hff
    have getF : ∀ i, listed.getD i true = false → i < ss.length ∧ listed.getD i false = false := by
      intro i hi
      rw [Array.getD_eq_getD_getElem?] at hi ⊢
      cases hx : listed[i]? with
      | none => simp [hx] at hi
      | some b =>
        have := (Array.getElem?_eq_some_iff.1 hx).1
        simp [hx] at hi ⊢
        exact ⟨by omega, hi⟩
    have cnt' : ∀ i, i < ss.length → listed.getD i false = false → (listed.setIfInBounds i true).toList.count false = fuel := by
      intro i hi hff
      have hi' : i < listed.size := by omega
      have hv : listed[i] = false := by
        rw [Array.getD_eq_getD_getElem?, Array.getElem?_eq_getElem hi'] at hff
        simpa using hff
      rw [Array.toList_setIfInBounds, List.count_set (by simpa using hi')]
      simp [hv, hcnt]
    refine ⟨fun hempty => ?_, fun i hi => ?_⟩
    · exfalso
      obtain ⟨i, h1, h2, h3⟩ := exists_first (fun i => listed.getD i false = false) hun
      obtain ⟨o, g1, g3, _⟩ := hp.ops i h1
      have : i ∈ Region.ready .any ops listed := mem_ready.2 ⟨getT i h1 h2, o, g1, fun e he hb => by
        have := h3 e.on (g3 e he hb)
        simpa using this⟩
      rw [hempty] at this
      cases this
    · obtain ⟨q1, o, q2, q3⟩ := mem_ready.1 hi
      obtain ⟨hin, hfi⟩ := getF i q1
      obtain ⟨o', g1, g3, g5⟩ := hp.ops i hin
      rw [q2] at g1
      injection g1 with g1
      subst g1
      obtain ⟨s, g2, hcs⟩ := c2 i o (by simpa using q2)
      have hsA : stA ss i = s := by simp [stA, List.getD_eq_getElem?_getD, g2]
      unfold wpOpIn
      simp only [q2]
      have hsz' : (listed.setIfInBounds i true).size = ss.length := by simpa using hsz
      have lset : ∀ j, (listed.setIfInBounds i true).getD j false = (j == i || listed.getD j false) := by
        intro j
        by_cases e : j = i
        · subst e
          have : j < listed.size := by omega
          simp [this]
        · rw [getD_set_ne' (by omega)]
          simp [e]
      have pre : ∀ j, bef (clos ops.toList) i j = true → listed.getD j false = true := fun j hb =>
        binds_listed (e := fun i => listed.getD i false) (fun a b h1 h2 => hcl a b h1 h2) (onestep i o q2 hin j) q3 hb
      have hcl' : ∀ p q, (listed.setIfInBounds i true).getD p false = true → bef (clos ops.toList) p q = true → (listed.setIfInBounds i true).getD q false = true := by
        intro p q h1 h2
        rw [lset] at h1 ⊢
        simp only [Bool.or_eq_true, beq_iff_eq] at h1 ⊢
        rcases h1 with rfl | h1
        · exact .inr (pre q h2)
        · exact .inr (hcl p q h1 h2)
      have eadd : (fun j => (listed.setIfInBounds i true).getD j false) = addE (fun j => listed.getD j false) i := by
        funext j; rw [lset]; rfl
      have fin : ∀ {K : St → Prop}, aregs P [s] st K → (∀ st', K st' → (((∃ j, j < k ∧ (listed.setIfInBounds i true).getD j false = false) ∧ (∀ j, k ≤ j → (listed.setIfInBounds i true).getD j false = false) ∧ GInv P ss y co t0 (ss.drop k) (fun st' => Q .normal st') (fun j => (listed.setIfInBounds i true).getD j false) st') ∨
       (∃ c, k ≤ c ∧ c ≤ ss.length ∧ (∀ j, (listed.setIfInBounds i true).getD j false = decide (j < c)) ∧ aregs P (ss.drop c) st' fun st' => Q .normal st'))) →
          if Region.wanted o (yielded ops a.tmps) = true then o.wpIn (FF ro) 0 P a w (wpAnyIn (FF ro) 0 P .any ops (Lift B m0 h0 w0 Q) fuel (listed.setIfInBounds i true)) (Lift B m0 h0 w0 Q) else (∀ f, o.about P w a.eval = some f → (FF ro).fn f) ∧ wpAnyIn (FF ro) 0 P .any ops (Lift B m0 h0 w0 Q) fuel (listed.setIfInBounds i true) (a.put o.dst undef) w := by
        intro K hreg hKK
        have := stm_sound (ro := ro) (Kc := wpAnyIn (FF ro) 0 P .any ops (Lift B m0 h0 w0 Q) fuel (listed.setIfInBounds i true)) (Q := Lift B m0 h0 w0 Q) hs hcs hreg fun m' st' a' w' s1 s2 s3 => ih _ m' st' a' w' (cnt' i hin hfi) hsz' s1 (he.trans s2) hcl' (hKK st' s3)
        exact this
      rcases hinv with ⟨⟨j0, hj0, hf0⟩, hlate, hG⟩ | ⟨c, hc1, hc2, hl, hr⟩
      · -- one of the first ones
        have hik : i < k := by
          rcases Nat.lt_or_ge i k with h1 | h1
          · exact h1
          · have := pre j0 (g5 h1 j0 (by omega))
            rw [this] at hf0; cases hf0
        have hrd : Ready (clos ops.toList) (fun j => listed.getD j false) i := ⟨hfi, fun a b h1 h2 => hcl a b h1 h2, pre⟩
        have next : ∀ st', GInv P ss y co t0 (ss.drop k) (fun st' => Q .normal st') (fun j => (listed.setIfInBounds i true).getD j false) st' → (((∃ j, j < k ∧ (listed.setIfInBounds i true).getD j false = false) ∧ (∀ j, k ≤ j → (listed.setIfInBounds i true).getD j false = false) ∧ GInv P ss y co t0 (ss.drop k) (fun st' => Q .normal st') (fun j => (listed.setIfInBounds i true).getD j false) st') ∨
            (∃ c, k ≤ c ∧ c ≤ ss.length ∧ (∀ j, (listed.setIfInBounds i true).getD j false = decide (j < c)) ∧ aregs P (ss.drop c) st' fun st' => Q .normal st')) := by
          intro st' hst'
          by_cases hmore : ∃ j, j < k ∧ (listed.setIfInBounds i true).getD j false = false
          · left
            refine ⟨hmore, fun j hj => ?_, hst'⟩
            have e1 : (j == i) = false := by simp; omega
            rw [lset j, hlate j hj, e1]; rfl
          · right
            have hallk : ∀ j, j < k → (listed.setIfInBounds i true).getD j false = true := by
              intro j hj
              cases hb : (listed.setIfInBounds i true).getD j false with
              | true => rfl
              | false => exact absurd ⟨j, hj, hb⟩ hmore
            refine ⟨k, Nat.le_refl _, hk, fun j => ?_, hst'.all hp hco hallk⟩
            by_cases hj : j < k
            · rw [hallk j hj]; simp [hj]
            · have e1 : (j == i) = false := by simp; omega
              rw [lset j, hlate j (by omega), e1]; simp [hj]
        obtain ⟨K, hreg, hKK⟩ := hG.step hp hco hg hik hrd hkq
        rw [hsA] at hreg
        refine fin hreg fun st' hst' => next st' ?_
        rw [eadd]
        exact hKK st' hst'
      · -- one of the last ones
        have hic : i = c := by
          have h1 : ¬ i < c := by
            have := hl i
            rw [hfi] at this
            simpa using this.symm
          rcases Nat.lt_or_ge c i with h2 | h2
          · have := pre c (g5 (by omega) c h2)
            rw [hl c] at this
            simp at this
          · omega
        subst hic
        rw [List.drop_eq_getElem_cons hin] at hr
        have hsg : ss[i] = s := by
          rw [List.getElem?_eq_getElem hin] at g2
          injection g2
        rw [hsg, aregs_cons] at hr
        refine fin hr fun st' hst' => .inr ⟨i + 1, by omega, by omega, fun j => ?_, hst'⟩
        rw [lset j, hl j]
        by_cases e : j = i
        · subst e; simp
        · by_cases hj : j < i
          · simp [hj]; omega
          · have e1 : (j == i) = false := by simpa using e
            have e2 : decide (j < i) = false := by simpa using hj
            have e3 : decide (j < i + 1) = false := by simp; omega
            rw [e1, e2, e3]; rfl


/-- A REGION WHOSE ORDER IS OPEN, with calls that lay new memory. -/
theorem AW.grow (hm : P.follows .mixedOrders = true) {id : Nat} {st : St} {Q : Exit → St → Prop} (hc : csts P ops ops.toList = some ss) (hsz0 : ops.size = ss.length) (hp : Plan ops ss (clos ops.toList) k y) (hk : k ≤ ss.length) (hco : y.co = co) (hg : growOk ss (clos ops.toList) co = true) (hkq : ∀ j, j < k → (stA ss j).kind = 0)
    (hw : aregs P (co.map (fun i => toG (stA ss i)) ++ ss.drop k) st fun st' => Q .normal st') : AW ro P (.region id ops true) Q st := by
  intro B m a w hB hs
  refine wpIn_region_any hm ?_
  have he : Evo m st.h w m st.h { w with drawn := w.drawn + 1 } := Evo.same rfl rfl rfl rfl
  have hs' : Sim B m st a { w with drawn := w.drawn + 1 } := ⟨hs.defers.evo he, hs.tmps.evo he, ⟨hs.heap.inj, fun r b hr => (hs.heap.blk r b hr).evo he rfl fun _ => rfl, fun p hp => (hs.heap.glob p hp).evo he⟩⟩
  have hz : ∀ j, (Array.replicate ops.size false).getD j false = false := by
    intro j
    rw [Array.getD_eq_getD_getElem?]
    by_cases hj : j < ops.size <;> simp [hj]
  have hn : co.Nodup := by rw [← hco]; simpa using inOrder_nodup hp.order (by simp)
  refine grow_sound hc hsz0 hp hk hco hg hkq (t0 := st.t) ops.size (Array.replicate ops.size false) m st a _ (by simp) (by simpa using hsz0) hs' he (fun i j h => by rw [hz] at h; cases h) ?_
  obtain ⟨d', M, R2, e1, hMc, hR2, _, hM, hrest⟩ := grow_split (A := []) (d := fun _ => .any) (t0 := st.t) (H := st.h) (R := co) (fun j hj => hkq j (hp.low j (by rw [hco]; exact hj))) (by simpa using hn) (by simpa [ap] using hw)
  have hG : GInv P ss y co st.t (ss.drop k) (fun st' => Q .normal st') (fun i => (Array.replicate ops.size false).getD i false) st := by
    refine ⟨d', M, R2, e1, hR2, fun i hi hc2 => ?_, fun i _ => hz i, ?_, fun A1 i A2 e hci => ?_, by simpa using hrest⟩
    · rw [hMc i hi] at hc2; cases hc2
    · unfold tS
      rw [List.filter_eq_nil_iff.2 (fun j _ => by rw [hz]; simp)]; rfl
    · have := hM A1 i A2 e
      simpa using this
  rcases Nat.eq_zero_or_pos k with e | e
  · right
    refine ⟨k, Nat.le_refl _, hk, fun j => by rw [hz j]; simp; omega, hG.all hp hco (fun j hj => by omega)⟩
  · left
    exact ⟨⟨0, e, hz 0⟩, fun j _ => hz j, hG⟩
end

/-- The calls that lay new memory, and the rest one behind the other. -/
def growK (ops : Array Oper) (ss : List AStm) (cl : List Nat) (k : Nat) : Option (List AStm × List AStm) :=
  if k ≤ ss.length ∧ ((List.range k).any fun i => (stA ss i).isCall) = true then
    if ((List.range k).all fun i => isQ ss i) = true then
      if planOk ops ss cl k ⟨layCo ss cl k, [], [], []⟩ = true ∧ growOk ss cl (layCo ss cl k) = true then some ([], (layCo ss cl k).map (fun i => toG (stA ss i)) ++ ss.drop k) else none
    else none
  else none
def growFrom (ops : Array Oper) (ss : List AStm) (cl : List Nat) : Nat → Nat → Option (List AStm × List AStm)
  | 0, _ => none
  | f + 1, k => match growK ops ss cl k with
    | some p => some p
    | none => growFrom ops ss cl f (k + 1)
def planG (ops : Array Oper) (ss : List AStm) : Option (List AStm × List AStm) :=
  match (if ops.size = ss.length then growFrom ops ss (clos ops.toList) ss.length 1 else none) with
  | some p => some p
  | none => plan ops ss

section
variable {P : Program} {ops : Array Oper} {ss : List AStm} {ro : Option Nat}
theorem growFrom_ok {cl : List Nat} {hd tl : List AStm} : ∀ {n k0 : Nat}, growFrom ops ss cl n k0 = some (hd, tl) → ∃ k, k ≤ ss.length ∧ (∀ i, i < k → isQ ss i = true) ∧ planOk ops ss cl k ⟨layCo ss cl k, [], [], []⟩ = true ∧ growOk ss cl (layCo ss cl k) = true ∧ hd = [] ∧ tl = (layCo ss cl k).map (fun i => toG (stA ss i)) ++ ss.drop k
  | 0, _, h => by cases h
  | n + 1, k0, h => by
    unfold growFrom at h
    split at h
    · rename_i p hp
      injection h with h
      subst h
      unfold growK at hp
      split at hp
      · rename_i hk
        split at hp
        · rename_i hq
          split at hp
          · rename_i hok
            simp only [Option.some.injEq, Prod.mk.injEq] at hp
            exact ⟨k0, hk.1, fun i hi => all_range hq hi, hok.1, hok.2, hp.1.symm, hp.2.symm⟩
          · cases hp
        · cases hp
      · cases hp
    · exact growFrom_ok h
theorem AW.planG (hm : P.follows .mixedOrders = true) {id : Nat} {st : St} {Q : Exit → St → Prop} {hd tl : List AStm} (hc : csts P ops ops.toList = some ss) (hpl : YtodlpcoffmnmbaaDoor.planG ops ss = some (hd, tl))
    (hw : aheads P hd st fun st' => aregs P tl st' fun st' => Q .normal st') : AW ro P (.region id ops true) Q st := by
  unfold YtodlpcoffmnmbaaDoor.planG at hpl
  split at hpl
  · rename_i p hp
    injection hpl with hpl
    subst hpl
    split at hp
    · rename_i hsz
      obtain ⟨k, hk, hq, h1, h2, rfl, rfl⟩ := growFrom_ok hp
      exact AW.grow hm hc hsz (plan_of h1) hk (co := layCo ss (clos ops.toList) k) (by simp [Lay.co]) h2 (fun j hj => by simpa [isQ] using hq j hj) hw
    · cases hp
  · exact AW.plan hm hc hpl hw
end
end Go.YtodlpcoffmnmbaaDoor
