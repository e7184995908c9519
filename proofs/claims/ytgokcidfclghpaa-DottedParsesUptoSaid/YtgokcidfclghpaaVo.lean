/-
  Own work. The value machine, part O: a region whose order is open; code as a whole; a function.
-/
import Derived.Test.YtgokcidfclghpaaVn
namespace Go.Ytgokcidfclghpaa
open Go
set_option linter.unusedVariables false
set_option linter.unusedSimpArgs false

/-! ### what some of a region's first statements have made -/
abbrev DD := List (Option Nat × D)
def app : DD → Array Bool → Nat → List D → List D
  | [], _, _, t => t
  | p :: r, listed, i, t => app r listed (i + 1) (if listed.getD i false = true then setD t p.1 p.2 else t)

def apart (x y : Option Nat) : Bool :=
  match x, y with
  | some a, some b => a != b
  | _, _ => true

theorem setD_comm {t : List D} {x y : Option Nat} {d e : D} (h : apart x y = true) : setD (setD t x d) y e = setD (setD t y e) x d := by
  cases x <;> cases y <;> simp [setD, apart] at *
  exact List.set_comm _ _ (by omega)

theorem app_setD : ∀ (r : DD) (listed : Array Bool) (i : Nat) (t : List D) (x : Option Nat) (d : D), (r.all fun p => apart p.1 x) = true → app r listed i (setD t x d) = setD (app r listed i t) x d
  | [], _, _, _, _, _, _ => rfl
  | p :: r, listed, i, t, x, d, h => by
    simp only [List.all_cons, Bool.and_eq_true] at h
    simp only [app]
    split
    · rw [← setD_comm (x := p.1) (y := x) h.1, app_setD r listed (i + 1) _ x d h.2]
    · exact app_setD r listed (i + 1) _ x d h.2

theorem app_later : ∀ (r : DD) (listed listed' : Array Bool) (i : Nat) (t : List D), (∀ j, i ≤ j → listed.getD j false = listed'.getD j false) → app r listed i t = app r listed' i t
  | [], _, _, _, _, _ => rfl
  | p :: r, listed, listed', i, t, h => by
    simp only [app]
    rw [h i (Nat.le_refl _)]
    exact app_later r listed listed' (i + 1) _ fun j hj => h j (by omega)

/-- Are the statements' places all different? -/
def allApart : DD → Bool
  | [] => true
  | p :: r => (r.all fun q => apart q.1 p.1) && allApart r

theorem getD_set_ne' {listed : Array Bool} {i j : Nat} (h : i ≠ j) : (listed.setIfInBounds i true).getD j false = listed.getD j false := by
  simp [Array.getElem?_setIfInBounds_ne h]

theorem app_add : ∀ (r : DD) (listed : Array Bool) (k i : Nat) (t : List D) (x : Option Nat) (d : D), allApart r = true → k ≤ i → r[i - k]? = some (x, d) → listed.getD i false = false → i < listed.size →
    app r (listed.setIfInBounds i true) k t = setD (app r listed k t) x d
  | [], _, _, _, _, _, _, _, _, h, _, _ => by simp at h
  | p :: r, listed, k, i, t, x, d, ha, hk, hr, hl, hsz => by
    simp only [allApart, Bool.and_eq_true] at ha
    simp only [app]
    by_cases e : i = k
    · subst e
      simp only [Nat.sub_self, List.getElem?_cons_zero, Option.some.injEq] at hr
      subst hr
      have g1 : (listed.setIfInBounds i true).getD i false = true := by simp [hsz]
      rw [if_pos g1, if_neg (by simp [hl])]
      rw [app_later r (listed.setIfInBounds i true) listed (i + 1) _ fun j hj => getD_set_ne' (by omega)]
      exact app_setD r listed (i + 1) t x d ha.1
    · rw [getD_set_ne' e]
      exact app_add r listed (k + 1) i _ x d ha.2 (by omega) (by rw [show i - k = (i - (k + 1)) + 1 by omega] at hr; simpa using hr) hl hsz

theorem app_none : ∀ (r : DD) (listed : Array Bool) (k : Nat) (t : List D) (s : Nat), (∀ p ∈ r, p.1 ≠ some s) → (app r listed k t)[s]? = t[s]?
  | [], _, _, _, _, _ => rfl
  | p :: r, listed, k, t, s, h => by
    simp only [app]
    rw [app_none r listed (k + 1) _ s fun q hq => h q (by simp [hq])]
    split
    · cases hp : p.1 with
      | none => rfl
      | some a =>
        have : a ≠ s := fun e => h p (by simp) (by rw [hp, e])
        simp [setD, List.getElem?_set_ne this]
    · rfl

theorem app_length : ∀ (r : DD) (listed : Array Bool) (k : Nat) (t : List D), (app r listed k t).length = t.length
  | [], _, _, _ => rfl
  | p :: r, listed, k, t => by
    simp only [app]
    rw [app_length r listed (k + 1)]
    split
    · cases p.1 <;> simp [setD]
    · rfl

theorem app_some : ∀ (r : DD) (listed : Array Bool) (k j : Nat) (t : List D) (s : Nat) (d : D), allApart r = true → r[j]? = some (some s, d) → listed.getD (k + j) false = true → s < t.length → (app r listed k t)[s]? = some d
  | [], _, _, _, _, _, _, _, h, _, _ => by simp at h
  | p :: r, listed, k, j, t, s, d, ha, hj, hl, hs => by
    simp only [allApart, Bool.and_eq_true] at ha
    simp only [app]
    cases j with
    | zero =>
      simp only [List.getElem?_cons_zero, Option.some.injEq] at hj
      subst hj
      rw [if_pos (by simpa using hl)]
      rw [app_none r listed (k + 1) _ s fun q hq => ?_]
      · simp [setD, hs]
      · have := List.all_eq_true.1 ha.1 q hq
        intro e
        simp [apart, e] at this
    | succ j =>
      simp only [List.getElem?_cons_succ] at hj
      refine app_some r listed (k + 1) j _ s d ha.2 hj (by rw [← hl]; congr 1; omega) ?_
      split
      · cases p.1 <;> simpa [setD] using hs
      · exact hs

/-- What statements one behind the other make, if they leave the blocks as they are. -/
inductive Trace (P : Program) (h : Heap) : List AStm → List D → DD → List D → Prop
  | nil (t : List D) : Trace P h [] t [] t
  | cons {s : AStm} {ss : List AStm} {t t' : List D} {d : D} {r : DD} (hd : SY P s t h d) (hr : Trace P h ss (setD t s.dst d) r t') : Trace P h (s :: ss) t ((s.dst, d) :: r) t'

def AStm.quiet : AStm → Bool
  | .op _ _ o => o.quiet
  | .call .. => true

theorem trace_of (P : Program) : ∀ (ss : List AStm) (st : St) (K : St → Prop), ss.all AStm.quiet = true → aheads P ss st K → ∃ r t', Trace P st.h ss st.t r t' ∧ K ⟨t', st.h⟩
  | [], st, K, _, h => ⟨[], st.t, .nil _, h⟩
  | .op dst g o :: ss, st, K, hq, h => by
    simp only [List.all_cons, Bool.and_eq_true, AStm.quiet] at hq
    have yes : ∀ d h', aop o st.t st.h = some (d, h') → aheads P ss ⟨setD st.t dst d, h'⟩ K → (∀ y n : Prop, y → (guardK st.t g y n)) → ∃ r t', Trace P st.h (.op dst g o :: ss) st.t r t' ∧ K ⟨t', st.h⟩ := by
      intro d h' ha hk hg
      have := aop_quiet hq.1 ha
      subst this
      obtain ⟨r, t', h1, h2⟩ := trace_of P ss ⟨setD st.t dst d, st.h⟩ K hq.2 hk
      exact ⟨_, t', .cons (d := d) (hg _ _ ⟨hq.1, _, ha⟩) h1, h2⟩
    have no : aheads P ss ⟨setD st.t dst (.tup []), st.h⟩ K → (∀ y n : Prop, n → (guardK st.t g y n)) → ∃ r t', Trace P st.h (.op dst g o :: ss) st.t r t' ∧ K ⟨t', st.h⟩ := by
      intro hk hg
      obtain ⟨r, t', h1, h2⟩ := trace_of P ss ⟨setD st.t dst (.tup []), st.h⟩ K hq.2 hk
      exact ⟨_, t', .cons (d := .tup []) (hg _ _ rfl) h1, h2⟩
    simp only [aheads] at h
    unfold guardK at h
    cases g with
    | none => obtain ⟨⟨d, h'⟩, ha, hk⟩ := h; exact yes d h' ha hk fun y n hy => hy
    | some p =>
      obtain ⟨s, b⟩ := p
      simp only at h
      split at h
      · rename_i c hc
        by_cases e : c = b
        · obtain ⟨⟨d, h'⟩, ha, hk⟩ := h.1 e
          exact yes d h' ha hk fun y n hy => by simp only [guardK]; rw [hc]; exact ⟨fun _ => hy, fun ne => absurd e ne⟩
        · exact no (h.2 e) fun y n hn => by simp only [guardK]; rw [hc]; exact ⟨fun e' => absurd e' e, fun _ => hn⟩
      · rename_i hc
        exact no h fun y n hn => by simp only [guardK]; rw [hc]; exact hn
      · exact h.elim
  | .call dst g f args :: ss, st, K, hq, h => by
    simp only [List.all_cons, Bool.and_eq_true, AStm.quiet] at hq
    have yes : ∀ d, (CallK P (ev st.t f) (args.map (ev st.t)) st.h fun d' h' => d' = d ∧ h' = st.h) → aheads P ss ⟨setD st.t dst d, st.h⟩ K → (∀ y n : Prop, y → (guardK st.t g y n)) → ∃ r t', Trace P st.h (.call dst g f args :: ss) st.t r t' ∧ K ⟨t', st.h⟩ := by
      intro d ha hk hg
      obtain ⟨r, t', h1, h2⟩ := trace_of P ss ⟨setD st.t dst d, st.h⟩ K hq.2 hk
      exact ⟨_, t', .cons (d := d) (hg _ _ ha) h1, h2⟩
    have no : aheads P ss ⟨setD st.t dst (.tup []), st.h⟩ K → (∀ y n : Prop, n → (guardK st.t g y n)) → ∃ r t', Trace P st.h (.call dst g f args :: ss) st.t r t' ∧ K ⟨t', st.h⟩ := by
      intro hk hg
      obtain ⟨r, t', h1, h2⟩ := trace_of P ss ⟨setD st.t dst (.tup []), st.h⟩ K hq.2 hk
      exact ⟨_, t', .cons (d := .tup []) (hg _ _ rfl) h1, h2⟩
    simp only [aheads] at h
    unfold guardK at h
    cases g with
    | none => obtain ⟨d, ha, hk⟩ := h; exact yes d ha hk fun y n hy => hy
    | some p =>
      obtain ⟨s, b⟩ := p
      simp only at h
      split at h
      · rename_i c hc
        by_cases e : c = b
        · obtain ⟨d, ha, hk⟩ := h.1 e
          exact yes d ha hk fun y n hy => by simp only [guardK]; rw [hc]; exact ⟨fun _ => hy, fun ne => absurd e ne⟩
        · exact no (h.2 e) fun y n hn => by simp only [guardK]; rw [hc]; exact ⟨fun e' => absurd e' e, fun _ => hn⟩
      · rename_i hc
        exact no h fun y n hn => by simp only [guardK]; rw [hc]; exact hn
      · exact h.elim

theorem Trace.dsts {P : Program} {h : Heap} {ss : List AStm} {t t' : List D} {r : DD} (tr : Trace P h ss t r t') : r.map (·.1) = ss.map AStm.dst := by
  induction tr with
  | nil t => rfl
  | cons hd hr ih => simp [ih]

/-- The first ones listed, all of them. -/
def firsts (n k : Nat) : Array Bool := (Array.range n).map fun i => decide (i < k)

theorem firsts_get (n k i : Nat) : (firsts n k).getD i false = (decide (i < n) && decide (i < k)) := by
  simp only [firsts, Array.getD_eq_getD_getElem?, Array.getElem?_map]
  by_cases h : i < n <;> simp [h]

theorem Trace.at {P : Program} {h : Heap} {ss : List AStm} {t t' : List D} {r : DD} (tr : Trace P h ss t r t') : ∀ (i : Nat) (s : AStm) (d : D) (x : Option Nat), ss[i]? = some s → r[i]? = some (x, d) →
    x = s.dst ∧ SY P s (app r (firsts ss.length i) 0 t) h d := by
  induction tr with
  | nil t => intro i s d x hs; simp at hs
  | @cons s0 ss t t' d0 r hd hr ih =>
    intro i s d x hs hr'
    cases i with
    | zero =>
      simp only [List.getElem?_cons_zero, Option.some.injEq] at hs hr'
      subst hs
      simp only [Prod.mk.injEq] at hr'
      obtain ⟨rfl, rfl⟩ := hr'
      refine ⟨rfl, ?_⟩
      have hz : ∀ (r : DD) (k : Nat) (t : List D), app r (firsts (ss.length + 1) 0) k t = t := by
        intro r
        induction r with
        | nil => intro k t; rfl
        | cons p r ih2 =>
          intro k t
          simp only [app, firsts_get]
          simpa using ih2 (k + 1) t
      simp only [List.length_cons, hz]
      exact hd
    | succ i =>
      simp only [List.getElem?_cons_succ] at hs hr'
      obtain ⟨h1, h2⟩ := ih i s d x hs hr'
      refine ⟨h1, ?_⟩
      have hsh : ∀ (r : DD) (k : Nat) (t : List D), app r (firsts (ss.length + 1) (i + 1)) (k + 1) t = app r (firsts ss.length i) k t := by
        intro r
        induction r with
        | nil => intro k t; rfl
        | cons p r ih2 =>
          intro k t
          simp only [app, firsts_get]
          have e : (decide (k + 1 < ss.length + 1) && decide (k + 1 < i + 1)) = (decide (k < ss.length) && decide (k < i)) := by simp
          rw [e]
          exact ih2 (k + 1) _
      have e0 : app ((s0.dst, d0) :: r) (firsts (s0 :: ss).length (i + 1)) 0 t = app r (firsts ss.length i) 0 (setD t s0.dst d0) := by
        rw [List.length_cons]
        simp only [app, firsts_get]
        rw [if_pos (by simp)]
        exact hsh r 0 _
      rw [e0]
      exact h2

theorem Trace.end {P : Program} {h : Heap} {ss : List AStm} {t t' : List D} {r : DD} (tr : Trace P h ss t r t') : ∀ (listed : Array Bool) (k : Nat), (∀ i, i < ss.length → listed.getD (k + i) false = true) → app r listed k t = t' := by
  induction tr with
  | nil t => intro _ _ _; rfl
  | @cons s0 ss t t' d0 r hd hr ih =>
    intro listed k hl
    simp only [app]
    rw [if_pos (by have := hl 0 (by simp); simpa using this)]
    exact ih listed (k + 1) fun i hi => by
      have := hl (i + 1) (by simp; omega)
      rw [← this]; congr 1; omega

theorem Trace.len {P : Program} {h : Heap} {ss : List AStm} {t t' : List D} {r : DD} (tr : Trace P h ss t r t') : r.length = ss.length := by
  have := congrArg List.length tr.dsts
  simpa using this

/-! ### the check that is made of a region once -/
def bindsOn (o : Oper) (j : Nat) : Bool := o.after.any fun e => Region.binds .any e && e.on == j

/-- May the first k statements come in whatever order, the others behind them one by one? -/
def orderOk (ops : Array Oper) (ss : List AStm) (k : Nat) : Bool :=
  ops.size == ss.length && decide (k ≤ ss.length) &&
  (ss.take k).all AStm.quiet &&
  allApart ((ss.take k).map fun s => (s.dst, D.any)) &&
  ((List.range ss.length).all fun i => match ops[i]?, ss[i]? with
    | some o, some s =>
      (o.after.all fun e => !Region.binds .any e || decide (e.on < i)) &&
      (if i < k then s.slots.all fun x => (List.range k).all fun j => match ss[j]? with
        | some p => (match p.dst with | some y => y != x | none => true) || (decide (j < i) && bindsOn o j)
        | none => true
       else (List.range i).all fun j => bindsOn o j)
    | _, _ => false)

end Go.Ytgokcidfclghpaa
