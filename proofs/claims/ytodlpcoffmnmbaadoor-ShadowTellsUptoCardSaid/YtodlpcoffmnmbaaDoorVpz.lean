/-
  Own work. The value machine, part P, second half: every order of a region comes to what the walk comes to.
-/
import Derived.Test.YtodlpcoffmnmbaaDoorVp
namespace Go.YtodlpcoffmnmbaaDoor
open Go
set_option linter.unusedVariables false
set_option linter.unusedSimpArgs false

theorem getD_set_ne' {listed : Array Bool} {i j : Nat} (h : i ≠ j) : (listed.setIfInBounds i true).getD j false = listed.getD j false := by
  simp only [Array.getD_eq_getD_getElem?]
  rw [Array.getElem?_setIfInBounds_ne h]

theorem guard_cases {t : List D} {g : Option (Nat × Bool)} {y n : Prop} (hy : guardK t g y n) : ∃ b : Bool, (b = true → y) ∧ (b = false → n) ∧ (∀ {y' n' : Prop}, (b = true → y') → (b = false → n') → guardK t g y' n') ∧ (∀ {y' n' : Prop}, guardK t g y' n' → (b = true → y') ∧ (b = false → n')) := by
  cases g with
  | none => exact ⟨true, fun _ => hy, by simp, fun h1 _ => h1 rfl, fun h => ⟨fun _ => h, by simp⟩⟩
  | some p =>
    obtain ⟨s, v⟩ := p
    simp only [guardK] at hy ⊢
    generalize t.getD s .any = q at hy ⊢
    cases q with
    | bool c =>
      by_cases hc : c = v
      · exact ⟨true, fun _ => hy.1 hc, by simp, fun h1 _ => ⟨fun _ => h1 rfl, fun h2 => absurd hc h2⟩, fun h => ⟨fun _ => h.1 hc, by simp⟩⟩
      · exact ⟨false, by simp, fun _ => hy.2 hc, fun _ h1 => ⟨fun h2 => absurd h2 hc, fun _ => h1 rfl⟩, fun h => ⟨by simp, fun _ => h.2 hc⟩⟩
    | tup l => cases l with
      | nil => exact ⟨false, by simp, fun _ => hy, fun _ h1 => h1 rfl, fun h => ⟨by simp, fun _ => h⟩⟩
      | cons x l => exact hy.elim
    | _ => exact hy.elim

/-- What the walk of the heads has given. -/
structure Facts (P : Program) (ss : List AStm) (cl : List Nat) (y : Lay) (t0 : List D) (h : Heap) (d : Nat → D) (G : Nat → Heap) : Prop where
  ea : ∀ i ∈ y.EA, SYq P (!y.AL.isEmpty) (stA ss i) (ap ss d (pa y.co i) t0) h (d i)
  al : ∀ A i B, y.AL = A ++ i :: B → d i = .ref (h.length + A.length) 0
  g0 : G 0 = h ++ y.AL.map fun i => .box (zeroA ss i)
  mi : ∀ i ∈ y.MI, SYq P false (stA ss i) (ap ss d (pa y.co i) t0) (G 0) (d i)
  late : ∀ i ∈ y.LA, isS ss i = false → SYq P false (stA ss i) (ap ss d (pa y.co i) t0) (G (cntS ss (pa y.co i))) (d i)
  st : ∀ i ∈ y.LA, isS ss i = true →
    SStep P (stA ss i) (ap ss d (pa y.co i) t0) (G (cntS ss (pa y.co i))) (d i) (G (cntS ss (pa y.co i) + 1)) ∧
    ∀ q ∈ pa y.co i, isQ ss q = true → ∀ x g o, stA ss q = .op (some x) g o → o.isPure = false → bef cl i q = false →
      guardK (setD (ap ss d (pa y.co i) t0) (stA ss i).dst (d i)) g (holds (aop o (setD (ap ss d (pa y.co i) t0) (stA ss i).dst (d i)) (G (cntS ss (pa y.co i) + 1))) fun p => p.1 = (setD (ap ss d (pa y.co i) t0) (stA ss i).dst (d i)).getD x .any) True

theorem split_of_mem {l : List Nat} {i : Nat} (h : i ∈ l) : ∃ A B, l = A ++ i :: B := List.append_of_mem h

section
variable {P : Program} {ops : Array Oper} {ss : List AStm} {cl : List Nat} {k : Nat} {y : Lay} {ro : Option Nat} {B : Nat}

theorem nodup_split {l A B : List Nat} {i : Nat} (hn : l.Nodup) (e : l = A ++ i :: B) : i ∉ A ∧ i ∉ B := by
  subst e
  rw [List.nodup_append] at hn
  refine ⟨fun hm => hn.2.2 i hm i (by simp) rfl, fun hm => ?_⟩
  have := (List.nodup_cons.1 hn.2.1).1
  exact this hm

theorem facts_of (hp : Plan0 ops ss cl k y) {t0 : List D} {h : Heap} {K : St → Prop} (hw : aheads P (y.heads ss cl) ⟨t0, h⟩ K) :
    ∃ (d : Nat → D) (G : Nat → Heap), Facts P ss cl y t0 h d G ∧ K ⟨ap ss d y.co t0, G (cntS ss y.co)⟩ := by
  have hn : y.co.Nodup := by simpa using inOrder_nodup hp.order (by simp)
  have hn' : (y.EA ++ (y.AL ++ (y.MI ++ y.LA))).Nodup := by simpa [Lay.co] using hn
  have kq : ∀ i, isQ ss i = true → (stA ss i).kind = 0 := fun i h => by simpa [isQ] using h
  have n1 : ([] ++ y.EA).Nodup := by simpa using (List.nodup_append.1 hn').1
  have n2 : (y.EA ++ y.AL).Nodup := by
    have : (y.EA ++ y.AL ++ (y.MI ++ y.LA)).Nodup := by simpa using hn'
    exact (List.nodup_append.1 this).1
  have n3 : (y.EA ++ y.AL ++ y.MI).Nodup := by
    have : (y.EA ++ y.AL ++ y.MI ++ y.LA).Nodup := by simpa using hn'
    exact (List.nodup_append.1 this).1
  have n4 : (y.EA ++ y.AL ++ y.MI ++ y.LA).Nodup := by simpa using hn'
  obtain ⟨d1, a1, a2, a3⟩ := walk_quiet (ss := ss) (t0 := t0) y.EA [] (fun _ => .any) (fun i hi => kq i (hp.ea i hi)) n1 (by simpa [Lay.heads, ap] using hw)
  obtain ⟨d2, b1, b2, b3⟩ := walk_alloc y.AL y.EA h d1 (fun i hi => by simpa [isA] using hp.al i hi) n2 (by simpa using a3)
  have hm : (y.MI.map (stA ss)) = y.MI.map fun i => hq false (stA ss i) := List.map_congr_left fun i _ => by cases stA ss i <;> rfl
  rw [hm] at b3
  obtain ⟨d3, c1, c2, c3⟩ := walk_quiet y.MI (y.EA ++ y.AL) d2 (fun i hi => kq i (hp.mi i hi).1) n3 b3
  obtain ⟨d4, G, e0, e1, e2, e3, e4⟩ := walk_late (R := []) y.LA (y.EA ++ y.AL ++ y.MI) _ d3 (fun i hi => by
    rcases (hp.la i hi).2 with a | a
    · exact .inr (by simpa [isS] using a)
    · exact .inl ⟨kq i a.1, a.2⟩) n4 (by simpa using c3)
  have cz : cntS ss (y.EA ++ y.AL ++ y.MI) = 0 := by
    unfold cntS
    rw [List.length_eq_zero_iff, List.filter_eq_nil_iff]
    intro i hi
    simp only [List.mem_append] at hi
    have notS : ∀ j, (stA ss j).kind = 0 ∨ (stA ss j).kind = 1 → ¬ isS ss j = true := by
      intro j hj; simp only [isS, beq_iff_eq]; omega
    rcases hi with (hi | hi) | hi
    · exact notS i (.inl (kq i (hp.ea i hi)))
    · exact notS i (.inr (by simpa [isA] using hp.al i hi))
    · exact notS i (.inl (kq i (hp.mi i hi).1))
  rw [cz] at e0
  have d41 : ∀ i ∈ y.EA, d4 i = d1 i := fun i hi => by rw [e1 i (by simp [hi]), c1 i (by simp [hi]), b1 i hi]
  have d42 : ∀ i ∈ y.EA ++ y.AL, d4 i = d2 i := fun i hi => by
    rw [e1 i (by simp only [List.mem_append] at hi ⊢; exact .inl hi), c1 i hi]
  have d43 : ∀ i ∈ y.EA ++ y.AL ++ y.MI, d4 i = d3 i := fun i hi => e1 i hi
  have co1 : y.co = y.EA ++ y.AL ++ y.MI ++ y.LA := rfl
  refine ⟨d4, G, ⟨?_, ?_, e0, ?_, ?_, ?_⟩, by rw [co1]; simpa [aheads] using e4⟩
  · intro i hi
    obtain ⟨A, B, e⟩ := split_of_mem hi
    have hpa : pa y.co i = A := pa_eq (B := B ++ y.AL ++ y.MI ++ y.LA) (by rw [co1, e]; simp) (nodup_split (by simpa using n1) e).1
    have := a2 A i B e
    rw [hpa, d41 i hi, ap_congr (d := d4) (d' := d1) (fun j hj => d41 j (by rw [e]; simp [hj]))]
    simpa using this
  · intro A i B e
    rw [d42 i (by rw [e]; simp)]
    exact b2 A i B e
  · intro i hi
    obtain ⟨A, B, e⟩ := split_of_mem hi
    have hpa : pa y.co i = y.EA ++ y.AL ++ A := pa_eq (B := B ++ y.LA) (by rw [co1, e]; simp) (nodup_split (A := y.EA ++ y.AL ++ A) (B := B) n3 (by rw [e]; simp)).1
    have := c2 A i B e
    rw [hpa, d43 i (by simp [hi]), ap_congr (d := d4) (d' := d3) (fun j hj => d43 j (by rw [e]; simp only [List.mem_append] at hj ⊢; rcases hj with hj | hj; exact .inl hj; exact .inr (.inl hj))), e0]
    exact this
  · intro i hi hS
    obtain ⟨A, B, e⟩ := split_of_mem hi
    have hpa : pa y.co i = y.EA ++ y.AL ++ y.MI ++ A := pa_eq (B := B) (by rw [co1, e]; simp) (nodup_split (A := y.EA ++ y.AL ++ y.MI ++ A) (B := B) n4 (by rw [e]; simp)).1
    rw [hpa]
    exact e2 A i B e hS
  · intro i hi hS
    obtain ⟨A, B, e⟩ := split_of_mem hi
    have hpa : pa y.co i = y.EA ++ y.AL ++ y.MI ++ A := pa_eq (B := B) (by rw [co1, e]; simp) (nodup_split (A := y.EA ++ y.AL ++ y.MI ++ A) (B := B) n4 (by rw [e]; simp)).1
    rw [hpa]
    exact e3 A i B e hS

/-! ### the state when some are done -/
def tS (ss : List AStm) (y : Lay) (d : Nat → D) (t0 : List D) (e : Nat → Bool) : List D := ap ss d (y.co.filter e) t0
def cS (ss : List AStm) (y : Lay) (e : Nat → Bool) : Nat := cntS ss (y.co.filter e)
def hS (ss : List AStm) (y : Lay) (h : Heap) (G : Nat → Heap) (e : Nat → Bool) : Heap :=
  if cS ss y e = 0 then h ++ y.AL.map fun a => if e a then .box (zeroA ss a) else .free else G (cS ss y e)
def addE (e : Nat → Bool) (i : Nat) : Nat → Bool := fun j => j == i || e j

theorem filter_add {l A B : List Nat} {i : Nat} {e : Nat → Bool} (hl : l = A ++ i :: B) (hA : i ∉ A) (hB : i ∉ B) (hi : e i = false) :
    l.filter (addE e i) = A.filter e ++ i :: B.filter e ∧ l.filter e = A.filter e ++ B.filter e := by
  subst hl
  have h1 : ∀ M : List Nat, i ∉ M → M.filter (addE e i) = M.filter e := by
    intro M hM
    apply List.filter_congr
    intro j hj
    have : ¬ j = i := fun e => hM (e ▸ hj)
    simp [addE, this]
  constructor
  · rw [List.filter_append, h1 A hA, List.filter_cons, h1 B hB]
    simp [addE]
  · rw [List.filter_append, List.filter_cons]
    simp [hi]

structure Ready (cl : List Nat) (e : Nat → Bool) (i : Nat) : Prop where
  off : e i = false
  closed : ∀ a b, e a = true → bef cl a b = true → e b = true
  pre : ∀ j, bef cl i j = true → e j = true

theorem tS_add (hp : Plan0 ops ss cl k y) {e : Nat → Bool} {i : Nat} (hi : i < k) (hm : i ∈ y.co) (hoff : e i = false) {d : Nat → D} {t0 : List D} : tS ss y d t0 (addE e i) = setD (tS ss y d t0 e) (stA ss i).dst (d i) := by
  have hn : y.co.Nodup := by simpa using inOrder_nodup hp.order (by simp)
  obtain ⟨A, B, e1⟩ := split_of_mem hm
  obtain ⟨hA, hB⟩ := nodup_split hn e1
  obtain ⟨g1, g2⟩ := filter_add e1 hA hB hoff
  unfold tS
  rw [g1, g2, ap_app, ap_app]
  have : ap ss d (i :: B.filter e) (ap ss d (A.filter e) t0) = ap ss d (B.filter e) (setD (ap ss d (A.filter e) t0) (stA ss i).dst (d i)) := rfl
  rw [this, ap_setD]
  intro j hj
  have hjB := (List.mem_filter.1 hj).1
  exact hp.apart j i (hp.low j (by rw [e1]; simp [hjB])) hi (fun e => hB (e ▸ hjB))

theorem cS_add (hp : Plan0 ops ss cl k y) {e : Nat → Bool} {i : Nat} (hi : i < k) (hm : i ∈ y.co) (hoff : e i = false) : cS ss y (addE e i) = cS ss y e + if isS ss i then 1 else 0 := by
  have hn : y.co.Nodup := by simpa using inOrder_nodup hp.order (by simp)
  obtain ⟨A, B, e1⟩ := split_of_mem hm
  obtain ⟨hA, hB⟩ := nodup_split hn e1
  obtain ⟨g1, g2⟩ := filter_add e1 hA hB hoff
  unfold cS cntS
  rw [g1, g2, List.filter_append, List.filter_append, List.filter_cons]
  split <;> simp <;> omega

/-- Its places hold what they held in the walk. -/
theorem agree (hp : Plan0 ops ss cl k y) {e : Nat → Bool} {i : Nat} (hi : i < k) (hm : i ∈ y.co) (hdep : ∀ j, j < k → bef cl i j = true → j ∈ y.co) (hr : Ready cl e i) {d : Nat → D} {t0 : List D} : ∀ x ∈ (stA ss i).slots, (ap ss d (pa y.co i) t0).getD x .any = (tS ss y d t0 e).getD x .any := by
  have hn : y.co.Nodup := by simpa using inOrder_nodup hp.order (by simp)
  obtain ⟨A, B, e1⟩ := split_of_mem hm
  obtain ⟨hA, hB⟩ := nodup_split hn e1
  rw [pa_eq e1 hA]
  obtain ⟨ho, _⟩ := inOrder_at (i := i) hp.order e1
  simp only [List.nil_append] at ho
  intro x hx
  unfold tS
  simp only [List.getD_eq_getElem?_getD]
  congr 1
  have lowA : ∀ j ∈ A, j < k := fun j hj => hp.low j (by rw [e1]; simp [hj])
  have lowF : ∀ j ∈ y.co.filter e, j < k := fun j hj => hp.low j (List.mem_filter.1 hj).1
  by_cases hex : ∃ j, j < k ∧ (stA ss j).dst = some x
  · obtain ⟨j, hj, hd⟩ := hex
    have uniq : ∀ q, q < k → q ≠ j → apart (stA ss q).dst (some x) = true := by
      intro q hq hne
      have := hp.apart q j hq hj hne
      rwa [hd] at this
    have none2 : j ∉ A → e j = false → (ap ss d A t0)[x]? = (ap ss d (y.co.filter e) t0)[x]? := by
      intro h1 h2
      rw [ap_none (fun q hq => uniq q (lowA q hq) (fun e => h1 (e ▸ hq))), ap_none (fun q hq => uniq q (lowF q hq) (fun e' => by
        have := (List.mem_filter.1 hq).2
        rw [e', h2] at this; cases this))]
    rcases hp.slots i hi x hx j hj hd with hb | hb | hb
    · have m1 : j ∈ A := (ho j hj).1 hb
      have m2 : j ∈ y.co.filter e := List.mem_filter.2 ⟨hdep j hj hb, hr.pre j hb⟩
      by_cases hlt : x < t0.length
      · rw [ap_some (fun q hq hne => uniq q (lowA q hq) hne) m1 hd hlt, ap_some (fun q hq hne => uniq q (lowF q hq) hne) m2 hd hlt]
      · rw [List.getElem?_eq_none (by rw [ap_len]; omega), List.getElem?_eq_none (by rw [ap_len]; omega)]
    · refine none2 (fun hm => ?_) ?_
      · have := (ho j hj).2 hm
        rw [hb] at this; cases this
      · cases hej : e j with
        | false => rfl
        | true =>
          have := hr.closed j i hej hb
          rw [hr.off] at this; cases this
    · subst hb
      exact none2 hA hr.off
  · have uniq : ∀ q, q < k → apart (stA ss q).dst (some x) = true := fun q hq => apart_ne.2 fun hd => hex ⟨q, hq, hd⟩
    rw [ap_none (fun q hq => uniq q (lowA q hq)), ap_none (fun q hq => uniq q (lowF q hq))]

/-- The last store that is done. -/
theorem last_store (hp : Plan0 ops ss cl k y) {e : Nat → Bool} (hc : ∀ a b, e a = true → bef cl a b = true → e b = true) (h0 : ¬ cS ss y e = 0) :
    ∃ s ∈ y.co, isS ss s = true ∧ e s = true ∧ cntS ss (pa y.co s) + 1 = cS ss y e ∧ s ∈ y.LA := by
  have hn : y.co.Nodup := by simpa using inOrder_nodup hp.order (by simp)
  have hstores : ∀ s ∈ y.co, isS ss s = true → s ∈ y.LA ∧ ∀ A B, y.co = A ++ s :: B → ∀ s' ∈ A, isS ss s' = true → bef cl s s' = true := by
    intro s hs hS
    have hmem : s ∈ y.LA := by
      have hkind : (stA ss s).kind = 2 := by simpa [isS] using hS
      simp only [Lay.co, List.mem_append] at hs
      rcases hs with ((hs | hs) | hs) | hs
      · have := hp.ea s hs; simp [isQ, hkind] at this
      · have := hp.al s hs; simp [isA, hkind] at this
      · have := (hp.mi s hs).1; simp [isQ, hkind] at this
      · exact hs
    refine ⟨hmem, fun A B e1 s' hs' hS' => ?_⟩
    obtain ⟨A', B', e2⟩ := split_of_mem hmem
    obtain ⟨g1, _⟩ := chkSlots_at hp.late e2
    have e3 : y.co = (y.EA ++ y.AL ++ y.MI ++ A') ++ s :: B' := by rw [Lay.co, e2]; simp
    have : A = y.EA ++ y.AL ++ y.MI ++ A' := by rw [← pa_eq e1 (nodup_split hn e1).1, ← pa_eq e3 (nodup_split hn e3).1]
    rw [this] at hs'
    exact g1 s' hs' hS'
  -- the last of the stores done
  have hne : (y.co.filter e).filter (isS ss) ≠ [] := fun h => h0 (by simp [cS, cntS, h])
  have hl := List.dropLast_concat_getLast hne
  generalize hs : ((y.co.filter e).filter (isS ss)).getLast hne = s at hl
  have hsm : s ∈ (y.co.filter e).filter (isS ss) := by rw [← hl]; simp
  obtain ⟨h1, h2⟩ := List.mem_filter.1 hsm
  obtain ⟨h3, h4⟩ := List.mem_filter.1 h1
  refine ⟨s, h3, h2, h4, ?_, (hstores s h3 h2).1⟩
  obtain ⟨A, B, e1⟩ := split_of_mem h3
  obtain ⟨hA, hB⟩ := nodup_split hn e1
  rw [pa_eq e1 hA]
  have hfA : (A.filter e).filter (isS ss) = A.filter (isS ss) := by
    rw [List.filter_filter]
    apply List.filter_congr
    intro j hj
    cases hSj : isS ss j with
    | false => rfl
    | true => rw [hc s j h4 ((hstores s h3 h2).2 A B e1 j hj hSj)]; rfl
  have hfB : (B.filter e).filter (isS ss) = [] := by
    have hd : (y.co.filter e).filter (isS ss) = A.filter (isS ss) ++ s :: (B.filter e).filter (isS ss) := by
      rw [e1, List.filter_append, List.filter_cons, if_pos h4, List.filter_append, List.filter_cons, if_pos h2, hfA]
    rw [← hl] at hd
    -- s stands once alone
    have hnd : ((y.co.filter e).filter (isS ss)).Nodup := (hn.filter _).filter _
    rw [← hl] at hnd
    have hs1 : s ∉ A.filter (isS ss) := fun hm => hA (List.mem_filter.1 hm).1
    have hs2 : s ∉ ((y.co.filter e).filter (isS ss)).dropLast := by
      rw [List.nodup_append] at hnd
      intro hm
      exact hnd.2.2 s hm s (by simp) rfl
    have key : ∀ (X Y Z : List Nat), X ++ [s] = Y ++ s :: Z → s ∉ X → s ∉ Y → Z = [] := by
      intro X
      induction X with
      | nil =>
        intro Y Z he _ hY
        cases Y with
        | nil => simpa using he
        | cons q Y => simp only [List.nil_append, List.cons_append, List.cons.injEq] at he; exact absurd (by simp [he.1]) hY
      | cons q X ih =>
        intro Y Z he hX hY
        cases Y with
        | nil => simp only [List.nil_append, List.cons_append, List.cons.injEq] at he; exact absurd (by simp [he.1]) hX
        | cons r Y =>
          simp only [List.cons_append, List.cons.injEq] at he
          exact ih Y Z he.2 (fun h => hX (by simp [h])) (fun h => hY (by simp [h]))
    exact key _ _ _ hd hs2 hs1
  unfold cS cntS
  rw [e1, List.filter_append, List.filter_cons, if_pos h4, List.filter_append, List.filter_cons, if_pos h2, hfA, hfB]
  simp

/-- All allocations done: the blocks are as in the walk. -/
theorem hS_done {t0 : List D} {h : Heap} {d : Nat → D} {G : Nat → Heap} (hf : Facts P ss cl y t0 h d G) {e : Nat → Bool} (ha : ∀ a ∈ y.AL, e a = true) : hS ss y h G e = G (cS ss y e) := by
  unfold hS
  split
  · rename_i h0
    rw [h0, hf.g0]
    congr 1
    exact List.map_congr_left fun a h1 => by rw [ha a h1]; rfl
  · rfl

/-- ONE QUIET STATEMENT, whenever it comes. -/
theorem step_quiet (hp : Plan0 ops ss cl k y) {t0 : List D} {h : Heap} {d : Nat → D} {G : Nat → Heap} (hf : Facts P ss cl y t0 h d G) {e : Nat → Bool} {i : Nat} (hi : i < k) (hco : i ∈ y.co) (hdep : ∀ j, j < k → bef cl i j = true → j ∈ y.co) (hr : Ready cl e i) (hq : isQ ss i = true) :
    ∃ d', SY P (stA ss i) (tS ss y d t0 e) (hS ss y h G e) d' ∧ setD (tS ss y d t0 e) (stA ss i).dst d' = setD (tS ss y d t0 e) (stA ss i).dst (d i) := by
  have hn : y.co.Nodup := by simpa using inOrder_nodup hp.order (by simp)
  have hk0 : (stA ss i).kind = 0 := by simpa [isQ] using hq
  obtain ⟨A, B, e1⟩ := split_of_mem hco
  obtain ⟨hA, hB⟩ := nodup_split hn e1
  have hpa := pa_eq e1 hA
  have hag := agree hp hi hco hdep hr (d := d) (t0 := t0)
  have noS : isS ss i = false := by simp [isS, hk0]
  -- what was told of it in the walk, at some blocks
  have told : ∃ H all, SYq P all (stA ss i) (ap ss d (pa y.co i) t0) H (d i) ∧ ((i ∈ y.EA ∧ H = h ∧ all = !y.AL.isEmpty) ∨ ((∀ a ∈ y.AL, e a = true) ∧ H = G (cntS ss (pa y.co i)) ∧ all = false ∧ (stA ss i).isCall = false ∧ ∀ s ∈ pa y.co i, isS ss s = true → e s = true)) := by
    have hc2 := hco
    simp only [Lay.co, List.mem_append] at hc2
    rcases hc2 with ((hm | hm) | hm) | hm
    · exact ⟨h, _, hf.ea i hm, .inl ⟨hm, rfl, rfl⟩⟩
    · have := hp.al i hm; simp [isA, hk0] at this
    · have hz : cntS ss (pa y.co i) = 0 := by
        obtain ⟨A', B', e2⟩ := split_of_mem hm
        have e3 : y.co = (y.EA ++ y.AL ++ A') ++ i :: (B' ++ y.LA) := by rw [Lay.co, e2]; simp
        rw [pa_eq e3 (nodup_split hn e3).1]
        unfold cntS
        rw [List.length_eq_zero_iff, List.filter_eq_nil_iff]
        intro j hj
        simp only [List.mem_append] at hj
        have notS : ∀ j, (stA ss j).kind = 0 ∨ (stA ss j).kind = 1 → ¬ isS ss j = true := by
          intro j hj; simp only [isS, beq_iff_eq]; omega
        rcases hj with (hj | hj) | hj
        · exact notS j (.inl (by simpa [isQ] using hp.ea j hj))
        · exact notS j (.inr (by simpa [isA] using hp.al j hj))
        · exact notS j (.inl (by simpa [isQ] using (hp.mi j (by rw [e2]; simp [hj])).1))
      refine ⟨_, _, hf.mi i hm, .inr ⟨fun a ha => hr.pre a ((hp.mi i hm).2.2 a ha), by rw [hz], rfl, (hp.mi i hm).2.1, fun s hs hS => ?_⟩⟩
      have : s ∈ (pa y.co i).filter (isS ss) := List.mem_filter.2 ⟨hs, hS⟩
      unfold cntS at hz
      rw [List.length_eq_zero_iff.1 hz] at this
      cases this
    · obtain ⟨A', B', e2⟩ := split_of_mem hm
      obtain ⟨g1, _⟩ := chkSlots_at hp.late e2
      have e3 : y.co = (y.EA ++ y.AL ++ y.MI ++ A') ++ i :: B' := by rw [Lay.co, e2]; simp
      have hpa2 := pa_eq e3 (nodup_split hn e3).1
      have hnc : (stA ss i).isCall = false := by
        rcases (hp.la i hm).2 with a | a
        · rw [noS] at a; cases a
        · exact a.2
      exact ⟨_, _, hf.late i hm noS, .inr ⟨fun a ha => hr.pre a ((hp.la i hm).1 a ha), rfl, rfl, hnc, fun s hs hS => hr.pre s (g1 s (by rw [← hpa2]; exact hs) hS)⟩⟩
  obtain ⟨H, all, hsy, hcase⟩ := told
  by_cases h0 : cS ss y e = 0
  · -- no store is done
    refine ⟨d i, ?_, rfl⟩
    rcases hcase with ⟨_, rfl, rfl⟩ | ⟨hal, rfl, rfl, _, hst⟩
    · have : hS ss y H G e = H ++ y.AL.map fun a => if e a then .box (zeroA ss a) else .free := by unfold hS; rw [if_pos h0]
      rw [this]
      refine (hsy.sy _ hk0 ?_).congr hag
      cases hAL : y.AL with
      | nil => right; rfl
      | cons a l => left; rfl
    · rw [hS_done hf hal, h0]
      have hz : cntS ss (pa y.co i) = 0 := by
        unfold cntS
        rw [List.length_eq_zero_iff, List.filter_eq_nil_iff]
        intro s hs hS
        have : s ∈ (y.co.filter e).filter (isS ss) := List.mem_filter.2 ⟨List.mem_filter.2 ⟨by rw [e1]; rw [hpa] at hs; simp [hs], hst s hs hS⟩, hS⟩
        unfold cS cntS at h0
        rw [List.length_eq_zero_iff.1 h0] at this
        cases this
      rw [hz] at hsy
      have := hsy.sy [] hk0 (.inr rfl)
      rw [List.append_nil] at this
      exact this.congr hag
  · obtain ⟨s, hs, hsS, hse, hcnt, hsLA⟩ := last_store hp hr.closed h0
    have hsal : ∀ a ∈ y.AL, e a = true := fun a ha => hr.closed s a hse ((hp.la s hsLA).1 a ha)
    rw [hS_done hf hsal]
    obtain ⟨As, Bs, e4⟩ := split_of_mem hs
    obtain ⟨hAs, hBs⟩ := nodup_split hn e4
    have hpas := pa_eq e4 hAs
    by_cases hin : i ∈ pa y.co s
    · -- it may come behind that store, ahead of which it stands
      have hnb : bef cl s i = false := by
        cases hb : bef cl s i with
        | false => rfl
        | true => have := hr.closed s i hse hb; rw [hr.off] at this; cases this
      obtain ⟨A', B', e2⟩ := split_of_mem hsLA
      have e3 : y.co = (y.EA ++ y.AL ++ y.MI ++ A') ++ s :: B' := by rw [Lay.co, e2]; simp
      have hpa2 := pa_eq e3 (nodup_split hn e3).1
      obtain ⟨_, g2⟩ := chkSlots_at hp.late e2
      obtain ⟨dst, g, o, hso, ho⟩ := g2 hsS i (by rw [← hpa2]; exact hin) hq hnb
      have hsy' : SY P (stA ss i) (ap ss d (pa y.co i) t0) H (d i) := by
        have := hsy
        rw [hso] at this ⊢
        exact this
      have hqt : o.quiet = true := by rw [hso] at hk0; exact kind_op hk0
      by_cases hpu : o.isPure = true
      · refine ⟨d i, ?_, rfl⟩
        refine SY.congr hag ?_
        rw [hso] at hsy' ⊢
        exact guardK_congr (fun _ _ _ => rfl) (fun ⟨q, h', ha⟩ => ⟨q, aop_pure hpu ha _⟩) id hsy'
      · have hpf : o.isPure = false := by simpa using hpu
        rcases ho with ho | ⟨⟨x, rfl⟩, hsl⟩
        · exact absurd ho hpu
        obtain ⟨_, hck⟩ := hf.st s hsLA hsS
        have hck := hck i hin hq x g o hso hpf hnb
        rw [hcnt] at hck
        have hdx : (stA ss i).dst = some x := by rw [hso]; rfl
        generalize hsd : (stA ss s).dst = sdst at hck
        have hkeep : ∀ z : Nat, YtodlpcoffmnmbaaDoor.apart sdst (some z) = true → (setD (ap ss d (pa y.co s) t0) sdst (d s)).getD z .any = (ap ss d (pa y.co s) t0).getD z .any := by
          intro z hz
          cases sdst with
          | none => rfl
          | some q =>
            have : q ≠ z := by simpa [YtodlpcoffmnmbaaDoor.apart] using hz
            simp only [setD, List.getD_eq_getElem?_getD]
            rw [List.getElem?_set_ne this]
        have hsnei : s ≠ i := by
          rintro rfl
          rw [noS] at hsS; cases hsS
        have hkx : (setD (ap ss d (pa y.co s) t0) sdst (d s)).getD x .any = (ap ss d (pa y.co s) t0).getD x .any := hkeep x (by
          have := hp.apart s i (hp.low s hs) hi hsnei
          rwa [hsd, hdx] at this)
        have hkz : ∀ z ∈ (stA ss i).slots, (setD (ap ss d (pa y.co s) t0) sdst (d s)).getD z .any = (ap ss d (pa y.co s) t0).getD z .any := fun z hz => hkeep z (by
          have := (hsl z hz).1
          rwa [hsd] at this)
        -- the places at the store
        have hags : ∀ z ∈ (stA ss i).slots, (ap ss d (pa y.co s) t0).getD z .any = (ap ss d (pa y.co i) t0).getD z .any := by
          intro z hz
          simp only [List.getD_eq_getElem?_getD]
          congr 1
          obtain ⟨C, D', e5⟩ := split_of_mem hin
          have e6 : y.co = C ++ i :: (D' ++ s :: Bs) := by
            have := e4
            rw [← hpas, e5] at this
            rw [this]; simp
          have hC : pa y.co i = C := pa_eq e6 (nodup_split hn e6).1
          obtain ⟨hoi, _⟩ := inOrder_at (i := i) hp.order e6
          simp only [List.nil_append] at hoi
          have lows : ∀ j ∈ pa y.co s, j < k := fun j hj => hp.low j (by rw [e4]; rw [hpas] at hj; simp [hj])
          have lowC : ∀ j ∈ pa y.co i, j < k := fun j hj => hp.low j (by rw [e6]; rw [hC] at hj; simp [hj])
          by_cases hex : ∃ j, j < k ∧ (stA ss j).dst = some z
          · obtain ⟨j, hj, hd⟩ := hex
            have uniq : ∀ q, q < k → q ≠ j → apart (stA ss q).dst (some z) = true := by
              intro q hq hne
              have := hp.apart q j hq hj hne
              rwa [hd] at this
            by_cases hjs : j ∈ pa y.co s
            · have hb := (hsl z hz).2 j (by rw [← hpa2]; exact hjs) hd
              have hjC : j ∈ pa y.co i := by rw [hC]; exact (hoi j hj).1 hb
              by_cases hlt : z < t0.length
              · rw [ap_some (fun q hq hne => uniq q (lows q hq) hne) hjs hd hlt, ap_some (fun q hq hne => uniq q (lowC q hq) hne) hjC hd hlt]
              · rw [List.getElem?_eq_none (by rw [ap_len]; omega), List.getElem?_eq_none (by rw [ap_len]; omega)]
            · have hjC : j ∉ pa y.co i := fun hm => hjs (by rw [e5]; rw [hC] at hm; simp [hm])
              rw [ap_none (fun q hq => uniq q (lows q hq) (fun e => hjs (e ▸ hq))), ap_none (fun q hq => uniq q (lowC q hq) (fun e => hjC (e ▸ hq)))]
          · have uniq : ∀ q, q < k → apart (stA ss q).dst (some z) = true := fun q hq => apart_ne.2 fun hd => hex ⟨q, hq, hd⟩
            rw [ap_none (fun q hq => uniq q (lows q hq)), ap_none (fun q hq => uniq q (lowC q hq))]
        have hagt : ∀ z ∈ (stA ss i).slots, (setD (ap ss d (pa y.co s) t0) sdst (d s)).getD z .any = (tS ss y d t0 e).getD z .any := fun z hz => (hkz z hz).trans ((hags z hz).trans (hag z hz))
        rw [hkx] at hck
        have hsyt := hsy'.congr hag
        rw [hso] at hsyt
        have hck2 : guardK (tS ss y d t0 e) g (holds (aop o (tS ss y d t0 e) (G (cS ss y e))) fun p => p.1 = (ap ss d (pa y.co s) t0).getD x .any) True := by
          refine guardK_congr (fun q b eq => hagt q (by rw [hso]; subst eq; simp [AStm.slots])) (fun hh => ?_) id hck
          have : aop o (setD (ap ss d (pa y.co s) t0) sdst (d s)) (G (cS ss y e)) = aop o (tS ss y d t0 e) (G (cS ss y e)) :=
            aop_congr fun z hz => ev_congr fun q hq => hagt q (by rw [hso]; simp only [AStm.slots, List.mem_append, List.mem_flatMap]; exact .inr ⟨z, hz, hq⟩)
          rwa [this] at hh
        obtain ⟨b, b1, b2, b3, b4⟩ := guard_cases hsyt
        obtain ⟨c1, c2⟩ := b4 hck2
        by_cases hlt : x < t0.length
        · -- the answer lies there
          have hval : (ap ss d (pa y.co s) t0).getD x .any = d i := by
            have : (ap ss d (pa y.co s) t0)[x]? = some (d i) := by
              refine ap_some (fun q hq hne => ?_) hin hdx hlt
              have := hp.apart q i (hp.low q (by rw [e4]; rw [hpas] at hq; simp [hq])) hi hne
              rwa [hdx] at this
            rw [List.getD_eq_getElem?_getD, this]; rfl
          refine ⟨d i, ?_, rfl⟩
          rw [hso]
          refine b3 (fun hb => ?_) (fun hb => b2 hb)
          obtain ⟨⟨v, h'⟩, h1, h2⟩ := c1 hb
          simp only at h2
          rw [hval] at h2
          subst h2
          exact ⟨hqt, h', h1⟩
        · have hset : ∀ v, setD (tS ss y d t0 e) (stA ss i).dst v = tS ss y d t0 e := by
            intro v
            rw [hdx]
            simp only [setD]
            rw [List.set_eq_of_length_le]
            unfold tS; rw [ap_len]; omega
          cases b with
          | true =>
            obtain ⟨⟨v, h'⟩, h1, h2⟩ := c1 rfl
            refine ⟨v, ?_, by rw [hset, hset]⟩
            rw [hso]
            exact b3 (fun _ => ⟨hqt, h', h1⟩) (fun hb => by cases hb)
          | false =>
            refine ⟨d i, ?_, rfl⟩
            rw [hso]
            exact b3 (fun hb => by cases hb) (fun _ => b2 rfl)
    · -- it stands behind that store
      have hne : i ≠ s := by
        intro e5; subst e5
        rw [noS] at hsS; cases hsS
      have hsin : s ∈ pa y.co i := by
        -- the one or the other stands first
        rw [hpa]
        have : s ∈ A ++ i :: B := by rw [← e1]; exact hs
        simp only [List.mem_append, List.mem_cons] at this
        rcases this with a | a | a
        · exact a
        · exact absurd a.symm hne
        · exfalso
          apply hin
          obtain ⟨C, D', e5⟩ := split_of_mem a
          have e6 : y.co = (A ++ i :: C) ++ s :: D' := by rw [e1, e5]; simp
          rw [pa_eq e6 (nodup_split hn e6).1]
          simp
      rcases hcase with ⟨hEA, _, _⟩ | ⟨hal, rfl, rfl, _, hst⟩
      · exfalso
        -- an early one has no store ahead
        obtain ⟨A', B', e2⟩ := split_of_mem hEA
        have e3 : y.co = A' ++ i :: (B' ++ y.AL ++ y.MI ++ y.LA) := by rw [Lay.co, e2]; simp
        rw [pa_eq e3 (nodup_split hn e3).1] at hsin
        have := hp.ea s (by rw [e2]; simp [hsin])
        simp only [isQ, beq_iff_eq] at this
        simp [isS, this] at hsS
      · have heq : cntS ss (pa y.co i) = cS ss y e := by
          have h1 : cntS ss (pa y.co i) ≤ cS ss y e := by
            unfold cS cntS
            have : (pa y.co i).filter (isS ss) = ((pa y.co i).filter e).filter (isS ss) := by
              rw [List.filter_filter]
              apply List.filter_congr
              intro j hj
              cases hSj : isS ss j with
              | false => rfl
              | true => rw [hst j hj hSj]; rfl
            rw [this, hpa]
            apply List.Sublist.length_le
            rw [e1, List.filter_append, List.filter_append]
            exact List.sublist_append_left _ _
          have h2 : cntS ss (pa y.co s) + 1 ≤ cntS ss (pa y.co i) := by
            obtain ⟨C, D', e5⟩ := split_of_mem hsin
            have e6 : y.co = C ++ s :: (D' ++ i :: B) := by
              have := e1
              rw [← hpa, e5] at this
              rw [this]; simp
            rw [pa_eq e6 (nodup_split hn e6).1, e5]
            unfold cntS
            rw [List.filter_append, List.filter_cons, if_pos hsS]
            simp
          omega
        rw [heq] at hsy
        have := hsy.sy [] hk0 (.inr rfl)
        rw [List.append_nil] at this
        exact ⟨d i, this.congr hag, rfl⟩

theorem binds_listed {o : Oper} {i j : Nat} {e : Nat → Bool} (hcl : ∀ a b, e a = true → bef cl a b = true → e b = true) (hone : bef cl i j = true → ∃ x ∈ o.after, Region.binds .any x = true ∧ (j = x.on ∨ bef cl x.on j = true))
    (hr : ∀ x ∈ o.after, Region.binds .any x = true → e x.on = true) (hb : bef cl i j = true) : e j = true := by
  obtain ⟨x, h1, h2, h3⟩ := hone hb
  rcases h3 with rfl | h3
  · exact hr x h1 h2
  · exact hcl _ _ (hr x h1 h2) h3

theorem hS_alloc (hp : Plan0 ops ss cl k y) {h : Heap} {G : Nat → Heap} {e : Nat → Bool} {A B : List Nat} {i : Nat} (hi : i < k) (hA : y.AL = A ++ i :: B) (hoff : e i = false) (h0 : cS ss y e = 0) :
    (hS ss y h G e)[h.length + A.length]? = some .free ∧ hS ss y h G (addE e i) = (hS ss y h G e).set (h.length + A.length) (.box (zeroA ss i)) := by
  have hn : y.co.Nodup := by simpa using inOrder_nodup hp.order (by simp)
  have hnA : y.AL.Nodup := by
    have : (y.EA ++ (y.AL ++ (y.MI ++ y.LA))).Nodup := by simpa [Lay.co] using hn
    exact (List.nodup_append.1 (List.nodup_append.1 this).2.1).1
  obtain ⟨n1, n2⟩ := nodup_split hnA hA
  have hkA : isS ss i = false := by
    have := hp.al i (by rw [hA]; simp)
    simp only [isA, beq_iff_eq] at this
    simp [isS, this]
  have h0' : cS ss y (addE e i) = 0 := by rw [cS_add hp hi (by simp [Lay.co, hA]) hoff, hkA, h0]; rfl
  unfold hS
  rw [if_pos h0, if_pos h0', hA]
  have hl : ∀ M : List Nat, i ∉ M → (M.map fun a => if addE e i a then Blk.box (zeroA ss a) else .free) = M.map fun a => if e a then Blk.box (zeroA ss a) else .free := by
    intro M hM
    apply List.map_congr_left
    intro a ha
    have : ¬ a = i := fun e => hM (e ▸ ha)
    simp [addE, this]
  constructor
  · rw [List.getElem?_append_right (by omega)]
    simp [hoff]
  · rw [List.set_append_right _ _ (by omega), List.map_append, List.map_append, List.map_cons, List.map_cons, hl A n1, hl B n2]
    congr 1
    rw [Nat.add_sub_cancel_left, List.set_append_right _ _ (by simp)]
    simp [addE]

theorem draw_sound (hc : csts P ops ops.toList = some ss) (hsz0 : ops.size = ss.length) (hp : Plan ops ss (clos ops.toList) k y) (hk : k ≤ ss.length) {t0 : List D} {h : Heap} {d : Nat → D} {G : Nat → Heap} (hf : Facts P ss (clos ops.toList) y t0 h d G) {Q : Exit → St → Prop}
    (hK : aregs P (ss.drop k) ⟨ap ss d y.co t0, G (cntS ss y.co)⟩ fun st' => Q .normal st') {m0 : Mu} {h0 : Heap} {w0 : World} :
    ∀ (fuel : Nat) (listed : Array Bool) (m : Mu) (st : St) (a : Act) (w : World), listed.toList.count false = fuel → listed.size = ss.length → Sim B m st a w → Evo m0 h0 w0 m st.h w →
      (∀ i j, listed.getD i false = true → bef (clos ops.toList) i j = true → listed.getD j false = true) →
      (((∃ i, i < k ∧ listed.getD i false = false) ∧ (∀ j, k ≤ j → listed.getD j false = false) ∧ st = ⟨tS ss y d t0 fun i => listed.getD i false, hS ss y h G fun i => listed.getD i false⟩) ∨
       (∃ c, k ≤ c ∧ c ≤ ss.length ∧ (∀ j, listed.getD j false = decide (j < c)) ∧ aregs P (ss.drop c) st fun st' => Q .normal st')) →
      wpAnyIn (FF ro) 0 P .any ops (Lift B m0 h0 w0 Q) fuel listed a w := by
  obtain ⟨c1, c2⟩ := csts_get hc
  have onestep : ∀ (i : Nat) (o : Oper), ops[i]? = some o → i < ss.length → ∀ j, bef (clos ops.toList) i j = true → ∃ x ∈ o.after, Region.binds .any x = true ∧ (j = x.on ∨ bef (clos ops.toList) x.on j = true) := by
    intro i o ho hi j hb
    obtain ⟨o', ho', hlt, _⟩ := hp.ops i hi
    rw [ho] at ho'
    injection ho' with ho'
    subst ho'
    exact clos_get ops.toList i o (by simpa using ho) hlt j hb
  intro fuel
  induction fuel with
  | zero =>
    intro listed m st a w hcnt hsz hs he hcl hinv
    have hall : ∀ j, j < ss.length → listed.getD j false = true := by
      intro j hj
      have hnot : false ∉ listed.toList := List.count_eq_zero.1 hcnt
      have hj' : j < listed.size := by omega
      rw [Array.getD_eq_getD_getElem?, Array.getElem?_eq_getElem hj']
      simp only [Option.getD_some]
      cases hb : listed[j] with
      | true => rfl
      | false => exact absurd (by rw [← hb]; simp) hnot
    refine ⟨?_, ?_⟩
    · rw [List.eq_nil_iff_forall_not_mem]
      intro i hi
      obtain ⟨h1, o, h2, _⟩ := mem_ready.1 hi
      have hi' : i < ss.length := by rw [← hsz0]; exact (Array.getElem?_eq_some_iff.1 h2).1
      have := hall i hi'
      rw [Array.getD_eq_getD_getElem?] at this h1
      cases hx : listed[i]? with
      | none => simp [hx] at h1
      | some b => simp [hx] at h1 this; rw [this] at h1; cases h1
    · rcases hinv with ⟨⟨i, hi, hff⟩, _, _⟩ | ⟨c, hc1, hc2, hl, hr⟩
      · rw [hall i (by omega)] at hff; cases hff
      · have : c = ss.length := by
          rcases Nat.lt_or_ge c ss.length with hlt | hge
          · have := hall c hlt
            rw [hl c] at this
            simp at this
          · omega
        subst this
        rw [List.drop_length] at hr
        exact ⟨m, st, hs, he, hr⟩
  | succ fuel ih =>
    intro listed m st a w hcnt hsz hs he hcl hinv
    have hun : ∃ i, i < ss.length ∧ listed.getD i false = false := by
      have hmem : false ∈ listed.toList := List.count_pos_iff.1 (by omega)
      obtain ⟨i, hi, hv⟩ := List.getElem_of_mem hmem
      have hi' : i < listed.size := by simpa using hi
      refine ⟨i, by omega, ?_⟩
      rw [Array.getD_eq_getD_getElem?, Array.getElem?_eq_getElem hi']
      simpa using hv
    have getT : ∀ i, i < ss.length → listed.getD i false = false → listed.getD i true = false := by
      intro i hi hff
      have hi' : i < listed.size := by omega
      rw [Array.getD_eq_getD_getElem?, Array.getElem?_eq_getElem hi'] at hff ⊢
      simpa using hff
    have getF : ∀ i, listed.getD i true = false → i < ss.length ∧ listed.getD i false = false := by
      intro i hi
      rw [Array.getD_eq_getD_getElem?] at hi ⊢
      cases hx : listed[i]? with
      | none => simp [hx] at hi
      | some b =>
        have := (Array.getElem?_eq_some_iff.1 hx).1
        simp [hx] at hi ⊢
        exact ⟨by omega, hi⟩
    have cnt' : ∀ i, i < ss.length → listed.getD i false = false → (listed.setIfInBounds i true).toList.count false = fuel := by
      intro i hi hff
      have hi' : i < listed.size := by omega
      have hv : listed[i] = false := by
        rw [Array.getD_eq_getD_getElem?, Array.getElem?_eq_getElem hi'] at hff
        simpa using hff
      rw [Array.toList_setIfInBounds, List.count_set (by simpa using hi')]
      simp [hv, hcnt]
    refine ⟨fun hempty => ?_, fun i hi => ?_⟩
    · exfalso
      obtain ⟨i, h1, h2, h3⟩ := exists_first (fun i => listed.getD i false = false) hun
      obtain ⟨o, g1, g3, _⟩ := hp.ops i h1
      have : i ∈ Region.ready .any ops listed := mem_ready.2 ⟨getT i h1 h2, o, g1, fun e he hb => by
        have := h3 e.on (g3 e he hb)
        simpa using this⟩
      rw [hempty] at this
      cases this
    · obtain ⟨q1, o, q2, q3⟩ := mem_ready.1 hi
      obtain ⟨hin, hfi⟩ := getF i q1
      obtain ⟨o', g1, g3, g5⟩ := hp.ops i hin
      rw [q2] at g1
      injection g1 with g1
      subst g1
      obtain ⟨s, g2, hcs⟩ := c2 i o (by simpa using q2)
      have hsA : stA ss i = s := by simp [stA, List.getD_eq_getElem?_getD, g2]
      unfold wpOpIn
      simp only [q2]
      have hsz' : (listed.setIfInBounds i true).size = ss.length := by simpa using hsz
      have lset : ∀ j, (listed.setIfInBounds i true).getD j false = (j == i || listed.getD j false) := by
        intro j
        by_cases e : j = i
        · subst e
          have : j < listed.size := by omega
          simp [this]
        · rw [getD_set_ne' (by omega)]
          simp [e]
      have pre : ∀ j, bef (clos ops.toList) i j = true → listed.getD j false = true := fun j hb =>
        binds_listed (e := fun i => listed.getD i false) (fun a b h1 h2 => hcl a b h1 h2) (onestep i o q2 hin j) q3 hb
      have hcl' : ∀ p q, (listed.setIfInBounds i true).getD p false = true → bef (clos ops.toList) p q = true → (listed.setIfInBounds i true).getD q false = true := by
        intro p q h1 h2
        rw [lset] at h1 ⊢
        simp only [Bool.or_eq_true, beq_iff_eq] at h1 ⊢
        rcases h1 with rfl | h1
        · exact .inr (pre q h2)
        · exact .inr (hcl p q h1 h2)
      have eadd : (fun j => (listed.setIfInBounds i true).getD j false) = addE (fun j => listed.getD j false) i := by
        funext j; rw [lset]; rfl
      have fin : ∀ {K : St → Prop}, aregs P [s] st K → (∀ st', K st' → (((∃ j, j < k ∧ (listed.setIfInBounds i true).getD j false = false) ∧ (∀ j, k ≤ j → (listed.setIfInBounds i true).getD j false = false) ∧ st' = ⟨tS ss y d t0 fun j => (listed.setIfInBounds i true).getD j false, hS ss y h G fun j => (listed.setIfInBounds i true).getD j false⟩) ∨
       (∃ c, k ≤ c ∧ c ≤ ss.length ∧ (∀ j, (listed.setIfInBounds i true).getD j false = decide (j < c)) ∧ aregs P (ss.drop c) st' fun st' => Q .normal st'))) →
          if Region.wanted o (yielded ops a.tmps) = true then o.wpIn (FF ro) 0 P a w (wpAnyIn (FF ro) 0 P .any ops (Lift B m0 h0 w0 Q) fuel (listed.setIfInBounds i true)) (Lift B m0 h0 w0 Q) else (∀ f, o.about P w a.eval = some f → (FF ro).fn f) ∧ wpAnyIn (FF ro) 0 P .any ops (Lift B m0 h0 w0 Q) fuel (listed.setIfInBounds i true) (a.put o.dst undef) w := by
        intro K hreg hKK
        have := stm_sound (ro := ro) (Kc := wpAnyIn (FF ro) 0 P .any ops (Lift B m0 h0 w0 Q) fuel (listed.setIfInBounds i true)) (Q := Lift B m0 h0 w0 Q) hs hcs hreg fun m' st' a' w' s1 s2 s3 => ih _ m' st' a' w' (cnt' i hin hfi) hsz' s1 (he.trans s2) hcl' (hKK st' s3)
        exact this
      rcases hinv with ⟨⟨j0, hj0, hf0⟩, hlate, rfl⟩ | ⟨c, hc1, hc2, hl, hr⟩
      · -- one of the first ones
        have hik : i < k := by
          rcases Nat.lt_or_ge i k with h1 | h1
          · exact h1
          · have := pre j0 (g5 h1 j0 (by omega))
            rw [this] at hf0; cases hf0
        have hrd : Ready (clos ops.toList) (fun j => listed.getD j false) i := ⟨hfi, fun a b h1 h2 => hcl a b h1 h2, pre⟩
        -- what comes of it
        have next : ∀ st', st' = ⟨tS ss y d t0 fun j => (listed.setIfInBounds i true).getD j false, hS ss y h G fun j => (listed.setIfInBounds i true).getD j false⟩ → (((∃ j, j < k ∧ (listed.setIfInBounds i true).getD j false = false) ∧ (∀ j, k ≤ j → (listed.setIfInBounds i true).getD j false = false) ∧ st' = ⟨tS ss y d t0 fun j => (listed.setIfInBounds i true).getD j false, hS ss y h G fun j => (listed.setIfInBounds i true).getD j false⟩) ∨
            (∃ c, k ≤ c ∧ c ≤ ss.length ∧ (∀ j, (listed.setIfInBounds i true).getD j false = decide (j < c)) ∧ aregs P (ss.drop c) st' fun st' => Q .normal st')) := by
          intro st' hst'
          by_cases hmore : ∃ j, j < k ∧ (listed.setIfInBounds i true).getD j false = false
          · left
            refine ⟨hmore, fun j hj => ?_, hst'⟩
            have e1 : (j == i) = false := by simp; omega
            rw [lset j, hlate j hj, e1]; rfl
          · right
            have hallk : ∀ j, j < k → (listed.setIfInBounds i true).getD j false = true := by
              intro j hj
              cases hb : (listed.setIfInBounds i true).getD j false with
              | true => rfl
              | false => exact absurd ⟨j, hj, hb⟩ hmore
            refine ⟨k, Nat.le_refl _, hk, fun j => ?_, ?_⟩
            · by_cases hj : j < k
              · rw [hallk j hj]; simp [hj]
              · have e1 : (j == i) = false := by simp; omega
                rw [lset j, hlate j (by omega), e1]; simp [hj]
            · rw [hst']
              have hfil : (y.co.filter fun j => (listed.setIfInBounds i true).getD j false) = y.co := List.filter_eq_self.2 fun j hj => hallk j (hp.low j hj)
              have hal : ∀ a ∈ y.AL, (fun j => (listed.setIfInBounds i true).getD j false) a = true := fun a ha => hallk a (hp.low a (by simp [Lay.co, ha]))
              rw [hS_done hf hal]
              unfold tS cS
              rw [hfil]
              exact hK
        rcases hp.kinds i hik with hQ | hA | hS'
        · -- quiet
          obtain ⟨d', hsy, hset⟩ := step_quiet hp.toPlan0 hf hik (hp.cov i hik) (fun j hj _ => hp.cov j hj) hrd hQ
          rw [hsA] at hsy hset
          have hkA : isS ss i = false := by
            simp only [isQ, beq_iff_eq] at hQ
            simp [isS, hQ]
          have hhS : hS ss y h G (addE (fun j => listed.getD j false) i) = hS ss y h G fun j => listed.getD j false := by
            have hcc : cS ss y (addE (fun j => listed.getD j false) i) = cS ss y fun j => listed.getD j false := by rw [cS_add hp.toPlan0 hik (hp.cov i hik) hfi, hkA]; rfl
            unfold hS
            rw [hcc]
            congr 2
            apply List.map_congr_left
            intro q hq
            have : ¬ q = i := by
              intro e; subst e
              have := hp.al q hq
              simp only [isA, isQ, beq_iff_eq] at this hQ
              omega
            simp [addE, this]
          refine fin (K := fun st' => st' = ⟨setD (tS ss y d t0 fun j => listed.getD j false) s.dst d', hS ss y h G fun j => listed.getD j false⟩) (SY.toRegs (st := ⟨tS ss y d t0 fun j => listed.getD j false, hS ss y h G fun j => listed.getD j false⟩) hsy rfl) fun st' hst' => next st' ?_
          rw [hst', eadd, tS_add hp.toPlan0 hik (hp.cov i hik) hfi, hhS, hsA, hset]
        · -- an allocation
          obtain ⟨x, z, hsx⟩ := kind_alloc (s := stA ss i) (by simpa [isA] using hA)
          rw [hsA] at hsx
          have hmA : i ∈ y.AL := by
            have := hp.cov i hik
            simp only [Lay.co, List.mem_append] at this
            simp only [isA, beq_iff_eq] at hA
            rcases this with ((hm | hm) | hm) | hm
            · have := hp.ea i hm; simp [isQ, hA] at this
            · exact hm
            · have := (hp.mi i hm).1; simp [isQ, hA] at this
            · rcases (hp.la i hm).2 with b | b
              · simp [isS, hA] at b
              · have := b.1; simp [isQ, hA] at this
          obtain ⟨A, B, eA⟩ := split_of_mem hmA
          have hc0 : cS ss y (fun j => listed.getD j false) = 0 := by
            refine Classical.byContradiction fun hne => ?_
            obtain ⟨s', _, _, hse, _, hsLA⟩ := last_store hp.toPlan0 hrd.closed hne
            have := hcl s' i hse ((hp.la s' hsLA).1 i hmA)
            rw [hfi] at this; cases this
          obtain ⟨hfree, hset⟩ := hS_alloc hp.toPlan0 (h := h) (G := G) hik eA hfi hc0
          have hdi := hf.al A i B eA
          have hz : zeroA ss i = z := by simp [zeroA, hsA, hsx]
          rw [hsx] at hcs
          -- the operation itself
          simp only [cstm, Option.bind_eq_some_iff] at hcs
          obtain ⟨g, hg, hcs⟩ := hcs
          have hguard : o.guard = none := by
            split at hcs
            · rename_i ao hx
              simp only [Option.some.injEq, AStm.op.injEq] at hcs
              exact absurd (hcs.2.2 ▸ hx) xop_alloc
            split at hcs
            · simp only [Option.bind_eq_some_iff, Option.map_eq_some_iff] at hcs
              obtain ⟨_, _, _, _, hcs⟩ := hcs
              cases hcs
            · simp only [Option.map_eq_some_iff, AStm.op.injEq] at hcs
              obtain ⟨_, _, _, rfl, _⟩ := hcs
              split at hg
              · assumption
              · split at hg <;> simp at hg
          have hop : ∃ et, o.op = .alloc et ∧ zeroOf P et = some z := by
            split at hcs
            · rename_i ao hx
              simp only [Option.some.injEq, AStm.op.injEq] at hcs
              exact absurd (hcs.2.2 ▸ hx) xop_alloc
            split at hcs
            · simp only [Option.bind_eq_some_iff, Option.map_eq_some_iff] at hcs
              obtain ⟨_, _, _, _, hcs⟩ := hcs
              cases hcs
            · simp only [Option.map_eq_some_iff, AStm.op.injEq] at hcs
              obtain ⟨ao, h1, _, _, rfl⟩ := hcs
              exact cop_alloc h1
          have hdst : o.dst = some x := by
            split at hcs
            · rename_i ao hx
              simp only [Option.some.injEq, AStm.op.injEq] at hcs
              exact absurd (hcs.2.2 ▸ hx) xop_alloc
            split at hcs
            · simp only [Option.bind_eq_some_iff, Option.map_eq_some_iff] at hcs
              obtain ⟨_, _, _, _, hcs⟩ := hcs
              cases hcs
            · simp only [Option.map_eq_some_iff, AStm.op.injEq] at hcs
              obtain ⟨_, _, h1, _⟩ := hcs
              exact h1
          obtain ⟨et, hop, hzt⟩ := hop
          have hw : Region.wanted o (yielded ops a.tmps) = true := by simp [Region.wanted, hguard]
          rw [if_pos hw]
          obtain ⟨v, m', w', h1, h2, h3, h4⟩ := y_alloc_free (P := P) hs.heap hzt hfree
          have hrun : (execOp a.eval o).run P w = .ok (.value v) w' := by
            have e0 : execOp a.eval o = (Instr.alloc et true (.tuple #[])).bind (fun v => pure (.value v)) ∨ True := .inr trivial
            simp only [execOp, hop]
            simp [h1]
          have hsem : Oper.semAt (FF ro).round a.eval o = execOp a.eval o := semAt_of fun c e => by rw [hop] at e; cases e
          refine ⟨fun _ _ => trivial, ?_⟩
          rw [hsem, hrun]
          refine ih _ m' ⟨setD _ o.dst (.ref (h.length + A.length) 0), _⟩ _ w' (cnt' i hin hfi) hsz' (hs.put h4 h3 h2 o.dst) (he.trans h4) hcl' (next _ ?_)
          rw [eadd, tS_add hp.toPlan0 hik (hp.cov i hik) hfi, hset, hdi, hsA, hsx, hdst, hz]
          rfl
        · -- a store
          obtain ⟨dst, os, hsx⟩ : ∃ dst os, stA ss i = .op dst none os := by
            rcases kind_store (s := stA ss i) (by simpa [isS] using hS') with h | ⟨dst, f, a', hsx⟩
            · exact h
            · exfalso
              rw [hsA] at hsx
              rw [hsx] at hcs
              exact cstm_noW hcs
          have hmL : i ∈ y.LA := by
            have := hp.cov i hik
            simp only [Lay.co, List.mem_append] at this
            simp only [isS, beq_iff_eq] at hS'
            rcases this with ((hm | hm) | hm) | hm
            · have := hp.ea i hm; simp [isQ, hS'] at this
            · have := hp.al i hm; simp [isA, hS'] at this
            · have := (hp.mi i hm).1; simp [isQ, hS'] at this
            · exact hm
          obtain ⟨ha, _⟩ := hf.st i hmL hS'
          rw [hsx] at ha
          have ha : aop os (ap ss d (pa y.co i) t0) (G (cntS ss (pa y.co i))) = some (d i, G (cntS ss (pa y.co i) + 1)) := ha
          have hn : y.co.Nodup := by simpa using inOrder_nodup hp.order (by simp)
          obtain ⟨A', B', e2⟩ := split_of_mem hmL
          obtain ⟨gS, _⟩ := chkSlots_at hp.late e2
          have e3 : y.co = (y.EA ++ y.AL ++ y.MI ++ A') ++ i :: B' := by rw [Lay.co, e2]; simp
          have hpa := pa_eq e3 (nodup_split hn e3).1
          have hcnt : cS ss y (fun j => listed.getD j false) = cntS ss (pa y.co i) := by
            rw [hpa]
            unfold cS cntS
            rw [e3, List.filter_append, List.filter_cons]
            rw [if_neg (by rw [hfi]; simp)]
            rw [List.filter_append]
            have h1 : (((y.EA ++ y.AL ++ y.MI ++ A').filter fun j => listed.getD j false).filter (isS ss)) = (y.EA ++ y.AL ++ y.MI ++ A').filter (isS ss) := by
              rw [List.filter_filter]
              apply List.filter_congr
              intro j hj
              cases hSj : isS ss j with
              | false => rfl
              | true => rw [pre j (gS j hj hSj)]; rfl
            have h2 : ((B'.filter fun j => listed.getD j false).filter (isS ss)) = [] := by
              rw [List.filter_eq_nil_iff]
              intro j hj hSj
              obtain ⟨hjB, hje⟩ := List.mem_filter.1 hj
              obtain ⟨C, D', e5⟩ := split_of_mem hjB
              have e6 : y.LA = (A' ++ i :: C) ++ j :: D' := by rw [e2, e5]; simp
              obtain ⟨gS2, _⟩ := chkSlots_at hp.late e6
              have := hcl j i hje (gS2 i (by simp) hS')
              rw [hfi] at this; cases this
            rw [h1, h2, List.append_nil]
          have hal : ∀ q ∈ y.AL, (fun j => listed.getD j false) q = true := fun q hq => pre q ((hp.la i hmL).1 q hq)
          have hheap : hS ss y h G (fun j => listed.getD j false) = G (cntS ss (pa y.co i)) := by rw [hS_done hf hal, hcnt]
          have hheap' : hS ss y h G (addE (fun j => listed.getD j false) i) = G (cntS ss (pa y.co i) + 1) := by
            have hal' : ∀ q ∈ y.AL, addE (fun j => listed.getD j false) i q = true := fun q hq => by
              show (q == i || listed.getD q false) = true
              rw [show listed.getD q false = true from hal q hq]; simp
            rw [hS_done hf hal', cS_add hp.toPlan0 hik (hp.cov i hik) hfi, hS', hcnt]; rfl
          have hag := agree hp.toPlan0 hik (hp.cov i hik) (fun j hj _ => hp.cov j hj) hrd (d := d) (t0 := t0)
          have ha2 : aop os (tS ss y d t0 fun j => listed.getD j false) (hS ss y h G fun j => listed.getD j false) = some (d i, G (cntS ss (pa y.co i) + 1)) := by
            rw [hheap, ← ha]
            exact (aop_congr fun q hq => ev_congr fun r hr => hag r (by rw [hsx]; simp only [AStm.slots, List.mem_append, List.mem_flatMap]; exact .inr ⟨q, hq, hr⟩)).symm
          rw [hsA] at hsx
          refine fin (K := fun st' => st' = ⟨setD (tS ss y d t0 fun j => listed.getD j false) dst (d i), G (cntS ss (pa y.co i) + 1)⟩) (by rw [hsx]; exact ⟨_, ha2, rfl⟩) fun st' hst' => next st' ?_
          rw [hst', eadd, tS_add hp.toPlan0 hik (hp.cov i hik) hfi, hheap', hsA, hsx]
          rfl
      · -- one of the last ones
        have hic : i = c := by
          have h1 : ¬ i < c := by
            have := hl i
            rw [hfi] at this
            simpa using this.symm
          rcases Nat.lt_or_ge c i with h2 | h2
          · have := pre c (g5 (by omega) c h2)
            rw [hl c] at this
            simp at this
          · omega
        subst hic
        rw [List.drop_eq_getElem_cons hin] at hr
        have hsg : ss[i] = s := by
          rw [List.getElem?_eq_getElem hin] at g2
          injection g2
        rw [hsg, aregs_cons] at hr
        refine fin hr fun st' hst' => .inr ⟨i + 1, by omega, by omega, fun j => ?_, hst'⟩
        rw [lset j, hl j]
        by_cases e : j = i
        · subst e; simp
        · by_cases hj : j < i
          · simp [hj]; omega
          · have e1 : (j == i) = false := by simpa using e
            have e2 : decide (j < i) = false := by simpa using hj
            have e3 : decide (j < i + 1) = false := by simp; omega
            rw [e1, e2, e3]; rfl

/-- A REGION WHOSE ORDER IS OPEN. -/
theorem AW.draw (hm : P.follows .mixedOrders = true) {id : Nat} {st : St} {Q : Exit → St → Prop} (hc : csts P ops ops.toList = some ss) (hsz0 : ops.size = ss.length) (hp : Plan ops ss (clos ops.toList) k y) (hk : k ≤ ss.length)
    (hw : aheads P (y.heads ss (clos ops.toList)) st fun st' => aregs P (ss.drop k) st' fun st' => Q .normal st') : AW ro P (.region id ops true) Q st := by
  intro B m a w hB hs
  obtain ⟨d, G, hf, hK⟩ := facts_of hp.toPlan0 hw
  refine wpIn_region_any hm ?_
  have he : Evo m st.h w m st.h { w with drawn := w.drawn + 1 } := Evo.same rfl rfl rfl rfl
  have hs' : Sim B m st a { w with drawn := w.drawn + 1 } := ⟨hs.defers.evo he, hs.tmps.evo he, ⟨hs.heap.inj, fun r b hr => (hs.heap.blk r b hr).evo he rfl fun _ => rfl, fun p hp => (hs.heap.glob p hp).evo he⟩⟩
  obtain ⟨hsF, heF⟩ := more_free hs'.heap y.AL.length
  have hz : ∀ j, (Array.replicate ops.size false).getD j false = false := by
    intro j
    rw [Array.getD_eq_getD_getElem?]
    by_cases hj : j < ops.size <;> simp [hj]
  have hfil : (y.co.filter fun j => (Array.replicate ops.size false).getD j false) = [] := by
    rw [List.filter_eq_nil_iff]
    intro j _; rw [hz]; simp
  have ht : tS ss y d st.t (fun j => (Array.replicate ops.size false).getD j false) = st.t := by unfold tS; rw [hfil]; rfl
  have hcz : cS ss y (fun j => (Array.replicate ops.size false).getD j false) = 0 := by unfold cS; rw [hfil]; rfl
  have hh : hS ss y st.h G (fun j => (Array.replicate ops.size false).getD j false) = st.h ++ List.replicate y.AL.length .free := by
    unfold hS
    rw [if_pos hcz]
    congr 1
    rw [List.eq_replicate_iff]
    refine ⟨by simp, fun b hb => ?_⟩
    obtain ⟨q, _, rfl⟩ := List.mem_map.1 hb
    simp only [hz]; simp
  have hsim : Sim B m ⟨st.t, st.h ++ List.replicate y.AL.length .free⟩ a { w with drawn := w.drawn + 1 } := ⟨hs'.defers.evo heF, hs'.tmps.evo heF, hsF⟩
  refine draw_sound hc hsz0 hp hk hf hK ops.size (Array.replicate ops.size false) m ⟨st.t, st.h ++ List.replicate y.AL.length .free⟩ a _ (by simp) (by simpa using hsz0) hsim (he.trans heF) (fun i j h => by rw [hz] at h; cases h) ?_
  rcases Nat.eq_zero_or_pos k with e | e
  · right
    refine ⟨0, by omega, by omega, fun j => by rw [hz j]; simp, ?_⟩
    have hco : y.co = [] := by
      cases hco : y.co with
      | nil => rfl
      | cons i l => have := hp.low i (by rw [hco]; simp); omega
    have hAL : y.AL = [] := by
      have : y.AL.length ≤ y.co.length := by simp [Lay.co]; omega
      rw [hco] at this
      exact List.length_eq_zero_iff.1 (by simpa using this)
    have hg := hf.g0
    rw [hAL] at hg ⊢
    rw [hco] at hK
    rw [e] at hK
    simp only [List.map_nil, List.append_nil] at hg
    have hc0 : cntS ss [] = 0 := rfl
    rw [hc0, hg] at hK
    simpa [ap] using hK
  · left
    exact ⟨⟨0, e, hz 0⟩, fun j _ => hz j, by rw [ht, hh]⟩

theorem planK_ok {gen : Bool} {hd tl : List AStm} (h : planK gen ops ss cl k = some (hd, tl)) : ∃ y, Plan ops ss cl k y ∧ hd = y.heads ss cl ∧ tl = ss.drop k := by
  unfold planK at h
  split at h
  · split at h
    · rename_i h1
      simp only [Option.some.injEq, Prod.mk.injEq] at h
      exact ⟨_, plan_of h1, h.1.symm, h.2.symm⟩
    · cases h
  · cases h
theorem planFrom_ok {gen : Bool} {hd tl : List AStm} : ∀ {n : Nat}, planFrom gen ops ss cl n = some (hd, tl) → ∃ k y, k ≤ n ∧ Plan ops ss cl k y ∧ hd = y.heads ss cl ∧ tl = ss.drop k
  | 0, h => by
    obtain ⟨y, h1⟩ := planK_ok h
    exact ⟨0, y, Nat.le_refl _, h1⟩
  | n + 1, h => by
    unfold planFrom at h
    split at h
    · rename_i p hp
      injection h with h
      subst h
      obtain ⟨y, h1⟩ := planK_ok hp
      exact ⟨n + 1, y, Nat.le_refl _, h1⟩
    · obtain ⟨k, y, h1, h2⟩ := planFrom_ok h
      exact ⟨k, y, by omega, h2⟩
theorem AW.plan (hm : P.follows .mixedOrders = true) {id : Nat} {st : St} {Q : Exit → St → Prop} {hd tl : List AStm} (hc : csts P ops ops.toList = some ss) (hpl : plan ops ss = some (hd, tl))
    (hw : aheads P hd st fun st' => aregs P tl st' fun st' => Q .normal st') : AW ro P (.region id ops true) Q st := by
  unfold YtodlpcoffmnmbaaDoor.plan at hpl
  split at hpl
  · rename_i hsz
    split at hpl
    · rename_i p hpl'
      injection hpl with hpl
      subst hpl
      obtain ⟨k, y, hk, hp, rfl, rfl⟩ := planFrom_ok hpl'
      exact AW.draw hm hc hsz hp hk hw
    · obtain ⟨k, y, hk, hp, rfl, rfl⟩ := planFrom_ok hpl
      exact AW.draw hm hc hsz hp hk hw
  · cases hpl
end
end Go.YtodlpcoffmnmbaaDoor
