/-
  Own work. The value machine, part Q: code as a whole, and a function.
-/
import Derived.Test.YtgokcidfclghpaaVpz
namespace Go.Ytgokcidfclghpaa
open Go
set_option linter.unusedVariables false
set_option linter.unusedSimpArgs false

/-- Code with its types worked in. -/
def comp (P : Program) : Code → Option AC
  | .skip => some .skip
  | .region _ ops draw => match csts P ops ops.toList with
    | some ss => if draw = true then match plan ops ss with
      | some p => some (.dreg p.1 p.2)
      | none => some .bad
      else some (.reg ss)
    | none => some .bad
  | .seq a b => (comp P a).bind fun x => (comp P b).map fun y => .seq x y
  | .cond c a b => (cao c).bind fun z => (comp P a).bind fun x => (comp P b).map fun y => .cond z x y
  | .block id a => (comp P a).map fun x => .block id x
  | .loop a => (comp P a).map fun x => .loop x
  | .exit id => some (.exit id)
  | .ret => some .ret
  | _ => some .bad

/-- What plain code comes to. -/
def AWA (P : Program) (c : AC) (Q : Exit → St → Prop) (st : St) : Prop := ∀ code, comp P code = some c → AW P code Q st

section
variable {P : Program} {Q : Exit → St → Prop} {st : St}

theorem AWA.mono {c : AC} {Q' : Exit → St → Prop} (h : AWA P c Q st) (hq : ∀ e st, Q e st → Q' e st) : AWA P c Q' st := fun code hc => (h code hc).mono hq

theorem comp_region {id : Nat} {ops : Array Oper} {draw : Bool} {c : AC} (hc : comp P (.region id ops draw) = some c) : (∃ ss, csts P ops ops.toList = some ss ∧ c = .reg ss ∧ draw = false) ∨ (∃ ss hd tl, csts P ops ops.toList = some ss ∧ plan ops ss = some (hd, tl) ∧ c = .dreg hd tl ∧ draw = true) ∨ c = .bad := by
  unfold comp at hc
  split at hc
  · rename_i ss h1
    split at hc
    · rename_i hd
      split at hc
      · rename_i p h2
        injection hc with hc
        exact .inr (.inl ⟨ss, p.1, p.2, h1, h2, hc.symm, hd⟩)
      · injection hc with hc
        exact .inr (.inr hc.symm)
    · rename_i hd
      injection hc with hc
      exact .inl ⟨ss, h1, hc.symm, by simpa using hd⟩
  · injection hc with hc
    exact .inr (.inr hc.symm)
theorem AWA.skip (h : Q .normal st) : AWA P .skip Q st := by
  intro code hc
  cases code with
  | region id ops draw => rcases comp_region hc with ⟨_, _, h, _⟩ | ⟨_, _, _, _, _, h, _⟩ | h <;> cases h
  | skip => exact AW.skip h
  | _ => simp [comp, Option.bind_eq_some_iff, Option.map_eq_some_iff] at hc
theorem AWA.exit {id : Nat} (h : Q (.exit id) st) : AWA P (.exit id) Q st := by
  intro code hc
  cases code with
  | region id ops draw => rcases comp_region hc with ⟨_, _, h, _⟩ | ⟨_, _, _, _, _, h, _⟩ | h <;> cases h
  | exit id' =>
    simp [comp] at hc
    subst hc; exact AW.exit h
  | _ => simp [comp, Option.bind_eq_some_iff, Option.map_eq_some_iff] at hc
theorem AWA.ret (h : Q .ret st) : AWA P .ret Q st := by
  intro code hc
  cases code with
  | region id ops draw => rcases comp_region hc with ⟨_, _, h, _⟩ | ⟨_, _, _, _, _, h, _⟩ | h <;> cases h
  | ret => exact AW.ret h
  | _ => simp [comp, Option.bind_eq_some_iff, Option.map_eq_some_iff] at hc
theorem AWA.seq {x y : AC} {K : St → Prop} (hx : AWA P x (thenQ K Q) st) (hy : ∀ st', K st' → AWA P y Q st') : AWA P (.seq x y) Q st := by
  intro code hc
  cases code with
  | region id ops draw => rcases comp_region hc with ⟨_, _, h, _⟩ | ⟨_, _, _, _, _, h, _⟩ | h <;> cases h
  | seq a b =>
    simp [comp, Option.bind_eq_some_iff, Option.map_eq_some_iff] at hc
    obtain ⟨h1, h2⟩ := hc
    exact AW.seq (hx _ h1) fun st' hk => hy st' hk _ h2
  | _ => simp [comp, Option.bind_eq_some_iff, Option.map_eq_some_iff] at hc
/-- As the walk takes it: what follows under a name. -/
theorem AWA.seqK {x y : AC} (h : ∀ K : St → Prop, (∀ st', AWA P y Q st' → K st') → AWA P x (thenQ K Q) st) : AWA P (.seq x y) Q st :=
  AWA.seq (h _ fun _ h => h) fun _ h => h

theorem AWA.cond {c : AO} {x y : AC} {b : Bool} (hb : ev st.t c = .bool b) (h1 : b = true → AWA P x Q st) (h2 : b = false → AWA P y Q st) : AWA P (.cond c x y) Q st := by
  intro code hc
  cases code with
  | region id ops draw => rcases comp_region hc with ⟨_, _, h, _⟩ | ⟨_, _, _, _, _, h, _⟩ | h <;> cases h
  | cond c' a' b' =>
    simp [comp, Option.bind_eq_some_iff, Option.map_eq_some_iff] at hc
    obtain ⟨z, h0, x', h3, y', h4, rfl, rfl, rfl⟩ := hc
    refine AW.cond (b := b) (fun m a w hs => ?_) (fun e => h1 e _ h3) (fun e => h2 e _ h4)
    have := rep_ev hs.tmps h0
    rw [hb] at this
    simpa only [Rep] using this
  | _ => simp [comp, Option.bind_eq_some_iff, Option.map_eq_some_iff] at hc
theorem AWA.block {id : Nat} {x : AC} (h : AWA P x (blockQ id Q) st) : AWA P (.block id x) Q st := by
  intro code hc
  cases code with
  | region id ops draw => rcases comp_region hc with ⟨_, _, h, _⟩ | ⟨_, _, _, _, _, h, _⟩ | h <;> cases h
  | block id' a =>
    simp [comp, Option.bind_eq_some_iff, Option.map_eq_some_iff] at hc
    obtain ⟨h1, rfl⟩ := hc
    exact AW.block (h _ h1)
  | _ => simp [comp, Option.bind_eq_some_iff, Option.map_eq_some_iff] at hc
theorem AWA.loop {x : AC} (I : St → Prop) (μ : St → Nat) (h0 : I st) (round : ∀ st, I st → AWA P x (thenQ (fun st' => I st' ∧ μ st' < μ st) Q) st) : AWA P (.loop x) Q st := by
  intro code hc
  cases code with
  | region id ops draw => rcases comp_region hc with ⟨_, _, h, _⟩ | ⟨_, _, _, _, _, h, _⟩ | h <;> cases h
  | loop a =>
    simp [comp, Option.bind_eq_some_iff, Option.map_eq_some_iff] at hc
    exact AW.loop I μ h0 fun st hi => round st hi _ hc
  | _ => simp [comp, Option.bind_eq_some_iff, Option.map_eq_some_iff] at hc
theorem AWA.reg {ss : List AStm} (h : aregs P ss st fun st' => Q .normal st') : AWA P (.reg ss) Q st := by
  intro code hc
  cases code with
  | region id ops draw =>
    rcases comp_region hc with ⟨ss', h1, h2, h3⟩ | ⟨_, _, _, _, _, h, _⟩ | h
    · injection h2 with h2
      subst h2; subst h3
      exact AW.region h1 h
    · cases h
    · cases h
  | _ => simp [comp, Option.bind_eq_some_iff, Option.map_eq_some_iff] at hc
theorem AWA.dreg (hm : P.follows .mixedOrders = true) {hd tl : List AStm} (h : aheads P hd st fun st' => aregs P tl st' fun st' => Q .normal st') : AWA P (.dreg hd tl) Q st := by
  intro code hc
  cases code with
  | region id ops draw =>
    rcases comp_region hc with ⟨_, _, h, _⟩ | ⟨ss', hd', tl', h1, h2, h3, h4⟩ | h
    · cases h
    · injection h3 with h3 h5
      subst h3; subst h4; subst h5
      exact AW.plan hm h1 h2 h
    · cases h
  | _ => simp [comp, Option.bind_eq_some_iff, Option.map_eq_some_iff] at hc
end

/-! ### What a function hands back -/
 mutual
/-- Does a value lead to blocks below a number alone? -/
def underD (k : Nat) : D → Bool
  | .ref r _ | .own r _ | .eref r _ _ | .osl r _ _ _ | .bsl r _ _ => decide (r < k)
  | .fptr cs | .sl cs _ _ | .agg cs | .tup cs => underL k cs
  | .fn _ a b => underL k a && underL k b
  | .iface _ d => underD k d
  | _ => true
def underL (k : Nat) : List D → Bool
  | [] => true
  | d :: ds => underD k d && underL k ds
 end
def underB (k : Nat) : Blk → Bool
  | .box cs | .icebox cs | .grow _ cs _ | .ice _ cs _ => underL k cs
  | _ => true

/-- A part of the blocks, and others of them put behind. -/
structure Part (k : Nat) (m m' : Mu) (ah ah' : Heap) : Prop where
  low : ∀ r, r < k → ah'[r]? = ah[r]? ∧ m' r = m r
  own : ∀ b, Owned m' ah' b → Owned m ah b

section
variable {k : Nat} {m m' : Mu} {ah ah' : Heap} {w : World}

 mutual
theorem Rep.part (hp : Part k m m' ah ah') : ∀ {d : D} {v : Value}, underD k d = true → Rep m ah w d v → Rep m' ah' w d v
  | .any, _, _, _ => by simp only [Rep]
  | .bool b, v, _, h => by simp only [Rep] at *; exact h
  | .int q n, v, _, h => by simp only [Rep] at *; exact h
  | .str s, v, _, h => by simp only [Rep] at *; exact h
  | .nilp, v, _, h => by simp only [Rep] at *; exact h
  | .fptr cs, v, hu, h => by
    simp only [Rep, underD] at *
    obtain ⟨a, h1, h2, h3⟩ := h
    exact ⟨a, h1, h2, RepAt.part hp hu h3⟩
  | .ref r off, v, hu, h => by
    simp only [Rep, underD, decide_eq_true_eq] at *
    obtain ⟨h0, b, h1, h2⟩ := h
    obtain ⟨q1, q2⟩ := hp.low r hu
    exact ⟨h0, b, by rw [q1]; exact h1, by cases b <;> simp only [RefV] at * <;> first | exact h2 | (rw [q2]; exact h2)⟩
  | .nils, v, _, h => by simp only [Rep] at *; exact h
  | .sl cs n full, v, hu, h => by
    simp only [Rep, underD] at *
    obtain ⟨a, cap, h1, h2, h3, h4, h5⟩ := h
    exact ⟨a, cap, h1, h2, h3, h4, RepAt.part hp hu h5⟩
  | .own r n, v, hu, h => by
    simp only [Rep, underD, decide_eq_true_eq] at *
    obtain ⟨h0, b, h1, h2⟩ := h
    obtain ⟨q1, q2⟩ := hp.low r hu
    exact ⟨h0, b, by rw [q1]; exact h1, by cases b <;> simp only [OwnV] at * <;> first | exact h2 | (rw [q2]; exact h2)⟩
  | .eref r n off, v, hu, h => by
    simp only [Rep, underD, decide_eq_true_eq] at *
    obtain ⟨h0, b, h1, h2⟩ := h
    obtain ⟨q1, q2⟩ := hp.low r hu
    exact ⟨h0, b, by rw [q1]; exact h1, by cases b <;> simp only [OwnV] at * <;> first | exact h2 | (rw [q2]; exact h2)⟩
  | .osl r n off kk, v, hu, h => by
    simp only [Rep, underD, decide_eq_true_eq] at *
    obtain ⟨h0, b, h1, h2⟩ := h
    obtain ⟨q1, q2⟩ := hp.low r hu
    exact ⟨h0, b, by rw [q1]; exact h1, by cases b <;> simp only [OwnV] at * <;> first | exact h2 | (rw [q2]; exact h2)⟩
  | .bsl r off kk, v, hu, h => by
    simp only [Rep, underD, decide_eq_true_eq] at *
    obtain ⟨h0, b, h1, h2⟩ := h
    obtain ⟨q1, q2⟩ := hp.low r hu
    exact ⟨h0, b, by rw [q1]; exact h1, by cases b <;> simp only [RefV] at * <;> first | exact h2 | (rw [q2]; exact h2)⟩
  | .agg cs, v, hu, h => by
    simp only [Rep, underD] at *
    obtain ⟨vs, h1, h2⟩ := h
    exact ⟨vs, h1, RepL.part hp hu h2⟩
  | .tup cs, v, hu, h => by
    simp only [Rep, underD] at *
    obtain ⟨vs, h1, h2⟩ := h
    exact ⟨vs, h1, RepL.part hp hu h2⟩
  | .fn f first cap, v, hu, h => by
    simp only [Rep, underD, Bool.and_eq_true] at *
    obtain ⟨vs, us, h1, h2, h3⟩ := h
    exact ⟨vs, us, h1, RepL.part hp hu.1 h2, RepL.part hp hu.2 h3⟩
  | .nilf, v, _, h => by simp only [Rep] at *; exact h
  | .iface t d, v, hu, h => by
    simp only [Rep, underD] at *
    obtain ⟨u, h1, h2⟩ := h
    exact ⟨u, h1, Rep.part hp hu h2⟩
  | .nili, v, _, h => by simp only [Rep] at *; exact h
theorem RepAt.part (hp : Part k m m' ah ah') : ∀ {ds : List D} {b off : Nat}, underL k ds = true → RepAt m ah w ds b off → RepAt m' ah' w ds b off
  | [], _, _, _, _ => by simp only [RepAt]
  | d :: ds, b, off, hu, h => by
    simp only [RepAt, underL, Bool.and_eq_true] at *
    obtain ⟨h1, ⟨u, h2, h3⟩, h4⟩ := h
    exact ⟨fun ho => h1 (hp.own b ho), ⟨u, h2, Rep.part hp hu.1 h3⟩, RepAt.part hp hu.2 h4⟩
theorem RepL.part (hp : Part k m m' ah ah') : ∀ {ds : List D} {vs : List Value}, underL k ds = true → RepL m ah w ds vs → RepL m' ah' w ds vs
  | [], _, _, h => by simp only [RepL] at *; exact h
  | d :: ds, vs, hu, h => by
    simp only [RepL, underL, Bool.and_eq_true] at *
    obtain ⟨u, us, h1, h2, h3⟩ := h
    exact ⟨u, us, h1, Rep.part hp hu.1 h2, RepL.part hp hu.2 h3⟩
 end

 mutual
theorem Rep.under : ∀ {d : D} {v : Value}, Rep m ah w d v → underD ah.length d = true
  | .any, _, _ => rfl
  | .bool _, _, _ => rfl
  | .int _ _, _, _ => rfl
  | .str _, _, _ => rfl
  | .nilp, _, _ => rfl
  | .fptr cs, v, h => by simp only [Rep] at h; obtain ⟨a, _, _, h3⟩ := h; simpa only [underD] using RepAt.under h3
  | .ref r off, v, h => by simp only [Rep] at h; obtain ⟨_, b, h1, _⟩ := h; simpa only [underD, decide_eq_true_eq] using (List.getElem?_eq_some_iff.1 h1).1
  | .nils, _, _ => rfl
  | .sl cs n full, v, h => by simp only [Rep] at h; obtain ⟨a, _, _, _, _, _, h3⟩ := h; simpa only [underD] using RepAt.under h3
  | .own r off, v, h => by simp only [Rep] at h; obtain ⟨_, b, h1, _⟩ := h; simpa only [underD, decide_eq_true_eq] using (List.getElem?_eq_some_iff.1 h1).1
  | .eref r _ off, v, h => by simp only [Rep] at h; obtain ⟨_, b, h1, _⟩ := h; simpa only [underD, decide_eq_true_eq] using (List.getElem?_eq_some_iff.1 h1).1
  | .osl r _ _ off, v, h => by simp only [Rep] at h; obtain ⟨_, b, h1, _⟩ := h; simpa only [underD, decide_eq_true_eq] using (List.getElem?_eq_some_iff.1 h1).1
  | .bsl r _ off, v, h => by simp only [Rep] at h; obtain ⟨_, b, h1, _⟩ := h; simpa only [underD, decide_eq_true_eq] using (List.getElem?_eq_some_iff.1 h1).1
  | .agg cs, v, h => by simp only [Rep] at h; obtain ⟨_, _, h3⟩ := h; simpa only [underD] using RepL.under h3
  | .tup cs, v, h => by simp only [Rep] at h; obtain ⟨_, _, h3⟩ := h; simpa only [underD] using RepL.under h3
  | .fn f a b, v, h => by simp only [Rep] at h; obtain ⟨_, _, _, h3, h4⟩ := h; simp only [underD, Bool.and_eq_true]; exact ⟨RepL.under h3, RepL.under h4⟩
  | .nilf, _, _ => rfl
  | .iface t d, v, h => by simp only [Rep] at h; obtain ⟨u, _, h2⟩ := h; simpa only [underD] using Rep.under h2
  | .nili, _, _ => rfl
theorem RepAt.under : ∀ {ds : List D} {b off : Nat}, RepAt m ah w ds b off → underL ah.length ds = true
  | [], _, _, _ => rfl
  | d :: ds, b, off, h => by
    simp only [RepAt] at h
    simp only [underL, Bool.and_eq_true]
    obtain ⟨_, ⟨u, _, h3⟩, h4⟩ := h
    exact ⟨Rep.under h3, RepAt.under h4⟩
theorem RepL.under : ∀ {ds : List D} {vs : List Value}, RepL m ah w ds vs → underL ah.length ds = true
  | [], _, _ => rfl
  | d :: ds, vs, h => by
    simp only [RepL] at h
    simp only [underL, Bool.and_eq_true]
    obtain ⟨u, us, _, h3, h4⟩ := h
    exact ⟨Rep.under h3, RepL.under h4⟩
 end

theorem HSim.under (hs : HSim m ah w) : ∀ blk ∈ ah, underB ah.length blk = true := by
  intro blk hb
  obtain ⟨r, hr, e⟩ := List.getElem_of_mem hb
  have := hs.blk r blk (by rw [List.getElem?_eq_getElem hr, e])
  cases blk with
  | free => rfl
  | dead => rfl
  | box cs => obtain ⟨_, _, _, _, _, h⟩ := this; simpa only [underB] using h.under
  | grow sz cs n => obtain ⟨_, _, _, _, _, _, _, _, h, _⟩ := this; simpa only [underB] using h.under
  | ice sz cs n => simpa only [underB] using this.1.under
  | icebox cs => exact RepAt.under this
end

end Go.Ytgokcidfclghpaa
