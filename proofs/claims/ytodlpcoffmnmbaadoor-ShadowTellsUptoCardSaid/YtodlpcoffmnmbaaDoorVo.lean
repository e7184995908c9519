/-
  Own work. The value machine, part O: a region whose order is open: which order is walked, and what is asked of it.
-/
import Derived.Test.YtodlpcoffmnmbaaDoorVn
namespace Go.YtodlpcoffmnmbaaDoor
open Go
set_option linter.unusedVariables false
set_option linter.unusedSimpArgs false

/-! ### operations to which the blocks are nothing; operations over more blocks -/
def AOp.isPure : AOp → Bool
  | .mv _ | .pick .. | .build .. | .bin .. | .eqb .. | .eqa .. | .un .. | .conv .. | .sstr .. | .fld .. | .ixv .. | .ixstr .. | .ext .. | .lit _ | .mnx .. | .mkfn .. | .ixb .. => true
  | .len str _ => str
  | _ => false

theorem aop_pure {o : AOp} (hp : o.isPure = true) {t : List D} {h h' : Heap} {d : D} (ha : aop o t h = some (d, h')) (h1 : Heap) : ∃ h2, aop o t h1 = some (d, h2) := by
  cases o <;> simp only [AOp.isPure, Bool.false_eq_true] at hp
  case len str x =>
    subst hp
    simp only [aop] at ha ⊢
    by_cases hs : (ev t x).sortOf = strSort true
    · rw [if_pos hs] at ha ⊢
      cases hx : ev t x <;> rw [hx] at ha hs <;> first | (simp [D.sortOf, strSort] at hs; done) | (simp [lenD, slLen] at ha; done) | (simp [lenD] at ha ⊢; exact ha.1)
    · rw [if_neg hs] at ha; cases ha
  case ixstr x i =>
    simp only [aop] at ha ⊢
    split at ha
    · rename_i s k j _ _
      by_cases hj : 0 ≤ j
      · rw [if_pos hj] at ha ⊢
        simp only [Option.map_eq_some_iff, Prod.mk.injEq] at ha ⊢
        obtain ⟨a, e1, e2, _⟩ := ha
        exact ⟨_, a, e1, e2, rfl⟩
      · rw [if_neg hj] at ha; cases ha
    · cases ha
  case mv x => simp only [aop, Option.some.injEq, Prod.mk.injEq] at ha ⊢; exact ⟨_, ha.1, rfl⟩
  case lit x => simp only [aop, Option.some.injEq, Prod.mk.injEq] at ha ⊢; exact ⟨_, ha.1, rfl⟩
  case mkfn x => simp only [aop, Option.some.injEq, Prod.mk.injEq] at ha ⊢; exact ⟨_, ha.1, rfl⟩
  all_goals
    simp only [aop] at ha ⊢
    try split at ha
    all_goals first | (cases ha; done) | skip
    all_goals try simp only [Option.map_eq_some_iff, Option.bind_eq_some_iff, Option.some.injEq, Prod.mk.injEq] at ha ⊢
    all_goals first
      | exact ⟨h1, ha.1, rfl⟩
      | (obtain ⟨a, e1, e2, _⟩ := ha; exact ⟨h1, a, e1, e2, rfl⟩)
      | (obtain ⟨a, e1, b, e2, e3, _⟩ := ha; exact ⟨h1, a, e1, b, e2, e3, rfl⟩)
      | (obtain ⟨a, e1, b, e2, c, e3, e4, _⟩ := ha; exact ⟨h1, a, e1, b, e2, c, e3, e4, rfl⟩)

theorem get_more {h L : Heap} {r : Nat} {b : Blk} (hb : h[r]? = some b) : (h ++ L)[r]? = some b := by
  rw [List.getElem?_append_left (List.getElem?_eq_some_iff.1 hb).1]; exact hb

section more
variable {h L : Heap} {x d : D} {sz : Nat}
theorem ptrCells_more {cs : List D} (hx : ptrCells h x = some cs) : ptrCells (h ++ L) x = some cs := by
  cases x with
  | ref r off => simp only [ptrCells] at hx ⊢; cases hb : h[r]? with | none => simp [hb] at hx | some b => rw [hb] at hx; rw [get_more hb]; exact hx
  | eref r n off => simp only [ptrCells] at hx ⊢; cases hb : h[r]? with | none => simp [hb] at hx | some b => rw [hb] at hx; rw [get_more hb]; exact hx
  | _ => first | exact hx | (simp [ptrCells] at hx)
theorem slCells_more {p : List D × Nat} (hx : slCells h sz x = some p) : slCells (h ++ L) sz x = some p := by
  cases x with
  | own r n => simp only [slCells] at hx ⊢; cases hb : h[r]? with | none => simp [hb] at hx | some b => rw [hb] at hx; rw [get_more hb]; exact hx
  | osl r n off k => simp only [slCells] at hx ⊢; cases hb : h[r]? with | none => simp [hb] at hx | some b => rw [hb] at hx; rw [get_more hb]; exact hx
  | bsl r off k => simp only [slCells] at hx ⊢; cases hb : h[r]? with | none => simp [hb] at hx | some b => rw [hb] at hx; rw [get_more hb]; exact hx
  | _ => first | exact hx | (simp [slCells] at hx)
theorem slLen_more {n : Nat} (hx : slLen h x = some n) : slLen (h ++ L) x = some n := by
  cases x with
  | own r n => simp only [slLen] at hx ⊢; cases hb : h[r]? with | none => simp [hb] at hx | some b => rw [hb] at hx; rw [get_more hb]; exact hx
  | osl r n off k => simp only [slLen] at hx ⊢; cases hb : h[r]? with | none => simp [hb] at hx | some b => rw [hb] at hx; rw [get_more hb]; exact hx
  | bsl r off k => simp only [slLen] at hx ⊢; cases hb : h[r]? with | none => simp [hb] at hx | some b => rw [hb] at hx; rw [get_more hb]; exact hx
  | _ => first | exact hx | (simp [slLen] at hx)
theorem lenD_more {n : Nat} (hx : lenD h x = some n) : lenD (h ++ L) x = some n := by
  cases x with
  | str s => exact hx
  | _ => simp only [lenD] at hx ⊢; exact slLen_more hx
theorem fieldAddr_more {off : Nat} (hx : fieldAddr h off x = some d) : fieldAddr (h ++ L) off x = some d := by
  cases x with
  | ref r o => simp only [fieldAddr] at hx ⊢; cases hb : h[r]? with | none => simp [hb] at hx | some b => rw [hb] at hx; rw [get_more hb]; exact hx
  | eref r n o => simp only [fieldAddr] at hx ⊢; cases hb : h[r]? with | none => simp [hb] at hx | some b => rw [hb] at hx; rw [get_more hb]; exact hx
  | _ => first | exact hx | (simp [fieldAddr] at hx)
theorem isNil_more {b : Bool} (hx : isNil h x = some b) : isNil (h ++ L) x = some b := by
  cases x <;> simp only [isNil, Option.map_eq_some_iff] at hx ⊢
  case ref => obtain ⟨a, h1, h2⟩ := hx; exact ⟨a, fieldAddr_more h1, h2⟩
  case eref => obtain ⟨a, h1, h2⟩ := hx; exact ⟨a, fieldAddr_more h1, h2⟩
  all_goals first | exact hx | (obtain ⟨a, h1, h2⟩ := hx; exact ⟨a, slLen_more h1, h2⟩)
theorem elemAddr_more {i : D} (hx : elemAddr h sz x i = some d) : elemAddr (h ++ L) sz x i = some d := by
  cases x with
  | own r n => simp only [elemAddr] at hx ⊢; cases hb : h[r]? with | none => simp [hb] at hx | some b => rw [hb] at hx; rw [get_more hb]; exact hx
  | osl r n off k => simp only [elemAddr] at hx ⊢; cases hb : h[r]? with | none => simp [hb] at hx | some b => rw [hb] at hx; rw [get_more hb]; exact hx
  | bsl r off k => simp only [elemAddr] at hx ⊢; cases hb : h[r]? with | none => simp [hb] at hx | some b => rw [hb] at hx; rw [get_more hb]; exact hx
  | _ => first | exact hx | (simp [elemAddr] at hx)
theorem subSl_more {lo hi : Option D} (hx : subSl h sz x lo hi = some d) : subSl (h ++ L) sz x lo hi = some d := by
  cases x with
  | own r n => simp only [subSl] at hx ⊢; cases hb : h[r]? with | none => simp [hb] at hx | some b => rw [hb] at hx; rw [get_more hb]; exact hx
  | osl r n off k => simp only [subSl] at hx ⊢; cases hb : h[r]? with | none => simp [hb] at hx | some b => rw [hb] at hx; rw [get_more hb]; exact hx
  | bsl r off k => simp only [subSl] at hx ⊢; cases hb : h[r]? with | none => simp [hb] at hx | some b => rw [hb] at hx; rw [get_more hb]; exact hx
  | _ => first | exact hx | (simp [subSl] at hx)
theorem mapEs_more {es : List (D × D)} (hx : mapEs h x = some es) : mapEs (h ++ L) x = some es := by
  cases x with
  | mref r => simp only [mapEs] at hx ⊢; cases hb : h[r]? with | none => simp [hb] at hx | some b => rw [hb] at hx; rw [get_more hb]; exact hx
  | _ => first | exact hx | (simp [mapEs] at hx)
end more

theorem aop_more {o : AOp} (hq : o.quiet = true) {t : List D} {h h' : Heap} {d : D} (ha : aop o t h = some (d, h')) (L : Heap) : ∃ h2, aop o t (h ++ L) = some (d, h2) := by
  by_cases hp : o.isPure = true
  · exact aop_pure hp ha _
  cases o <;> first | (exact absurd rfl hp) | (simp [AOp.quiet] at hq; done) | skip
  case len str x =>
    simp only [aop] at ha ⊢
    by_cases hs : (ev t x).sortOf = strSort str
    · rw [if_pos hs] at ha ⊢
      simp only [Option.map_eq_some_iff, Prod.mk.injEq] at ha ⊢
      obtain ⟨a, e1, e2, _⟩ := ha
      exact ⟨_, a, lenD_more e1, e2, rfl⟩
    · rw [if_neg hs] at ha; cases ha
  case isnil neg s x =>
    simp only [aop] at ha ⊢
    by_cases hs : (ev t x).sortOf = s
    · rw [if_pos hs] at ha ⊢
      simp only [Option.map_eq_some_iff, Prod.mk.injEq] at ha ⊢
      obtain ⟨a, e1, e2, _⟩ := ha
      exact ⟨_, a, isNil_more e1, e2, rfl⟩
    · rw [if_neg hs] at ha; cases ha
  case load ag x =>
    simp only [aop, Option.bind_eq_some_iff, Option.map_eq_some_iff, Prod.mk.injEq] at ha ⊢
    obtain ⟨a, e1, b, e2, e3, _⟩ := ha
    exact ⟨_, a, ptrCells_more e1, b, e2, e3, rfl⟩
  case nilchk x =>
    simp only [aop] at ha ⊢
    split at ha
    · simp only [Option.map_eq_some_iff, Prod.mk.injEq] at ha ⊢
      obtain ⟨a, e1, e2, _⟩ := ha
      exact ⟨_, a, fieldAddr_more e1, e2, rfl⟩
    · simp only [Option.map_eq_some_iff, Prod.mk.injEq] at ha ⊢
      obtain ⟨a, e1, e2, _⟩ := ha
      exact ⟨_, a, fieldAddr_more e1, e2, rfl⟩
    · simp only [Option.some.injEq, Prod.mk.injEq] at ha ⊢
      exact ⟨_, ha.1, rfl⟩
    · cases ha
  case b2s x =>
    simp only [aop, Option.bind_eq_some_iff, Option.map_eq_some_iff, Prod.mk.injEq] at ha ⊢
    obtain ⟨a, e1, b, e2, e3, _⟩ := ha
    exact ⟨_, a, slCells_more e1, b, e2, e3, rfl⟩
  case slc sz x lo hi =>
    simp only [aop, Option.map_eq_some_iff, Prod.mk.injEq] at ha ⊢
    obtain ⟨a, e1, e2, _⟩ := ha
    exact ⟨_, a, subSl_more e1, e2, rfl⟩
  case sarr n sz x lo hi =>
    simp only [aop] at ha ⊢
    split at ha
    · rename_i r off hx
      cases hb : h[r]? with
      | none => simp [hb] at ha
      | some b =>
        rw [hb] at ha
        rw [get_more hb]
        split at ha
        · simp only [Option.bind_eq_some_iff] at ha ⊢
          obtain ⟨b, e1, a, e2, e3⟩ := ha
          split at e3
          · rename_i han
            simp only [Option.some.injEq, Prod.mk.injEq] at e3 ⊢
            exact ⟨_, b, e1, a, e2, by rw [if_pos han, e3.1]⟩
          · rename_i han
            simp only [Option.some.injEq, Prod.mk.injEq] at e3 ⊢
            exact ⟨_, b, e1, a, e2, by rw [if_neg han, e3.1]⟩
        · simp only [Option.bind_eq_some_iff] at ha ⊢
          obtain ⟨b, e1, a, e2, e3⟩ := ha
          split at e3
          · rename_i han
            simp only [Option.some.injEq, Prod.mk.injEq] at e3 ⊢
            exact ⟨_, b, e1, a, e2, by rw [if_pos han, e3.1]⟩
          · rename_i han
            simp only [Option.some.injEq, Prod.mk.injEq] at e3 ⊢
            exact ⟨_, b, e1, a, e2, by rw [if_neg han, e3.1]⟩
        · cases ha
    · simp only [Option.bind_eq_some_iff, Option.map_eq_some_iff, Prod.mk.injEq] at ha ⊢
      obtain ⟨b, e1, a, e2, e3, _⟩ := ha
      exact ⟨_, b, e1, a, e2, e3, rfl⟩
    · cases ha
  case slc0 sz x =>
    simp only [aop] at ha ⊢
    split at ha
    · simp only [Option.some.injEq, Prod.mk.injEq] at ha ⊢
      exact ⟨_, ha.1, rfl⟩
    · simp only [Option.map_eq_some_iff, Prod.mk.injEq] at ha ⊢
      obtain ⟨a, e1, e2, _⟩ := ha
      exact ⟨_, a, slLen_more e1, e2, rfl⟩
  case faddr off x =>
    simp only [aop, Option.map_eq_some_iff, Prod.mk.injEq] at ha ⊢
    obtain ⟨a, e1, e2, _⟩ := ha
    exact ⟨_, a, fieldAddr_more e1, e2, rfl⟩
  case ixs sz x i =>
    simp only [aop, Option.map_eq_some_iff, Prod.mk.injEq] at ha ⊢
    obtain ⟨a, e1, e2, _⟩ := ha
    exact ⟨_, a, elemAddr_more e1, e2, rfl⟩
  case s2a n sz x =>
    simp only [aop, Option.bind_eq_some_iff, Option.map_eq_some_iff, Prod.mk.injEq] at ha ⊢
    obtain ⟨b, e0, a, e1, e2, _⟩ := ha
    exact ⟨_, b, elemAddr_more e0, a, elemAddr_more e1, e2, rfl⟩
  case ixa n sz x i =>
    simp only [aop, Option.bind_eq_some_iff, Option.map_eq_some_iff, Prod.mk.injEq] at ha ⊢
    obtain ⟨a, e1, b, e2, e3, _⟩ := ha
    exact ⟨_, a, e1, b, fieldAddr_more e2, e3, rfl⟩
  case mapget z x i =>
    simp only [aop] at ha ⊢
    split at ha
    · simp only [Option.bind_eq_some_iff, Option.map_eq_some_iff, Prod.mk.injEq] at ha ⊢
      obtain ⟨a, e1, b, e2, e3, _⟩ := ha
      exact ⟨_, a, mapEs_more e1, b, e2, e3, rfl⟩
    · cases ha
  case maplen x =>
    simp only [aop, Option.map_eq_some_iff, Prod.mk.injEq] at ha ⊢
    obtain ⟨a, e1, e2, _⟩ := ha
    exact ⟨_, a, mapEs_more e1, e2, rfl⟩

theorem guardK_both {t : List D} {g : Option (Nat × Bool)} {a b c e : Prop} (h1 : guardK t g a b) (h2 : guardK t g c e) : guardK t g (a ∧ c) (b ∧ e) := by
  cases g with
  | none => exact ⟨h1, h2⟩
  | some p =>
    obtain ⟨s, v⟩ := p
    simp only [guardK] at h1 h2 ⊢
    generalize t.getD s .any = q at h1 h2 ⊢
    cases q with
    | bool c' => exact ⟨fun e => ⟨h1.1 e, h2.1 e⟩, fun e => ⟨h1.2 e, h2.2 e⟩⟩
    | tup l => cases l with
      | nil => exact ⟨h1, h2⟩
      | cons x l => exact h1.elim
    | _ => exact h1.elim

/-! ### what must come ahead of what -/
def rowOf (acc : List Nat) (l : List Edge) : Nat := l.foldl (fun m e => if Region.binds .any e then m ||| 2 ^ e.on ||| acc.getD e.on 0 else m) 0
def clos (ops : List Oper) : List Nat := ops.foldl (fun acc o => acc ++ [rowOf acc o.after.toList]) []
def bef (cl : List Nat) (i j : Nat) : Bool := (cl.getD i 0).testBit j

theorem rowOf_spec (acc : List Nat) (j : Nat) : ∀ (l : List Edge) (m : Nat), (l.foldl (fun m e => if Region.binds .any e then m ||| 2 ^ e.on ||| acc.getD e.on 0 else m) m).testBit j = true →
    m.testBit j = true ∨ ∃ e ∈ l, Region.binds .any e = true ∧ (j = e.on ∨ (acc.getD e.on 0).testBit j = true)
  | [], m, h => .inl h
  | e :: l, m, h => by
    rw [List.foldl_cons] at h
    rcases rowOf_spec acc j l _ h with h1 | ⟨e', h1, h2, h3⟩
    · split at h1
      · rename_i hb
        simp only [Nat.testBit_or, Bool.or_eq_true, Nat.testBit_two_pow, decide_eq_true_eq] at h1
        rcases h1 with (h1 | h1) | h1
        · exact .inl h1
        · exact .inr ⟨e, by simp, hb, .inl h1.symm⟩
        · exact .inr ⟨e, by simp, hb, .inr h1⟩
      · exact .inl h1
    · exact .inr ⟨e', by simp [h1], h2, h3⟩

theorem getD_app {l r : List Nat} {i : Nat} (h : i < l.length) : (l ++ r).getD i 0 = l.getD i 0 := by
  simp [List.getD_eq_getElem?_getD, List.getElem?_append_left h]
theorem clos_snoc (l : List Oper) (o : Oper) : clos (l ++ [o]) = clos l ++ [rowOf (clos l) o.after.toList] := by simp [clos]
theorem rev_ind {α : Type} {p : List α → Prop} (h0 : p []) (h1 : ∀ l a, p l → p (l ++ [a])) : ∀ (n : Nat) (l : List α), l.length = n → p l
  | 0, l, h => by rw [List.length_eq_zero_iff.1 h]; exact h0
  | n + 1, l, h => by
    have hne : l ≠ [] := by intro e; subst e; simp at h
    rw [← List.dropLast_concat_getLast hne]
    exact h1 _ _ (rev_ind h0 h1 n _ (by simp [h]))
theorem clos_len (l : List Oper) : (clos l).length = l.length := by
  refine rev_ind (p := fun l => (clos l).length = l.length) rfl (fun l o ih => ?_) _ l rfl
  rw [clos_snoc]; simp [ih]
theorem clos_get : ∀ (l : List Oper) (i : Nat) (o : Oper), l[i]? = some o → (∀ e ∈ o.after, Region.binds .any e = true → e.on < i) → ∀ j, bef (clos l) i j = true →
    ∃ e ∈ o.after, Region.binds .any e = true ∧ (j = e.on ∨ bef (clos l) e.on j = true) := by
  intro l
  refine rev_ind (p := fun l => ∀ (i : Nat) (o : Oper), l[i]? = some o → (∀ e ∈ o.after, Region.binds .any e = true → e.on < i) → ∀ j, bef (clos l) i j = true →
    ∃ e ∈ o.after, Region.binds .any e = true ∧ (j = e.on ∨ bef (clos l) e.on j = true)) (by intro i o h; simp at h) (fun l o' ih => ?_) _ l rfl
  · intro i o h hlt j hb
    have hlen := clos_len l
    rw [clos_snoc] at hb ⊢
    by_cases hi : i < l.length
    · rw [List.getElem?_append_left hi] at h
      have e1 : ∀ q, q < l.length → ∀ j, bef (clos l ++ [rowOf (clos l) o'.after.toList]) q j = bef (clos l) q j := by
        intro q hq j
        unfold bef
        rw [getD_app (by omega)]
      rw [e1 i hi] at hb
      obtain ⟨e, h1, h2, h3⟩ := ih i o h hlt j hb
      refine ⟨e, h1, h2, ?_⟩
      rw [e1 e.on (by have := hlt e h1 h2; omega)]
      exact h3
    · rw [List.getElem?_append_right (by omega)] at h
      have hi0 : i = l.length := by
        have := (List.getElem?_eq_some_iff.1 h).1
        simp at this; omega
      subst hi0
      simp at h
      subst h
      have e0 : (clos l ++ [rowOf (clos l) o'.after.toList]).getD l.length 0 = rowOf (clos l) o'.after.toList := by
        rw [← hlen]; simp [List.getD_eq_getElem?_getD]
      unfold bef at hb
      rw [e0] at hb
      rcases rowOf_spec _ j _ _ hb with h1 | ⟨e, h1, h2, h3⟩
      · simp at h1
      · refine ⟨e, by simpa using h1, h2, ?_⟩
        rcases h3 with h3 | h3
        · exact .inl h3
        · right
          unfold bef
          rw [getD_app (by have := hlt e (by simpa using h1) h2; omega)]
          exact h3

/-! ### the order that is walked -/
def apart (x y : Option Nat) : Bool :=
  match x, y with
  | some a, some b => a != b
  | _, _ => true
def stA (ss : List AStm) (i : Nat) : AStm := ss.getD i (.op none none (.lit .any))
def AStm.kind : AStm → Nat
  | .op (some _) none (.alloc _) => 1
  | .op _ none o => if o.quiet then 0 else 2
  | .op _ _ o => if o.quiet then 0 else 3
  | .call .. => 0
  | .callW .. => 2
  | _ => 3
/-- Is it one that changes no block but by a store? -/
def AStm.mild : AStm → Bool
  | .op none none (.store ..) => true
  | .op _ none o => o.quiet
  | _ => true
def isQ (ss : List AStm) (i : Nat) : Bool := (stA ss i).kind == 0
def isA (ss : List AStm) (i : Nat) : Bool := (stA ss i).kind == 1
def isS (ss : List AStm) (i : Nat) : Bool := (stA ss i).kind == 2
def AStm.isCall : AStm → Bool
  | .call .. => true
  | _ => false
/-- As it is walked ahead of allocations: calls for whatever further blocks. -/
def hq (all : Bool) : AStm → AStm
  | .call d g f a => if all then .callL d g f a else .call d g f a
  | s => s
/-- What is asked anew behind a store: it has the same answer there. -/
def chkOf (cl : List Nat) (s q : Nat) : AStm → Option AStm
  | .op (some d) g o => if o.isPure || bef cl s q then none else some (.chk d g o)
  | _ => none
def laH (ss : List AStm) (cl : List Nat) : List Nat → List Nat → List AStm
  | _, [] => []
  | past, i :: r => if isS ss i then stA ss i :: ((past.filter (isQ ss)).filterMap (fun q => chkOf cl i q (stA ss q)) ++ laH ss cl (past ++ [i]) r) else stA ss i :: laH ss cl (past ++ [i]) r

structure Lay where
  (EA AL MI LA : List Nat)
def layOf (ss : List AStm) (cl : List Nat) (k : Nat) : Lay :=
  let hs := List.range k
  let AL := hs.filter (isA ss)
  let SL := hs.filter (isS ss)
  let noS := fun i => SL.all fun s => !bef cl i s
  let noA := fun i => AL.all fun a => !bef cl i a
  ⟨hs.filter fun i => isQ ss i && noS i && noA i, AL, hs.filter fun i => isQ ss i && noS i && !noA i, hs.filter fun i => isS ss i || (isQ ss i && !noS i)⟩
def Lay.co (y : Lay) : List Nat := y.EA ++ y.AL ++ y.MI ++ y.LA
def Lay.heads (y : Lay) (ss : List AStm) (cl : List Nat) : List AStm :=
  (y.EA.map fun i => hq (!y.AL.isEmpty) (stA ss i)) ++ ((y.AL.map (stA ss)) ++ ((y.MI.map (stA ss)) ++ laH ss cl (y.EA ++ y.AL ++ y.MI) y.LA))

/-- Each stands behind what must come ahead of it. -/
def inOrder (cl : List Nat) (k : Nat) : List Nat → List Nat → Bool
  | _, [] => true
  | past, i :: r => ((List.range k).all fun j => (!bef cl i j || past.contains j) && (!past.contains j || !bef cl j i)) && !past.contains i && inOrder cl k (past ++ [i]) r
/-- Behind each store what is asked anew has its places as they were. -/
def chkSlots (ss : List AStm) (cl : List Nat) : List Nat → List Nat → Bool
  | _, [] => true
  | past, i :: r => (past.all fun s => !isS ss s || bef cl i s) && (!isS ss i || past.all fun q => bef cl i q || !isQ ss q || match stA ss q with
      | .op dst _ o => o.isPure || (dst.isSome && (stA ss q).slots.all fun x => apart (stA ss i).dst (some x) && past.all fun j => apart (stA ss j).dst (some x) || bef cl q j)
      | _ => false) && chkSlots ss cl (past ++ [i]) r
def planOk (ops : Array Oper) (ss : List AStm) (cl : List Nat) (k : Nat) (y : Lay) : Bool :=
  ((List.range k).all fun i => isQ ss i || isA ss i || isS ss i) &&
  ((List.range ss.length).all fun i => match ops[i]? with
    | some o => (o.after.all fun e => !Region.binds .any e || decide (e.on < i)) && (decide (i < k) || (List.range i).all fun j => bef cl i j)
    | none => false) &&
  ((List.range k).all fun i => y.co.contains i) && (y.co.all fun i => decide (i < k)) &&
  ((List.range k).all fun i => (List.range i).all fun j => apart (stA ss i).dst (stA ss j).dst) &&
  ((List.range k).all fun i => (stA ss i).slots.all fun x => (List.range k).all fun j => apart (stA ss j).dst (some x) || bef cl i j || bef cl j i || i == j) &&
  inOrder cl k [] y.co && chkSlots ss cl (y.EA ++ y.AL ++ y.MI) y.LA &&
  (y.EA.all fun i => isQ ss i) && (y.AL.all fun i => isA ss i) &&
  (y.MI.all fun i => isQ ss i && !(stA ss i).isCall && y.AL.all fun a => bef cl i a) &&
  (y.LA.all fun i => (y.AL.all fun a => bef cl i a) && (isS ss i || (isQ ss i && !(stA ss i).isCall)))

/-- The heads in the order that is walked, and what comes behind them one by one. -/
def planK (gen : Bool) (ops : Array Oper) (ss : List AStm) (cl : List Nat) (k : Nat) : Option (List AStm × List AStm) :=
  if ((List.range k).all fun i => isQ ss i || isA ss i || (isS ss i && (gen || (stA ss i).mild))) = true then
    if planOk ops ss cl k (layOf ss cl k) = true then some ((layOf ss cl k).heads ss cl, ss.drop k) else none
  else none
def planFrom (gen : Bool) (ops : Array Oper) (ss : List AStm) (cl : List Nat) : Nat → Option (List AStm × List AStm)
  | 0 => planK gen ops ss cl 0
  | k + 1 => match planK gen ops ss cl (k + 1) with
    | some p => some p
    | none => planFrom gen ops ss cl k
def plan (ops : Array Oper) (ss : List AStm) : Option (List AStm × List AStm) := if ops.size = ss.length then match planFrom false ops ss (clos ops.toList) ss.length with
    | some p => some p
    | none => planFrom true ops ss (clos ops.toList) ss.length
  else none
end Go.YtodlpcoffmnmbaaDoor
