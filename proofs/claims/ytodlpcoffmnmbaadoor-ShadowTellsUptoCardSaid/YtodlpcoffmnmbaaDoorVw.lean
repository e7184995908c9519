/-
  Own work. The value machine, part W: closed runs: the machine of plain data as a function, which Lean's kernel runs; and that what it answers is so.
-/
import Derived.Test.YtodlpcoffmnmbaaDoorVu
namespace Go.YtodlpcoffmnmbaaDoor
open Go
set_option linter.unusedVariables false
set_option linter.unusedSimpArgs false

 mutual
def beqD : D → D → Bool
  | .any, .any => true
  | .bool a, .bool b => a == b
  | .int k a, .int k' b => decide (k = k') && decide (a = b)
  | .str a, .str b => decide (a.data.toList = b.data.toList)
  | .nilp, .nilp => true
  | .fptr a, .fptr b => beqL a b
  | .ref a b, .ref c d => decide (a = c) && decide (b = d)
  | .nils, .nils => true
  | .sl a n f, .sl b k g => beqL a b && decide (n = k) && (f == g)
  | .own a b, .own c d => decide (a = c) && decide (b = d)
  | .eref a b x, .eref c d y => decide (a = c) && decide (b = d) && decide (x = y)
  | .osl a b x z, .osl c d y u => decide (a = c) && decide (b = d) && decide (x = y) && decide (z = u)
  | .bsl a b x, .bsl c d y => decide (a = c) && decide (b = d) && decide (x = y)
  | .agg a, .agg b => beqL a b
  | .tup a, .tup b => beqL a b
  | .fn f a b, .fn g c d => decide (f = g) && beqL a c && beqL b d
  | .nilf, .nilf => true
  | .iface t a, .iface u b => decide (t = u) && beqD a b
  | .nili, .nili => true
  | _, _ => false
def beqL : List D → List D → Bool
  | [], [] => true
  | a :: l, b :: r => beqD a b && beqL l r
  | _, _ => false
 end

 mutual
theorem beqD_eq : ∀ {a b : D}, beqD a b = true → a = b
  | .any, b, h => by cases b <;> simp_all [beqD]
  | .bool _, b, h => by cases b <;> simp_all [beqD]
  | .int _ _, b, h => by cases b <;> simp_all [beqD]
  | .str s, b, h => by
    cases b <;> simp_all [beqD]
    rename_i s'; cases s; cases s'; simp_all
  | .nilp, b, h => by cases b <;> simp_all [beqD]
  | .fptr l, b, h => by
    cases b <;> simp only [beqD, reduceCtorEq, Bool.false_eq_true] at h
    rw [beqL_eq h]
  | .ref _ _, b, h => by cases b <;> simp_all [beqD]
  | .nils, b, h => by cases b <;> simp_all [beqD]
  | .sl l _ _, b, h => by
    cases b <;> simp only [beqD, reduceCtorEq, Bool.false_eq_true, Bool.and_eq_true, decide_eq_true_eq, beq_iff_eq] at h
    rw [beqL_eq h.1.1, h.1.2, h.2]
  | .own _ _, b, h => by cases b <;> simp_all [beqD]
  | .eref _ _ _, b, h => by cases b <;> simp_all [beqD]
  | .osl _ _ _ _, b, h => by cases b <;> simp_all [beqD]
  | .bsl _ _ _, b, h => by cases b <;> simp_all [beqD]
  | .agg l, b, h => by
    cases b <;> simp only [beqD, reduceCtorEq, Bool.false_eq_true] at h
    rw [beqL_eq h]
  | .tup l, b, h => by
    cases b <;> simp only [beqD, reduceCtorEq, Bool.false_eq_true] at h
    rw [beqL_eq h]
  | .fn f l r, b, h => by
    cases b <;> simp only [beqD, reduceCtorEq, Bool.false_eq_true, Bool.and_eq_true, decide_eq_true_eq] at h
    rw [h.1.1, beqL_eq h.1.2, beqL_eq h.2]
  | .nilf, b, h => by cases b <;> simp_all [beqD]
  | .iface t d, b, h => by
    cases b <;> simp only [beqD, reduceCtorEq, Bool.false_eq_true, Bool.and_eq_true, decide_eq_true_eq] at h
    rw [h.1, beqD_eq h.2]
  | .nili, b, h => by cases b <;> simp_all [beqD]
theorem beqL_eq : ∀ {a b : List D}, beqL a b = true → a = b
  | [], [], _ => rfl
  | [], _ :: _, h => by simp [beqL] at h
  | _ :: _, [], h => by simp [beqL] at h
  | a :: l, b :: r, h => by
    simp only [beqL, Bool.and_eq_true] at h
    rw [beqD_eq h.1, beqL_eq h.2]
 end

def beqB : Blk → Blk → Bool
  | .free, .free => true
  | .dead, .dead => true
  | .box a, .box b => beqL a b
  | .icebox a, .icebox b => beqL a b
  | .grow s a n, .grow s' b n' => decide (s = s') && beqL a b && decide (n = n')
  | .ice s a n, .ice s' b n' => decide (s = s') && beqL a b && decide (n = n')
  | _, _ => false
theorem beqB_eq {a b : Blk} (h : beqB a b = true) : a = b := by
  cases a <;> cases b <;> simp only [beqB, reduceCtorEq, Bool.false_eq_true, Bool.and_eq_true, decide_eq_true_eq] at h <;> first | rfl | (rw [beqL_eq h]) | (rw [h.1.1, beqL_eq h.1.2, h.2])
def beqH : Heap → Heap → Bool
  | [], [] => true
  | a :: l, b :: r => beqB a b && beqH l r
  | _, _ => false
theorem beqH_eq : ∀ {a b : Heap}, beqH a b = true → a = b
  | [], [], _ => rfl
  | [], _ :: _, h => by simp [beqH] at h
  | _ :: _, [], h => by simp [beqH] at h
  | a :: l, b :: r, h => by
    simp only [beqH, Bool.and_eq_true] at h
    rw [beqB_eq h.1, beqH_eq h.2]

/-- Comparisons of texts by their lists. -/
def arithK (op : BinOp) : D → D → Option D
  | .str a, .str b => match op with
    | .eql => some (.bool (decide (a.data.toList = b.data.toList)))
    | .neq => some (.bool !(decide (a.data.toList = b.data.toList)))
    | .add => if a.size + b.size ≤ 9223372036854775807 then some (.str ⟨(a.data.toList ++ b.data.toList).toArray⟩) else none
    | op => arith op (.str a) (.str b)
  | x, y => arith op x y
theorem arithK_eq (op : BinOp) (x y : D) : arithK op x y = arith op x y := by
  unfold arithK
  split
  · rename_i a b
    have e : (a.toList == b.toList) = decide (a.data.toList = b.data.toList) := by
      rw [ByteArray.toList_eq, ByteArray.toList_eq]
      by_cases h : a.data.toList = b.data.toList
      · simp [h]
      · have h2 : ¬ a.data = b.data := fun h' => h (by rw [h'])
        simp [h, h2]
    split
    · simp [arith, e]
    · simp [arith, e]
    · simp only [arith]
      have e2 : (⟨(a.data.toList ++ b.data.toList).toArray⟩ : ByteArray) = a ++ b := by
        have := bs_append a.data.toList b.data.toList
        rw [← bs_of a, ← bs_of b] at this
        exact this.symm
      rw [e2]
    · rfl
  · rfl
def aopK (o : AOp) (t : List D) (h : Heap) : Option (D × Heap) :=
  match o with
  | .bin op x y => (arithK op (ev t x) (ev t y)).map fun d => (d, h)
  | .sstr x lo hi => match ev t x with
    | .str s => (bnd (hi.map (ev t)) s.size s.size).bind fun b => (bnd (lo.map (ev t)) 0 b).map fun a => (.str ⟨((s.data.toList.take b).drop a).toArray⟩, h)
    | _ => none
  | o => aop o t h
theorem aopK_eq (o : AOp) (t : List D) (h : Heap) : aopK o t h = aop o t h := by
  unfold aopK
  split
  · rw [arithK_eq]; rfl
  · simp only [aop]
    split
    · rename_i s heq
      have e2 : ∀ a b, (⟨((s.data.toList.take b).drop a).toArray⟩ : ByteArray) = s.extract a b := by
        intro a b
        have := bs_extract s.data.toList a b
        rw [← bs_of s] at this
        exact this.symm
      simp only [e2, heq]
    · rename_i hne
      split
      · rename_i s heq; exact absurd heq (hne s)
      · rfl
  · rfl

 mutual
/-- Does it lead to no block at all? -/
def flatD : D → Bool
  | .any | .bool _ | .int _ _ | .str _ | .nilp | .nils | .nilf | .nili => true
  | .agg cs | .tup cs => flatL cs
  | _ => false
def flatL : List D → Bool
  | [] => true
  | d :: ds => flatD d && flatL ds
 end
 mutual
theorem Rep.flat {m m' : Mu} {ah ah' : Heap} {w : World} : ∀ {d : D} {v : Value}, flatD d = true → Rep m ah w d v → Rep m' ah' w d v
  | .any, _, _, _ => by simp only [Rep]
  | .bool b, v, _, h => by simp only [Rep] at *; exact h
  | .int q n, v, _, h => by simp only [Rep] at *; exact h
  | .str s, v, _, h => by simp only [Rep] at *; exact h
  | .nilp, v, _, h => by simp only [Rep] at *; exact h
  | .nils, v, _, h => by simp only [Rep] at *; exact h
  | .nilf, v, _, h => by simp only [Rep] at *; exact h
  | .nili, v, _, h => by simp only [Rep] at *; exact h
  | .agg cs, v, hf, h => by
    simp only [Rep, flatD] at *
    obtain ⟨vs, h1, h2⟩ := h
    exact ⟨vs, h1, RepL.flat hf h2⟩
  | .tup cs, v, hf, h => by
    simp only [Rep, flatD] at *
    obtain ⟨vs, h1, h2⟩ := h
    exact ⟨vs, h1, RepL.flat hf h2⟩
  | .fptr _, _, hf, _ | .ref _ _, _, hf, _ | .sl _ _ _, _, hf, _ | .own _ _, _, hf, _ | .eref _ _ _, _, hf, _ | .osl _ _ _ _, _, hf, _ | .bsl _ _ _, _, hf, _ | .fn _ _ _, _, hf, _ | .iface _ _, _, hf, _ => by simp [flatD] at hf
theorem RepL.flat {m m' : Mu} {ah ah' : Heap} {w : World} : ∀ {ds : List D} {vs : List Value}, flatL ds = true → RepL m ah w ds vs → RepL m' ah' w ds vs
  | [], _, _, h => by simp only [RepL] at *; exact h
  | d :: ds, vs, hf, h => by
    simp only [RepL, flatL, Bool.and_eq_true] at *
    obtain ⟨u, us, h1, h2, h3⟩ := h
    exact ⟨u, us, h1, Rep.flat hf.1 h2, RepL.flat hf.2 h3⟩
 end

theorem GV_under : ∀ p ∈ GV, underL 0 p.2 = true := by simp [GV, underL, underD]
/-- Whatever blocks there are beside. -/
theorem FC.frame {P : Program} {f : FuncId} {args : List D} {d0 : D} (hc : FC P f args [] fun d _ => d = d0) (hd : flatD d0 = true) (hu : underL 0 args = true) (h : Heap) : FC P f args h fun d h' => d = d0 ∧ h' = h := by
  refine ⟨hc.1, fun m w vs hs hr => ?_⟩
  have hp : Part 0 m m h [] := ⟨fun r hr => by omega, fun b hb => by obtain ⟨r, blk, h1, _⟩ := hb; simp at h1⟩
  have hs0 : HSim m [] w := ⟨fun r r' b b' h => by simp at h, fun r b h => by simp at h, fun p hq => RepAt.part hp (GV_under p hq) (hs.glob p hq)⟩
  refine (hc.2 m w vs hs0 (RepL.part hp hu hr)).mono ?_
  rintro e w' ⟨v, m', d, h', rfl, _, h2, h3, rfl⟩
  have hno : ∀ b, ¬ Owned m [] b := by rintro b ⟨r, blk, h1, _⟩; simp at h1
  have he : Evo m h w m h w' := by
    refine ⟨h3.os, h3.tape, h3.output, h3.size, fun b hb ho => ⟨ho, (h3.keep b hb (hno b)).2⟩, fun r b hb => ⟨b, hb, BStep.refl m r b⟩⟩
  refine ⟨v, m, d, h, rfl, ⟨hs.inj, fun r blk hb => ?_, fun p hq => (hs.glob p hq).evo he⟩, h2.flat hd, he, rfl, rfl⟩
  have h1 := hs.blk r blk hb
  have hk : blk.owned = true → w'.heap[(m r).1]? = w.heap[(m r).1]? := by
    intro ho
    exact (h3.keep _ (Owned.lt hs ⟨r, blk, hb, ho, rfl⟩) (hno _)).2
  exact h1.evo he rfl hk

def gB (t : List D) (g : Option (Nat × Bool)) : Option Bool :=
  match g with
  | none => some true
  | some (s, b) => match t.getD s .any with
    | .bool c => some (c == b)
    | .tup [] => some false
    | _ => none
theorem gB_yes {t : List D} {g : Option (Nat × Bool)} {yes no : Prop} (h : gB t g = some true) (hy : yes) : guardK t g yes no := by
  unfold gB at h; unfold guardK
  split at h
  · exact hy
  · split at h
    · simp only [Option.some.injEq, beq_iff_eq] at h
      simp_all
    · simp at h
    · simp at h
theorem gB_no {t : List D} {g : Option (Nat × Bool)} {yes no : Prop} (h : gB t g = some false) (hn : no) : guardK t g yes no := by
  unfold gB at h; unfold guardK
  split at h
  · simp at h
  · split at h
    · simp only [Option.some.injEq, beq_eq_false_iff_ne] at h
      simp_all
    · simp_all
    · simp at h

abbrev Callee := FuncId → List D → Heap → Option (D × Heap)
def callK (F : Callee) (f : D) (args : List D) (h : Heap) : Option (D × Heap) :=
  match f with
  | .fn (.func i) first cap => F i (first ++ args ++ cap) h
  | _ => none

def sregs (F : Callee) : List AStm → St → Option St
  | [], st => some st
  | .op dst g o :: rest, st => match gB st.t g with
    | some true => match aopK o st.t st.h with
      | some (d, h') => sregs F rest ⟨setD st.t dst d, h'⟩
      | none => none
    | some false => sregs F rest ⟨setD st.t dst (.tup []), st.h⟩
    | none => none
  | .call dst g f args :: rest, st => match gB st.t g with
    | some true => match callK F (ev st.t f) (args.map (ev st.t)) st.h with
      | some (d, h') => sregs F rest ⟨setD st.t dst d, h'⟩
      | none => none
    | some false => sregs F rest ⟨setD st.t dst (.tup []), st.h⟩
    | none => none
  | .callL .. :: _, _ => none
  | .callW .. :: _, _ => none
  | .callG dst g f args :: rest, st => match gB st.t g with
    | some true => match callK F (ev st.t f) (args.map (ev st.t)) st.h with
      | some (d, h') => if beqH (h'.take st.h.length) st.h = true then sregs F rest ⟨setD st.t dst d, h'⟩ else none
      | none => none
    | some false => sregs F rest ⟨setD st.t dst (.tup []), st.h⟩
    | none => none
  | .chk .. :: _, _ => none
def sheads (F : Callee) : List AStm → St → Option St
  | [], st => some st
  | .op dst g o :: rest, st => match gB st.t g with
    | some true => match aopK o st.t st.h with
      | some (d, h') => sheads F rest ⟨setD st.t dst d, h'⟩
      | none => none
    | some false => sheads F rest ⟨setD st.t dst (.tup []), st.h⟩
    | none => none
  | .call dst g f args :: rest, st => match gB st.t g with
    | some true => match callK F (ev st.t f) (args.map (ev st.t)) st.h with
      | some (d, h') => if beqH h' st.h = true then sheads F rest ⟨setD st.t dst d, st.h⟩ else none
      | none => none
    | some false => sheads F rest ⟨setD st.t dst (.tup []), st.h⟩
    | none => none
  | .callL dst g f args :: rest, st => match gB st.t g with
    | some true => if underL 0 (ev st.t f :: args.map (ev st.t)) = true then match callK F (ev st.t f) (args.map (ev st.t)) [] with
      | some (d, _) => if flatD d = true then sheads F rest ⟨setD st.t dst d, st.h⟩ else none
      | none => none
      else none
    | some false => sheads F rest ⟨setD st.t dst (.tup []), st.h⟩
    | none => none
  | .callG .. :: _, _ => none
  | .callW .. :: _, _ => none
  | .chk dst g o :: rest, st => match gB st.t g with
    | some true => match aopK o st.t st.h with
      | some (d, _) => if beqD d (st.t.getD dst .any) = true then sheads F rest st else none
      | none => none
    | some false => sheads F rest st
    | none => none

def CallOk (P : Program) (F : Callee) : Prop := ∀ f args h d h', F f args h = some (d, h') → FC P f args h fun d' h'' => d' = d ∧ h'' = h'
section
variable {P : Program} {F : Callee}
theorem callK_ok (hF : CallOk P F) {f : D} {args : List D} {h h' : Heap} {d : D} (hc : callK F f args h = some (d, h')) : CallK P f args h fun d' h'' => d' = d ∧ h'' = h' := by
  unfold callK at hc; unfold CallK
  split at hc
  · exact hF _ _ _ _ _ hc
  · cases hc
theorem CallK.mono {f : D} {args : List D} {h : Heap} {R R' : D → Heap → Prop} (hc : CallK P f args h R) (hr : ∀ d h', R d h' → R' d h') : CallK P f args h R' := by
  unfold CallK at hc ⊢
  split at hc
  · exact hc.mono hr
  · exact hc.mono hr
  · exact hc.elim
theorem sregs_ok (hF : CallOk P F) : ∀ {ss : List AStm} {st st' : St} {K : St → Prop}, sregs F ss st = some st' → K st' → aregs P ss st K
  | [], st, st', K, h, hk => by
    simp only [sregs, Option.some.injEq] at h; subst h; exact hk
  | .op dst g o :: rest, st, st', K, h, hk => by
    simp only [sregs] at h
    simp only [aregs]
    split at h
    · rename_i hg
      split at h
      · rename_i d h' ha
        rw [aopK_eq] at ha
        exact gB_yes hg ⟨(d, h'), ha, sregs_ok hF h hk⟩
      · cases h
    · rename_i hg
      exact gB_no hg (sregs_ok hF h hk)
    · cases h
  | .call dst g f args :: rest, st, st', K, h, hk => by
    simp only [sregs] at h
    simp only [aregs]
    split at h
    · rename_i hg
      split at h
      · rename_i d h' ha
        refine gB_yes hg ((callK_ok hF ha).mono ?_)
        rintro d' h'' ⟨rfl, rfl⟩
        exact sregs_ok hF h hk
      · cases h
    · rename_i hg
      exact gB_no hg (sregs_ok hF h hk)
    · cases h
  | .callL dst g f args :: rest, st, st', K, h, hk => by simp [sregs] at h
  | .callW dst f args :: rest, st, st', K, h, hk => by simp [sregs] at h
  | .callG dst g f args :: rest, st, st', K, h, hk => by
    simp only [sregs] at h
    simp only [aregs]
    split at h
    · rename_i hg
      split at h
      · rename_i d h' ha
        split at h
        · rename_i hb
          have hb := beqH_eq hb
          refine gB_yes hg ((callK_ok hF ha).mono ?_)
          rintro d' h'' ⟨rfl, rfl⟩
          have e := List.take_append_drop st.h.length h''
          rw [hb] at e
          exact ⟨⟨_, e.symm⟩, sregs_ok hF h hk⟩
        · cases h
      · cases h
    · rename_i hg
      exact gB_no hg (sregs_ok hF h hk)
    · cases h
  | .chk dst g o :: rest, st, st', K, h, hk => by simp [sregs] at h
theorem sheads_ok (hF : CallOk P F) : ∀ {ss : List AStm} {st st' : St} {K : St → Prop}, sheads F ss st = some st' → K st' → aheads P ss st K
  | [], st, st', K, h, hk => by
    simp only [sheads, Option.some.injEq] at h; subst h; exact hk
  | .op dst g o :: rest, st, st', K, h, hk => by
    simp only [sheads] at h
    simp only [aheads]
    split at h
    · rename_i hg
      split at h
      · rename_i d h' ha
        rw [aopK_eq] at ha
        exact gB_yes hg ⟨(d, h'), ha, sheads_ok hF h hk⟩
      · cases h
    · rename_i hg
      exact gB_no hg (sheads_ok hF h hk)
    · cases h
  | .call dst g f args :: rest, st, st', K, h, hk => by
    simp only [sheads] at h
    simp only [aheads]
    split at h
    · rename_i hg
      split at h
      · rename_i d h' ha
        split at h
        · rename_i hb
          have hb := beqH_eq hb
          subst hb
          exact gB_yes hg ⟨d, callK_ok hF ha, sheads_ok hF h hk⟩
        · cases h
      · cases h
    · rename_i hg
      exact gB_no hg (sheads_ok hF h hk)
    · cases h
  | .callG dst g f args :: rest, st, st', K, h, hk => by simp [sheads] at h
  | .callW dst f args :: rest, st, st', K, h, hk => by simp [sheads] at h
  | .callL dst g f args :: rest, st, st', K, h, hk => by
    simp only [sheads] at h
    simp only [aheads]
    split at h
    · rename_i hg
      split at h
      · rename_i hu
        split at h
        · rename_i d h' ha
          split at h
          · rename_i hfl
            refine gB_yes hg ⟨d, fun L => ?_, sheads_ok hF h hk⟩
            have hc := callK_ok hF ha
            unfold CallK at hc ⊢
            split at hc
            · rename_i i first cap hfn
              rw [hfn] at hu
              refine FC.frame (hc.mono fun d' h'' he => he.1) hfl ?_ _
              simp only [underL, underD, Bool.and_eq_true] at hu
              have app : ∀ a b : List D, underL 0 a = true → underL 0 b = true → underL 0 (a ++ b) = true := by
                intro a b ha hb
                induction a with
                | nil => exact hb
                | cons x a ih => simp only [List.cons_append, underL, Bool.and_eq_true] at ha ⊢; exact ⟨ha.1, ih ha.2⟩
              exact app _ _ (app _ _ hu.1.1 hu.2) hu.1.2
            · obtain ⟨_, _, _, _, hb, _⟩ := hc
              simp at hb
            · exact hc.elim
          · cases h
        · cases h
      · cases h
    · rename_i hg
      exact gB_no hg (sheads_ok hF h hk)
    · cases h
  | .chk dst g o :: rest, st, st', K, h, hk => by
    simp only [sheads] at h
    simp only [aheads]
    split at h
    · rename_i hg
      split at h
      · rename_i d h' ha
        rw [aopK_eq] at ha
        split at h
        · rename_i hb
          exact ⟨gB_yes hg ⟨(d, h'), ha, beqD_eq hb⟩, sheads_ok hF h hk⟩
        · cases h
      · cases h
    · rename_i hg
      exact ⟨gB_no hg trivial, sheads_ok hF h hk⟩
    · cases h
end

/-- What is handed back, without the blocks that nobody will see. -/
def trim (h : Heap) (d : D) (h' : Heap) : D × Heap :=
  if underD h.length d && decide (h.length ≤ h'.length) && (h'.take h.length).all (underB h.length) then (d, h'.take h.length) else (d, h')
theorem trim_ok {h h' : Heap} {ds : List D} {R : D → Heap → Prop} (hr : R (trim h (packD ds) h').1 (trim h (packD ds) h').2) : FinOk h h' ds R := by
  unfold trim at hr
  split at hr
  · rename_i hc
    simp only [Bool.and_eq_true, decide_eq_true_eq] at hc
    have hl : (h'.take h.length).length = h.length := by simp; omega
    have hp : underL h.length ds = true := by
      have := hc.1.1
      match ds, this with
      | [], _ => rfl
      | [d], this => simp only [packD] at this; simp [underL, this]
      | d :: e :: l, this => simpa [packD, underD] using this
    have key : FinOk h (h'.take h.length ++ h'.drop h.length) ds R := by
      refine FinOk.drop (.inr ⟨hl, fun b hb => ?_⟩) ?_ hr
      · rw [hl]; exact List.all_eq_true.1 hc.2 b hb
      · rw [hl]; exact hp
    rwa [List.take_append_drop] at key
  · exact FinOk.all hr

/-- THE MACHINE OF PLAIN DATA. -/
def run (orc : Callee) (tab : FuncId → Option CF) (n : Nat) : AC → St → Option (Exit × St) :=
  Nat.rec (fun _ _ => none) (fun _ ih c st =>
    let F : Callee := fun f args h => match orc f args h with
      | some r => some r
      | none => match tab f with
        | some c => match ih c.code ⟨args ++ List.replicate (c.n - args.length) .any, h⟩ with
          | some (.normal, st') | some (.ret, st') => match resD c.res st' with
            | some ds => some (trim h (packD ds) st'.h)
            | none => none
          | _ => none
        | none => none
    match c with
    | .skip => some (.normal, st)
    | .reg ss => match sregs F ss st with
      | some st' => some (.normal, st')
      | none => none
    | .dreg hd tl => match sheads F hd st with
      | some st' => match sregs F tl st' with
        | some st'' => some (.normal, st'')
        | none => none
      | none => none
    | .seq a b => match ih a st with
      | some (.normal, st') => ih b st'
      | r => r
    | .cond c a b => match ev st.t c with
      | .bool true => ih a st
      | .bool false => ih b st
      | _ => none
    | .block id a => match ih a st with
      | some (.exit id', st') => if id' = id then some (.normal, st') else some (.exit id', st')
      | r => r
    | .loop a => match ih a st with
      | some (.normal, st') => ih (.loop a) st'
      | r => r
    | .exit id => some (.exit id, st)
    | .bad => none
    | .ret => some (.ret, st)
    | .scope a => match ih a st with
      | some (.goto _, _) => none
      | r => r
    | .rfunc .. => none) n
def callee (orc : Callee) (tab : FuncId → Option CF) (n : Nat) : Callee := fun f args h => match orc f args h with
  | some r => some r
  | none => match tab f with
    | some c => match run orc tab n c.code ⟨args ++ List.replicate (c.n - args.length) .any, h⟩ with
      | some (.normal, st') | some (.ret, st') => match resD c.res st' with
        | some ds => some (trim h (packD ds) st'.h)
        | none => none
      | _ => none
    | none => none
/-- Nothing is known ahead. -/
def noOrc : Callee := fun _ _ _ => none
theorem noOrc_ok {P : Program} : CallOk P noOrc := fun _ _ _ _ _ h => by cases h

section
variable {P : Program} {orc : Callee} {tab : FuncId → Option CF}
theorem callee_ok (ho : CallOk P orc) (ht : ∀ f c, tab f = some c → cfun P f = some c) {n : Nat} (ih : ∀ c st e st', run orc tab n c st = some (e, st') → AWA P c (fun e' s => e' = e ∧ s = st') st) : CallOk P (callee orc tab n) := by
  intro f args h d h' hc
  unfold callee at hc
  split at hc
  · rename_i r hr
    injection hc with hc
    subst hc
    exact ho f args h _ _ hr
  split at hc
  · rename_i c hf
    have fin : ∀ {e : Exit} {st' : St}, (e = .normal ∨ e = .ret) → run orc tab n c.code ⟨args ++ List.replicate (c.n - args.length) .any, h⟩ = some (e, st') →
        (match resD c.res st' with | some ds => some (trim h (packD ds) st'.h) | none => none) = some (d, h') → FC P f args h fun d' h'' => d' = d ∧ h'' = h' := by
      intro e st' he hr hd
      split at hd
      · rename_i ds hds
        simp only [Option.some.injEq] at hd
        refine FC.of_cfun (ht f c hf) ((ih _ _ _ _ hr).mono ?_)
        rintro e' s ⟨rfl, rfl⟩
        have hR : ∃ ds, resD c.res s = some ds ∧ FinOk h s.h ds (fun d' h'' => d' = d ∧ h'' = h') := ⟨ds, hds, trim_ok (by rw [hd]; exact ⟨rfl, rfl⟩)⟩
        rcases he with rfl | rfl
        · exact hR
        · exact hR
      · cases hd
    split at hc
    · rename_i st' hr; exact fin (.inl rfl) hr hc
    · rename_i st' hr; exact fin (.inr rfl) hr hc
    · cases hc
  · cases hc

theorem run_ok' (hm : P.follows .mixedOrders = true) (ho : CallOk P orc) (ht : ∀ f c, tab f = some c → cfun P f = some c) : ∀ n k, k ≤ n → ∀ c st e st', run orc tab k c st = some (e, st') → AWA P c (fun e' s => e' = e ∧ s = st') st := by
  intro n
  induction n with
  | zero =>
    intro k hk c st e st' h
    obtain rfl : k = 0 := by omega
    cases h
  | succ n ihs =>
    intro k hk c st e st' h
    by_cases hkn : k ≤ n
    · exact ihs k hkn c st e st' h
    obtain rfl : k = n + 1 := by omega
    have ih := ihs n (Nat.le_refl _)
    have hF := callee_ok ho ht ih
    cases c with
    | skip => cases h; exact AWA.skip ⟨rfl, rfl⟩
    | exit id => cases h; exact AWA.exit ⟨rfl, rfl⟩
    | ret => cases h; exact AWA.ret ⟨rfl, rfl⟩
    | bad => cases h
    | rfunc f ps a b => cases h
    | reg ss =>
      have h : (match sregs (callee orc tab n) ss st with | some st' => some (Exit.normal, st') | none => none) = some (e, st') := h
      split at h
      · rename_i s hs
        cases h
        exact AWA.reg (sregs_ok hF hs ⟨rfl, rfl⟩)
      · cases h
    | dreg hd tl =>
      have h : (match sheads (callee orc tab n) hd st with | some st' => (match sregs (callee orc tab n) tl st' with | some st'' => some (Exit.normal, st'') | none => none) | none => none) = some (e, st') := h
      split at h
      · rename_i s hs
        split at h
        · rename_i s' hs'
          cases h
          exact AWA.dreg hm (sheads_ok hF hs (sregs_ok hF hs' ⟨rfl, rfl⟩))
        · cases h
      · cases h
    | seq a b =>
      have h : (match run orc tab n a st with | some (.normal, st') => run orc tab n b st' | r => r) = some (e, st') := h
      split at h
      · rename_i s hs
        refine AWA.seq (K := fun s' => s' = s) ((ih _ _ _ _ hs).mono ?_) ?_
        · rintro e' s' ⟨rfl, rfl⟩; exact rfl
        · rintro s' rfl; exact ih _ _ _ _ h
      · rename_i r hr
        refine AWA.seq (K := fun _ => False) ((ih _ _ _ _ h).mono ?_) (fun _ hf => hf.elim)
        rintro e' s' ⟨rfl, rfl⟩
        cases e' with
        | normal => exact absurd h (hr _)
        | _ => exact ⟨rfl, rfl⟩
    | cond c a b =>
      have h : (match ev st.t c with | .bool true => run orc tab n a st | .bool false => run orc tab n b st | _ => none) = some (e, st') := h
      split at h
      · rename_i hb
        exact AWA.cond hb (fun _ => ih _ _ _ _ h) (fun hf => by cases hf)
      · rename_i hb
        exact AWA.cond hb (fun hf => by cases hf) (fun _ => ih _ _ _ _ h)
      · cases h
    | block id a =>
      have h : (match run orc tab n a st with | some (.exit id', st') => if id' = id then some (Exit.normal, st') else some (.exit id', st') | r => r) = some (e, st') := h
      refine AWA.block ?_
      split at h
      · rename_i id' s hs
        split at h
        · rename_i hid
          cases h
          refine (ih _ _ _ _ hs).mono ?_
          rintro e' s' ⟨rfl, rfl⟩
          show blockQ id _ (.exit id') _
          simp [blockQ, hid]
        · rename_i hid
          cases h
          refine (ih _ _ _ _ hs).mono ?_
          rintro e' s' ⟨rfl, rfl⟩
          show blockQ id _ (.exit id') _
          simp [blockQ, hid]
      · rename_i r hr
        refine (ih _ _ _ _ h).mono ?_
        rintro e' s' ⟨rfl, rfl⟩
        cases e' with
        | exit id' => exact absurd h (hr _ _)
        | _ => exact ⟨rfl, rfl⟩
    | scope a =>
      have h : (match run orc tab n a st with | some (.goto _, _) => none | r => r) = some (e, st') := h
      refine AWA.scope ?_
      split at h
      · cases h
      · rename_i r hr
        refine (ih _ _ _ _ h).mono ?_
        rintro e' s' ⟨rfl, rfl⟩
        cases e' with
        | goto l => exact absurd h (hr _ _)
        | _ => exact ⟨rfl, rfl⟩
    | loop a =>
      have key : ∀ k, k ≤ n + 1 → ∀ s, run orc tab k (.loop a) s = some (e, st') → AWA P (.loop a) (fun e' s => e' = e ∧ s = st') s := by
        classical
        let p : St → Nat → Prop := fun s m => m ≤ n + 1 ∧ run orc tab m (.loop a) s = some (e, st')
        intro k hk s hs
        refine AWA.loop (fun s => ∃ m, p s m) (fun s => if h : ∃ m, p s m then Classical.choose (least h) else 0) ⟨k, hk, hs⟩ ?_
        intro s hst
        obtain ⟨⟨hle, hrun⟩, hmin⟩ := Classical.choose_spec (least hst)
        simp only [dif_pos hst]
        revert hle hrun hmin
        generalize Classical.choose (least hst) = q
        intro hmin hle hrun
        cases q with
        | zero => cases hrun
        | succ q =>
          have h : (match run orc tab q a s with | some (.normal, st') => run orc tab q (.loop a) st' | r => r) = some (e, st') := hrun
          have ihq : ∀ s e s', run orc tab q a s = some (e, s') → AWA P a (fun e' z => e' = e ∧ z = s') s := by
            intro s e s' hr
            exact ihs q (by omega) _ _ _ _ hr
          split at h
          · rename_i s1 hs1
            refine (ihq _ _ _ hs1).mono ?_
            rintro e' s' ⟨rfl, rfl⟩
            have hex : ∃ m, p s' m := ⟨q, by omega, h⟩
            show (∃ m, p s' m) ∧ _
            refine ⟨hex, ?_⟩
            rw [dif_pos hex]
            have := (Classical.choose_spec (least hex)).2 q ⟨by omega, h⟩
            omega
          · rename_i r hr
            refine (ihq _ _ _ h).mono ?_
            rintro e' s' ⟨rfl, rfl⟩
            cases e' with
            | normal => exact absurd h (hr _)
            | _ => exact ⟨rfl, rfl⟩
      exact key (n + 1) (Nat.le_refl _) st h
theorem callee_fc (hm : P.follows .mixedOrders = true) (ho : CallOk P orc) (ht : ∀ f c, tab f = some c → cfun P f = some c) {n : Nat} {f : FuncId} {args : List D} {h h' : Heap} {d : D} (hr : callee orc tab n f args h = some (d, h')) : FC P f args h fun d' h'' => d' = d ∧ h'' = h' :=
  callee_ok ho ht (run_ok' hm ho ht n n (Nat.le_refl _)) f args h d h' hr
end

def tabOf : List (FuncId × CF) → FuncId → Option CF
  | [], _ => none
  | p :: l, f => bif Nat.beq p.1 f then some p.2 else tabOf l f
theorem tabOf_ok {P : Program} : ∀ {l : List (FuncId × CF)}, (∀ p ∈ l, cfun P p.1 = some p.2) → ∀ f c, tabOf l f = some c → cfun P f = some c
  | [], _, f, c, h => by simp [tabOf] at h
  | p :: l, hl, f, c, h => by
    simp only [tabOf] at h
    cases hb : Nat.beq p.1 f with
    | true =>
      rw [hb] at h
      simp only [cond_true, Option.some.injEq] at h
      rw [← Nat.eq_of_beq_eq_true hb, ← h]
      exact hl p (by simp)
    | false =>
      rw [hb] at h
      exact tabOf_ok (fun q hq => hl q (by simp [hq])) f c h
def saysTrue : Option (D × Heap) → Bool
  | some (.bool true, _) => true
  | _ => false
/-- What the kernel has run. -/
theorem live_of' {P : Program} {orc : Callee} (hm : P.follows .mixedOrders = true) (ho : CallOk P orc) {l : List (FuncId × CF)} (hl : ∀ p ∈ l, cfun P p.1 = some p.2) {n : Nat} {f : FuncId} {args : List D} (hr : saysTrue (callee orc (tabOf l) n f args []) = true) (hu : underL 0 args = true) (h : Heap) : FC P f args h fun d h' => d = .bool true ∧ h' = h := by
  refine FC.frame ?_ rfl hu h
  cases hc : callee orc (tabOf l) n f args [] with
  | none => rw [hc] at hr; cases hr
  | some p =>
    obtain ⟨d, h'⟩ := p
    refine (callee_fc hm ho (tabOf_ok hl) hc).mono ?_
    rintro d' h'' ⟨rfl, _⟩
    rw [hc] at hr
    cases d' with
    | bool b => cases b <;> simp_all [saysTrue]
    | _ => simp [saysTrue] at hr
theorem live_of {P : Program} (hm : P.follows .mixedOrders = true) {l : List (FuncId × CF)} (hl : ∀ p ∈ l, cfun P p.1 = some p.2) {n : Nat} {f : FuncId} {args : List D} (hr : saysTrue (callee noOrc (tabOf l) n f args []) = true) (hu : underL 0 args = true) (h : Heap) : FC P f args h fun d h' => d = .bool true ∧ h' = h :=
  live_of' hm noOrc_ok hl hr hu h
def saysD (d : D) : Option (D × Heap) → Bool
  | some (d', _) => beqD d' d
  | _ => false
/-- A call whose answer the kernel has run. -/
theorem ran_of {P : Program} {orc : Callee} (hm : P.follows .mixedOrders = true) (ho : CallOk P orc) {l : List (FuncId × CF)} (hl : ∀ p ∈ l, cfun P p.1 = some p.2) {n : Nat} {f : FuncId} {args : List D} {d : D} (hr : saysD d (callee orc (tabOf l) n f args []) = true) (hd : flatD d = true) (hu : underL 0 args = true) (h : Heap) : FC P f args h fun d' h' => d' = d ∧ h' = h := by
  refine FC.frame ?_ hd hu h
  cases hc : callee orc (tabOf l) n f args [] with
  | none => rw [hc] at hr; cases hr
  | some p =>
    obtain ⟨d1, h1⟩ := p
    refine (callee_fc hm ho (tabOf_ok hl) hc).mono ?_
    rintro d' h'' ⟨rfl, _⟩
    rw [hc] at hr
    exact beqD_eq hr
/-- One that is known, and others. -/
def orcOf (g : FuncId) (r : List D → Option D) (o : Callee) : Callee := fun f args h => bif Nat.beq f g then (match r args with | some d => some (d, h) | none => none) else o f args h
theorem orcOf_ok {P : Program} {g : FuncId} {r : List D → Option D} {o : Callee} (hr : ∀ args h d, r args = some d → FC P g args h fun d' h' => d' = d ∧ h' = h) (ho : CallOk P o) : CallOk P (orcOf g r o) := by
  intro f args h d h' hc
  unfold orcOf at hc
  cases hb : Nat.beq f g with
  | false => rw [hb] at hc; exact ho f args h d h' hc
  | true =>
    rw [hb] at hc
    rw [Nat.eq_of_beq_eq_true hb]
    simp only [cond_true] at hc
    split at hc
    · rename_i d1 h1
      injection hc with hc
      injection hc with hc1 hc2
      subst hc1; subst hc2
      exact hr args h _ h1
    · cases hc

end Go.YtodlpcoffmnmbaaDoor
