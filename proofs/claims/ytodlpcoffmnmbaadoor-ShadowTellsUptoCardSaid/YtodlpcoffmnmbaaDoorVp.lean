/-
  Own work. The value machine, part P: a region whose order is open: whatever order, it comes to what the walk comes to.
-/
import Derived.Test.YtodlpcoffmnmbaaDoorVo
namespace Go.YtodlpcoffmnmbaaDoor
open Go
set_option linter.unusedVariables false
set_option linter.unusedSimpArgs false

theorem csts_get {P : Program} {ops : Array Oper} : ∀ {l : List Oper} {ss : List AStm}, csts P ops l = some ss → l.length = ss.length ∧ ∀ (i : Nat) (o : Oper), l[i]? = some o → ∃ s, ss[i]? = some s ∧ cstm P ops o = some s
  | [], ss, h => by simp only [csts, Option.some.injEq] at h; subst h; exact ⟨rfl, fun i o hi => by simp at hi⟩
  | o :: l, ss, h => by
    simp only [csts, Option.bind_eq_some_iff, Option.map_eq_some_iff] at h
    obtain ⟨s, h1, ss', h2, rfl⟩ := h
    obtain ⟨h3, h4⟩ := csts_get h2
    refine ⟨by simp [h3], fun i o' hi => ?_⟩
    cases i with
    | zero => simp at hi; subst hi; exact ⟨s, rfl, h1⟩
    | succ i => exact h4 i o' (by simpa using hi)

theorem exists_first {n : Nat} (p : Nat → Prop) [DecidablePred p] (h : ∃ i, i < n ∧ p i) : ∃ i, i < n ∧ p i ∧ ∀ j, j < i → ¬ p j := by
  induction n with
  | zero => obtain ⟨i, hi, _⟩ := h; omega
  | succ n ih =>
    by_cases hn : ∃ i, i < n ∧ p i
    · obtain ⟨i, h1, h2, h3⟩ := ih hn
      exact ⟨i, by omega, h2, h3⟩
    · obtain ⟨i, h1, h2⟩ := h
      have : i = n := by
        by_cases e : i = n
        · exact e
        · exact absurd ⟨i, by omega, h2⟩ hn
      subst this
      exact ⟨i, h1, h2, fun j hj hp => hn ⟨j, hj, hp⟩⟩

theorem setD_comm {t : List D} {x y : Option Nat} {d e : D} (h : apart x y = true) : setD (setD t x d) y e = setD (setD t y e) x d := by
  cases x <;> cases y <;> simp [setD, apart] at *
  exact List.set_comm _ _ (by omega)
theorem apart_symm {x y : Option Nat} (h : apart x y = true) : apart y x = true := by
  cases x <;> cases y <;> simp_all [apart]; omega

/-! ### what some statements have made -/
def ap (ss : List AStm) (d : Nat → D) (M : List Nat) (t : List D) : List D := M.foldl (fun t i => setD t (stA ss i).dst (d i)) t
section ap
variable {ss : List AStm} {d d' : Nat → D} {t : List D}
theorem ap_app (M N : List Nat) : ap ss d (M ++ N) t = ap ss d N (ap ss d M t) := by simp [ap]
theorem ap_congr : ∀ {M : List Nat} {t : List D}, (∀ i ∈ M, d i = d' i) → ap ss d M t = ap ss d' M t
  | [], _, _ => rfl
  | i :: M, t, h => by
    simp only [ap, List.foldl_cons]
    rw [h i (by simp)]
    exact ap_congr (M := M) fun j hj => h j (by simp [hj])
theorem ap_len : ∀ (M : List Nat) (t : List D), (ap ss d M t).length = t.length
  | [], _ => rfl
  | i :: M, t => by
    simp only [ap, List.foldl_cons]
    refine (ap_len M _).trans ?_
    cases (stA ss i).dst <;> simp [setD]
theorem ap_setD : ∀ {M : List Nat} {t : List D} {x : Option Nat} {v : D}, (∀ j ∈ M, apart (stA ss j).dst x = true) → ap ss d M (setD t x v) = setD (ap ss d M t) x v
  | [], _, _, _, _ => rfl
  | i :: M, t, x, v, h => by
    simp only [ap, List.foldl_cons]
    rw [setD_comm (apart_symm (h i (by simp)))]
    exact ap_setD (M := M) fun j hj => h j (by simp [hj])
theorem ap_none : ∀ {M : List Nat} {t : List D} {x : Nat}, (∀ j ∈ M, apart (stA ss j).dst (some x) = true) → (ap ss d M t)[x]? = t[x]?
  | [], _, _, _ => rfl
  | i :: M, t, x, h => by
    simp only [ap, List.foldl_cons]
    refine (ap_none (M := M) fun j hj => h j (by simp [hj])).trans ?_
    have := h i (by simp)
    cases hd : (stA ss i).dst with
    | none => rfl
    | some y =>
      rw [hd] at this
      simp only [apart, bne_iff_ne] at this
      simp only [setD]
      rw [List.getElem?_set_ne (by simpa using this)]
theorem ap_some : ∀ {M : List Nat} {t : List D} {x j : Nat}, (∀ i ∈ M, i ≠ j → apart (stA ss i).dst (some x) = true) → j ∈ M → (stA ss j).dst = some x → x < t.length → (ap ss d M t)[x]? = some (d j)
  | [], _, _, _, _, h, _, _ => by simp at h
  | i :: M, t, x, j, h, hj, hd, hx => by
    simp only [ap, List.foldl_cons]
    by_cases hm : j ∈ M
    · exact ap_some (M := M) (fun q hq => h q (by simp [hq])) hm hd (by cases (stA ss i).dst <;> simp [setD, hx])
    · have e : j = i := by
        rcases List.mem_cons.1 hj with e | e
        · exact e
        · exact absurd e hm
      subst e
      refine (ap_none (M := M) fun q hq => h q (by simp [hq]) (by intro e; subst e; exact hm hq)).trans ?_
      rw [hd]
      simp [setD, hx]
end ap

/-! ### what a walk of the heads gives -/
/-- The answer of a statement; of a call, if it is so asked, for whatever further blocks. -/
def SYq (P : Program) (all : Bool) (s : AStm) (t : List D) (h : Heap) (d : D) : Prop :=
  match s with
  | .call _ g f args => guardK t g (if all = true then ∀ L, CallK P (ev t f) (args.map (ev t)) (h ++ L) fun d' h' => d' = d ∧ h' = h ++ L else CallK P (ev t f) (args.map (ev t)) h fun d' h' => d' = d ∧ h' = h) (d = .tup [])
  | s => SY P s t h d

theorem kind_op {dst : Option Nat} {g : Option (Nat × Bool)} {o : AOp} (h : (AStm.op dst g o).kind = 0) : o.quiet = true := by
  unfold AStm.kind at h
  split at h <;> first | (cases h; done) | skip
  all_goals rename_i heq
  all_goals first
    | (injection heq with e1 e2 e3; subst e3; split at h <;> first | assumption | cases h)
    | cases heq
    | simp_all

theorem SYq.sy {P : Program} {all : Bool} {s : AStm} {t : List D} {h : Heap} {d : D} (hs : SYq P all s t h d) (L : Heap) (hk : s.kind = 0) (hL : all = true ∨ L = []) : SY P s t (h ++ L) d := by
  cases s with
  | op dst g o =>
    have hq := kind_op hk
    refine guardK_congr (fun _ _ _ => rfl) (fun ⟨hq, h', ha⟩ => ⟨hq, aop_more hq ha L⟩) id hs
  | call dst g f args =>
    refine guardK_congr (fun _ _ _ => rfl) (fun h1 => ?_) id hs
    rcases hL with hL | hL
    · rw [if_pos hL] at h1; exact h1 L
    · subst hL
      split at h1
      · exact h1 []
      · simpa using h1
  | callL dst g f args => exact hs.elim
  | callG dst g f args => exact hs.elim
  | callW dst f args => exact hs.elim
  | chk dst g o => exact hs.elim

section walk
variable {P : Program} {ss : List AStm} {t0 : List D} {K : St → Prop}

/-- One quiet statement. -/
theorem walk_one {all : Bool} {s : AStm} {rest : List AStm} {t : List D} {h : Heap} (hk : s.kind = 0) (hw : aheads P (hq all s :: rest) ⟨t, h⟩ K) : ∃ d, SYq P all s t h d ∧ aheads P rest ⟨setD t s.dst d, h⟩ K := by
  cases s with
  | op dst g o =>
    have hqt := kind_op hk
    have hw : guardK t g (holds (aop o t h) fun p => aheads P rest ⟨setD t dst p.1, p.2⟩ K) (aheads P rest ⟨setD t dst (.tup []), h⟩ K) := hw
    have key : ∀ {y n : Prop}, guardK t g y n → ∃ b : Bool, (b = true → y) ∧ (b = false → n) ∧ ∀ {y' n' : Prop}, (b = true → y') → (b = false → n') → guardK t g y' n' := by
      intro y n hy
      cases g with
      | none => exact ⟨true, fun _ => hy, by simp, fun h1 _ => h1 rfl⟩
      | some p =>
        obtain ⟨s, v⟩ := p
        simp only [guardK] at hy ⊢
        generalize t.getD s .any = q at hy ⊢
        cases q with
        | bool c =>
          by_cases hc : c = v
          · exact ⟨true, fun _ => hy.1 hc, by simp, fun h1 _ => ⟨fun _ => h1 rfl, fun h2 => absurd hc h2⟩⟩
          · exact ⟨false, by simp, fun _ => hy.2 hc, fun _ h1 => ⟨fun h2 => absurd h2 hc, fun _ => h1 rfl⟩⟩
        | tup l => cases l with
          | nil => exact ⟨false, by simp, fun _ => hy, fun _ h1 => h1 rfl⟩
          | cons x l => exact hy.elim
        | _ => exact hy.elim
    obtain ⟨b, hb1, hb2, hb3⟩ := key hw
    cases b with
    | true =>
      obtain ⟨⟨d, h'⟩, ha, hK⟩ := hb1 rfl
      have := aop_quiet hqt ha
      subst this
      exact ⟨d, hb3 (fun _ => ⟨hqt, _, ha⟩) (fun e => by cases e), hK⟩
    | false => exact ⟨.tup [], hb3 (fun e => by cases e) (fun _ => rfl), hb2 rfl⟩
  | call dst g f args =>
    have hw : guardK t g (∃ d, (if all = true then ∀ L, CallK P (ev t f) (args.map (ev t)) (h ++ L) fun d' h' => d' = d ∧ h' = h ++ L else CallK P (ev t f) (args.map (ev t)) h fun d' h' => d' = d ∧ h' = h) ∧ aheads P rest ⟨setD t dst d, h⟩ K) (aheads P rest ⟨setD t dst (.tup []), h⟩ K) := by
      cases all
      · exact guardK_congr (fun _ _ _ => rfl) (fun ⟨d, h1, h2⟩ => ⟨d, by simpa using h1, h2⟩) id hw
      · exact guardK_congr (fun _ _ _ => rfl) (fun ⟨d, h1, h2⟩ => ⟨d, by simpa using h1, h2⟩) id hw
    have key : ∀ {y n : Prop}, guardK t g y n → ∃ b : Bool, (b = true → y) ∧ (b = false → n) ∧ ∀ {y' n' : Prop}, (b = true → y') → (b = false → n') → guardK t g y' n' := by
      intro y n hy
      cases g with
      | none => exact ⟨true, fun _ => hy, by simp, fun h1 _ => h1 rfl⟩
      | some p =>
        obtain ⟨s, v⟩ := p
        simp only [guardK] at hy ⊢
        generalize t.getD s .any = q at hy ⊢
        cases q with
        | bool c =>
          by_cases hc : c = v
          · exact ⟨true, fun _ => hy.1 hc, by simp, fun h1 _ => ⟨fun _ => h1 rfl, fun h2 => absurd hc h2⟩⟩
          · exact ⟨false, by simp, fun _ => hy.2 hc, fun _ h1 => ⟨fun h2 => absurd h2 hc, fun _ => h1 rfl⟩⟩
        | tup l => cases l with
          | nil => exact ⟨false, by simp, fun _ => hy, fun _ h1 => h1 rfl⟩
          | cons x l => exact hy.elim
        | _ => exact hy.elim
    obtain ⟨b, hb1, hb2, hb3⟩ := key hw
    cases b with
    | true =>
      obtain ⟨d, h1, h2⟩ := hb1 rfl
      exact ⟨d, hb3 (fun _ => h1) (fun e => by cases e), h2⟩
    | false => exact ⟨.tup [], hb3 (fun e => by cases e) (fun _ => rfl), hb2 rfl⟩
  | callL dst g f args => cases hk
  | callG dst g f args => cases hk
  | callW dst f args => cases hk
  | chk dst g o => cases hk

/-- Quiet ones, one behind the other. -/
theorem walk_quiet {all : Bool} {R : List AStm} {h : Heap} : ∀ (M past : List Nat) (d : Nat → D), (∀ i ∈ M, (stA ss i).kind = 0) → (past ++ M).Nodup → aheads P ((M.map fun i => hq all (stA ss i)) ++ R) ⟨ap ss d past t0, h⟩ K →
    ∃ d', (∀ i ∈ past, d' i = d i) ∧ (∀ A i B, M = A ++ i :: B → SYq P all (stA ss i) (ap ss d' (past ++ A) t0) h (d' i)) ∧ aheads P R ⟨ap ss d' (past ++ M) t0, h⟩ K
  | [], past, d, _, _, hw => ⟨d, fun _ _ => rfl, fun A i B e => by simp at e, by simpa using hw⟩
  | i :: M, past, d, hk, hn, hw => by
    obtain ⟨v, h1, h2⟩ := walk_one (hk i (by simp)) hw
    have hi : i ∉ past := fun hm => by
      have := (List.nodup_append.1 hn).2.2 i hm i (by simp)
      exact this rfl
    have hd1 : ∀ j ∈ past, (fun j => if j = i then v else d j) j = d j := fun j hj => if_neg (by intro e; subst e; exact hi hj)
    have e1 : setD (ap ss d past t0) (stA ss i).dst v = ap ss (fun j => if j = i then v else d j) (past ++ [i]) t0 := by
      rw [ap_app, ap_congr hd1]; simp [ap]
    rw [e1] at h2
    obtain ⟨d', g1, g2, g3⟩ := walk_quiet M (past ++ [i]) _ (fun j hj => hk j (by simp [hj])) (by simpa using hn) h2
    have hp : ∀ j ∈ past, d' j = d j := fun j hj => (g1 j (by simp [hj])).trans (hd1 j hj)
    have hv : d' i = v := by rw [g1 i (by simp)]; simp
    refine ⟨d', hp, ?_, by simpa using g3⟩
    intro A j B e
    cases A with
    | nil =>
      simp only [List.nil_append, List.cons.injEq] at e
      obtain ⟨rfl, _⟩ := e
      rw [hv, List.append_nil, ap_congr hp]
      exact h1
    | cons a A =>
      simp only [List.cons_append, List.cons.injEq] at e
      obtain ⟨rfl, e⟩ := e
      have := g2 A j B e
      rw [List.append_assoc] at this
      exact this

def zeroA (ss : List AStm) (i : Nat) : List D := match stA ss i with
  | .op _ _ (.alloc z) => z
  | _ => []
theorem kind_alloc {s : AStm} (h : s.kind = 1) : ∃ x z, s = .op (some x) none (.alloc z) := by
  unfold AStm.kind at h
  split at h <;> first | (cases h; done) | skip
  · exact ⟨_, _, rfl⟩
  · split at h <;> cases h
  · split at h <;> cases h
theorem kind_store {s : AStm} (h : s.kind = 2) : (∃ dst o, s = .op dst none o) ∨ ∃ dst f a, s = .callW dst f a := by
  unfold AStm.kind at h
  split at h <;> first | (cases h; done) | skip
  · exact .inl ⟨_, _, rfl⟩
  · split at h <;> cases h
  · exact .inr ⟨_, _, _, rfl⟩
/-- What one that changes blocks does. -/
def SStep (P : Program) (s : AStm) (t : List D) (h : Heap) (d : D) (h' : Heap) : Prop :=
  match s with
  | .op _ none o => aop o t h = some (d, h')
  | .callW _ f args => h'.length = h.length ∧ ∀ L, CallK P (ev t f) (args.map (ev t)) (h ++ L) fun d' h'' => d' = d ∧ h'' = h' ++ L
  | _ => False

/-- Allocations. -/
theorem walk_alloc {R : List AStm} : ∀ (M past : List Nat) (h : Heap) (d : Nat → D), (∀ i ∈ M, (stA ss i).kind = 1) → (past ++ M).Nodup → aheads P ((M.map (stA ss)) ++ R) ⟨ap ss d past t0, h⟩ K →
    ∃ d', (∀ i ∈ past, d' i = d i) ∧ (∀ A i B, M = A ++ i :: B → d' i = .ref (h.length + A.length) 0) ∧ aheads P R ⟨ap ss d' (past ++ M) t0, h ++ M.map fun i => .box (zeroA ss i)⟩ K
  | [], past, h, d, _, _, hw => ⟨d, fun _ _ => rfl, fun A i B e => by simp at e, by simpa using hw⟩
  | i :: M, past, h, d, hk, hn, hw => by
    obtain ⟨x, z, hs⟩ := kind_alloc (hk i (by simp))
    have hz : zeroA ss i = z := by simp [zeroA, hs]
    have hdst : (stA ss i).dst = some x := by rw [hs]; rfl
    rw [List.map_cons, hs] at hw
    obtain ⟨⟨v, h'⟩, h1, h2⟩ := hw
    simp only [aop, Option.some.injEq, Prod.mk.injEq] at h1
    obtain ⟨rfl, rfl⟩ := h1
    have hi : i ∉ past := fun hm => by
      have := (List.nodup_append.1 hn).2.2 i hm i (by simp)
      exact this rfl
    have hd1 : ∀ j ∈ past, (fun j => if j = i then D.ref h.length 0 else d j) j = d j := fun j hj => if_neg (by intro e; subst e; exact hi hj)
    have e1 : setD (ap ss d past t0) (some x) (.ref h.length 0) = ap ss (fun j => if j = i then D.ref h.length 0 else d j) (past ++ [i]) t0 := by
      rw [ap_app, ap_congr hd1]; simp [ap, hdst]
    simp only at h2
    rw [e1] at h2
    obtain ⟨d', g1, g2, g3⟩ := walk_alloc M (past ++ [i]) _ _ (fun j hj => hk j (by simp [hj])) (by simpa using hn) h2
    have hp : ∀ j ∈ past, d' j = d j := fun j hj => (g1 j (by simp [hj])).trans (hd1 j hj)
    have hv : d' i = .ref h.length 0 := by rw [g1 i (by simp)]; simp
    refine ⟨d', hp, ?_, by simpa [hz] using g3⟩
    intro A j B e
    cases A with
    | nil =>
      simp only [List.nil_append, List.cons.injEq] at e
      obtain ⟨rfl, _⟩ := e
      simpa using hv
    | cons a A =>
      simp only [List.cons_append, List.cons.injEq] at e
      obtain ⟨rfl, e⟩ := e
      rw [g2 A j B e]
      simp; omega

def cntS (ss : List AStm) (past : List Nat) : Nat := (past.filter (isS ss)).length

theorem walk_chk {R : List AStm} {cl : List Nat} {s : Nat} {t : List D} {h : Heap} : ∀ (l : List Nat), aheads P ((l.filterMap fun q => chkOf cl s q (stA ss q)) ++ R) ⟨t, h⟩ K →
    (∀ q ∈ l, ∀ x g o, stA ss q = .op (some x) g o → o.isPure = false → bef cl s q = false → guardK t g (holds (aop o t h) fun p => p.1 = t.getD x .any) True) ∧ aheads P R ⟨t, h⟩ K
  | [], hw => ⟨fun q hq => by simp at hq, hw⟩
  | q :: l, hw => by
    cases hc : chkOf cl s q (stA ss q) with
    | none =>
      rw [List.filterMap_cons, hc] at hw
      obtain ⟨h1, h2⟩ := walk_chk l hw
      refine ⟨fun r hr x g o e hp hb => ?_, h2⟩
      rcases List.mem_cons.1 hr with rfl | hr
      · rw [e] at hc
        simp [chkOf, hp, hb] at hc
      · exact h1 r hr x g o e hp hb
    | some c =>
      rw [List.filterMap_cons, hc] at hw
      have hcc := hc
      unfold chkOf at hcc
      split at hcc
      · rename_i x g o hso
        split at hcc
        · cases hcc
        · simp only [Option.some.injEq] at hcc
          subst hcc
          obtain ⟨h0, hw⟩ := hw
          obtain ⟨h1, h2⟩ := walk_chk l hw
          refine ⟨fun r hr x' g' o' e hp hb => ?_, h2⟩
          rcases List.mem_cons.1 hr with rfl | hr
          · rw [e] at hso
            injection hso with e1 e2 e3
            injection e1 with e1
            subst e1; subst e2; subst e3
            exact h0
          · exact h1 r hr x' g' o' e hp hb
      · cases hcc

/-- Stores, and what comes behind them. -/
theorem walk_late {R : List AStm} {cl : List Nat} : ∀ (M past : List Nat) (h : Heap) (d : Nat → D), (∀ i ∈ M, (stA ss i).kind = 0 ∧ (stA ss i).isCall = false ∨ (stA ss i).kind = 2) → (past ++ M).Nodup →
    aheads P (laH ss cl past M ++ R) ⟨ap ss d past t0, h⟩ K →
    ∃ (d' : Nat → D) (G : Nat → Heap), G (cntS ss past) = h ∧ (∀ i ∈ past, d' i = d i) ∧
      (∀ A i B, M = A ++ i :: B → isS ss i = false → SYq P false (stA ss i) (ap ss d' (past ++ A) t0) (G (cntS ss (past ++ A))) (d' i)) ∧
      (∀ A i B, M = A ++ i :: B → isS ss i = true →
        SStep P (stA ss i) (ap ss d' (past ++ A) t0) (G (cntS ss (past ++ A))) (d' i) (G (cntS ss (past ++ A) + 1)) ∧
        ∀ q ∈ past ++ A, isQ ss q = true → ∀ x g o, stA ss q = .op (some x) g o → o.isPure = false → bef cl i q = false →
          guardK (setD (ap ss d' (past ++ A) t0) (stA ss i).dst (d' i)) g (holds (aop o (setD (ap ss d' (past ++ A) t0) (stA ss i).dst (d' i)) (G (cntS ss (past ++ A) + 1))) fun p => p.1 = (setD (ap ss d' (past ++ A) t0) (stA ss i).dst (d' i)).getD x .any) True) ∧
      aheads P R ⟨ap ss d' (past ++ M) t0, G (cntS ss (past ++ M))⟩ K
  | [], past, h, d, _, _, hw => ⟨d, fun _ => h, rfl, fun _ _ => rfl, fun A i B e => by simp at e, fun A i B e => by simp at e, by simpa [laH] using hw⟩
  | i :: M, past, h, d, hk, hn, hw => by
    have hi : i ∉ past := fun hm => by
      have := (List.nodup_append.1 hn).2.2 i hm i (by simp)
      exact this rfl
    rcases hk i (by simp) with ⟨hk0, hnc⟩ | hk2
    · have hS : isS ss i = false := by simp [isS, hk0]
      rw [laH, if_neg (by simp [hS])] at hw
      have hq1 : hq false (stA ss i) = stA ss i := by cases stA ss i <;> rfl
      rw [List.cons_append, ← hq1] at hw
      obtain ⟨v, h1, h2⟩ := walk_one hk0 hw
      have hd1 : ∀ j ∈ past, (fun j => if j = i then v else d j) j = d j := fun j hj => if_neg (by intro e; subst e; exact hi hj)
      have e1 : setD (ap ss d past t0) (stA ss i).dst v = ap ss (fun j => if j = i then v else d j) (past ++ [i]) t0 := by
        rw [ap_app, ap_congr hd1]; simp [ap]
      rw [e1] at h2
      obtain ⟨d', G, g0, g1, g2, g3, g4⟩ := walk_late M (past ++ [i]) h _ (fun j hj => hk j (by simp [hj])) (by simpa using hn) h2
      have ec : cntS ss (past ++ [i]) = cntS ss past := by simp [cntS, hS]
      rw [ec] at g0
      have hp : ∀ j ∈ past, d' j = d j := fun j hj => (g1 j (by simp [hj])).trans (hd1 j hj)
      have hv : d' i = v := by rw [g1 i (by simp)]; simp
      refine ⟨d', G, g0, hp, ?_, ?_, by simpa using g4⟩
      · intro A j B e hjS
        cases A with
        | nil =>
          simp only [List.nil_append, List.cons.injEq] at e
          obtain ⟨rfl, _⟩ := e
          rw [hv, List.append_nil, ap_congr hp, g0]
          exact h1
        | cons a A =>
          simp only [List.cons_append, List.cons.injEq] at e
          obtain ⟨rfl, e⟩ := e
          have := g2 A j B e hjS
          rw [List.append_assoc] at this
          exact this
      · intro A j B e hjS
        cases A with
        | nil =>
          simp only [List.nil_append, List.cons.injEq] at e
          obtain ⟨rfl, _⟩ := e
          rw [hS] at hjS; cases hjS
        | cons a A =>
          simp only [List.cons_append, List.cons.injEq] at e
          obtain ⟨rfl, e⟩ := e
          have := g3 A j B e hjS
          rw [List.append_assoc] at this
          exact this
    · have hS : isS ss i = true := by simp [isS, hk2]
      rw [laH, if_pos hS, List.cons_append, List.append_assoc] at hw
      obtain ⟨v, h', h1, h2⟩ : ∃ v h', SStep P (stA ss i) (ap ss d past t0) h v h' ∧ aheads P ((((past.filter (isQ ss)).filterMap fun q => chkOf cl i q (stA ss q))) ++ (laH ss cl (past ++ [i]) M ++ R)) ⟨setD (ap ss d past t0) (stA ss i).dst v, h'⟩ K := by
        rcases kind_store hk2 with ⟨dst, os, hs⟩ | ⟨dst, f, a, hs⟩
        · rw [hs] at hw ⊢
          obtain ⟨⟨v, h'⟩, h1, h2⟩ := hw
          exact ⟨v, h', h1, h2⟩
        · rw [hs] at hw ⊢
          obtain ⟨v, h', h1, h2, h3⟩ := hw
          exact ⟨v, h', ⟨h1, h2⟩, h3⟩
      obtain ⟨h3, h4⟩ := walk_chk _ h2
      have hd1 : ∀ j ∈ past, (fun j => if j = i then v else d j) j = d j := fun j hj => if_neg (by intro e; subst e; exact hi hj)
      have e1 : setD (ap ss d past t0) (stA ss i).dst v = ap ss (fun j => if j = i then v else d j) (past ++ [i]) t0 := by
        rw [ap_app, ap_congr hd1]; simp [ap]
      rw [e1] at h4
      obtain ⟨d', G, g0, g1, g2, g3, g4⟩ := walk_late M (past ++ [i]) h' _ (fun j hj => hk j (by simp [hj])) (by simpa using hn) h4
      have ec : cntS ss (past ++ [i]) = cntS ss past + 1 := by simp [cntS, hS]
      have hp : ∀ j ∈ past, d' j = d j := fun j hj => (g1 j (by simp [hj])).trans (hd1 j hj)
      have hv : d' i = v := by rw [g1 i (by simp)]; simp
      have eA : ∀ A, cntS ss (past ++ [i] ++ A) = cntS ss past + 1 + cntS ss A := by intro A; simp [cntS, hS]; omega
      have eB : ∀ A, cntS ss (past ++ i :: A) = cntS ss past + 1 + cntS ss A := by intro A; simp [cntS, hS]; omega
      have hne : ∀ c, cntS ss past + 1 + c ≠ cntS ss past := by intro c; omega
      have hG : ∀ k, k ≠ cntS ss past → (fun q => if q = cntS ss past then h else G q) k = G k := fun k hk => if_neg hk
      refine ⟨d', fun q => if q = cntS ss past then h else G q, by simp, hp, ?_, ?_, ?_⟩
      · intro A j B e hjS
        cases A with
        | nil =>
          simp only [List.nil_append, List.cons.injEq] at e
          obtain ⟨rfl, _⟩ := e
          rw [hS] at hjS; cases hjS
        | cons a A =>
          simp only [List.cons_append, List.cons.injEq] at e
          obtain ⟨rfl, e⟩ := e
          have := g2 A j B e hjS
          rw [eA] at this
          rw [eB, hG _ (hne _)]
          rw [List.append_assoc] at this
          exact this
      · intro A j B e hjS
        cases A with
        | nil =>
          simp only [List.nil_append, List.cons.injEq] at e
          obtain ⟨rfl, _⟩ := e
          rw [List.append_nil, ap_congr hp, hv]
          have eg : (fun q => if q = cntS ss past then h else G q) (cntS ss past + 1) = h' := by
            show (if _ then _ else _) = h'
            rw [if_neg (by omega), ← ec]; exact g0
          have eh : (fun q => if q = cntS ss past then h else G q) (cntS ss past) = h := by simp
          rw [eg, eh]
          exact ⟨h1, fun q hq hqQ => h3 q (List.mem_filter.2 ⟨hq, hqQ⟩)⟩
        | cons a A =>
          simp only [List.cons_append, List.cons.injEq] at e
          obtain ⟨rfl, e⟩ := e
          have := g3 A j B e hjS
          rw [eA] at this
          rw [eB, hG _ (hne _), hG (cntS ss past + 1 + cntS ss A + 1) (by omega)]
          rw [List.append_assoc] at this
          exact this
      · have := g4
        rw [eA] at this
        rw [eB, hG _ (hne _)]
        simpa using this
end walk

/-! ### what the plan's check says -/
theorem all_range {n : Nat} {p : Nat → Bool} (h : (List.range n).all p = true) {i : Nat} (hi : i < n) : p i = true := List.all_eq_true.1 h i (List.mem_range.2 hi)

structure Plan0 (ops : Array Oper) (ss : List AStm) (cl : List Nat) (k : Nat) (y : Lay) : Prop where
  kinds : ∀ i, i < k → isQ ss i = true ∨ isA ss i = true ∨ isS ss i = true
  ops : ∀ i, i < ss.length → ∃ o, ops[i]? = some o ∧ (∀ e ∈ o.after, Region.binds .any e = true → e.on < i) ∧ (k ≤ i → ∀ j, j < i → bef cl i j = true)
  low : ∀ i ∈ y.co, i < k
  apart : ∀ i j, i < k → j < k → i ≠ j → apart (stA ss i).dst (stA ss j).dst = true
  slots : ∀ i, i < k → ∀ x ∈ (stA ss i).slots, ∀ j, j < k → (stA ss j).dst = some x → bef cl i j = true ∨ bef cl j i = true ∨ i = j
  order : inOrder cl k [] y.co = true
  late : chkSlots ss cl (y.EA ++ y.AL ++ y.MI) y.LA = true
  ea : ∀ i ∈ y.EA, isQ ss i = true
  al : ∀ i ∈ y.AL, isA ss i = true
  mi : ∀ i ∈ y.MI, isQ ss i = true ∧ (stA ss i).isCall = false ∧ ∀ a ∈ y.AL, bef cl i a = true
  la : ∀ i ∈ y.LA, (∀ a ∈ y.AL, bef cl i a = true) ∧ (isS ss i = true ∨ (isQ ss i = true ∧ (stA ss i).isCall = false))

structure Plan (ops : Array Oper) (ss : List AStm) (cl : List Nat) (k : Nat) (y : Lay) : Prop extends Plan0 ops ss cl k y where
  cov : ∀ i, i < k → i ∈ y.co

theorem apart_ne {x : Option Nat} {n : Nat} : apart x (some n) = true ↔ x ≠ some n := by cases x <;> simp [apart]

theorem plan_of {ops : Array Oper} {ss : List AStm} {cl : List Nat} {k : Nat} {y : Lay} (h : planOk ops ss cl k y = true) : Plan ops ss cl k y := by
  simp only [planOk, Bool.and_eq_true] at h
  obtain ⟨⟨⟨⟨⟨⟨⟨⟨⟨⟨⟨h1, h2⟩, h3⟩, h4⟩, h5⟩, h6⟩, h7⟩, h8⟩, h9⟩, h10⟩, h11⟩, h12⟩ := h
  refine ⟨⟨fun i hi => ?_, fun i hi => ?_, fun i hi => ?_, ?_, ?_, h7, h8, fun i hi => List.all_eq_true.1 h9 i hi, fun i hi => List.all_eq_true.1 h10 i hi, fun i hi => ?_, fun i hi => ?_⟩, fun i hi => by simpa using all_range h3 hi⟩
  · have := all_range h1 hi
    simp only [Bool.or_eq_true] at this
    rcases this with (a | a) | a
    · exact .inl a
    · exact .inr (.inl a)
    · exact .inr (.inr a)
  · have := all_range h2 hi
    split at this
    · rename_i o ho
      simp only [Bool.and_eq_true, Bool.or_eq_true, decide_eq_true_eq] at this
      refine ⟨o, ho, fun e he hb => ?_, fun hk j hj => ?_⟩
      · have := Array.all_eq_true_iff_forall_mem.1 this.1 e he
        simpa [hb] using this
      · rcases this.2 with a | a
        · omega
        · exact all_range a hj
    · cases this
  · simpa using List.all_eq_true.1 h4 i hi
  · intro i j hi hj hne
    rcases Nat.lt_or_ge j i with hlt | hge
    · exact all_range (all_range h5 hi) hlt
    · exact apart_symm (all_range (all_range h5 hj) (show i < j by omega))
  · intro i hi x hx j hj hd
    have := all_range (List.all_eq_true.1 (all_range h6 hi) x hx) hj
    simp only [Bool.or_eq_true, beq_iff_eq, hd] at this
    rcases this with ((a | a) | a) | a
    · simp [YtodlpcoffmnmbaaDoor.apart] at a
    · exact .inl a
    · exact .inr (.inl a)
    · exact .inr (.inr a)
  · have := List.all_eq_true.1 h11 i hi
    simp only [Bool.and_eq_true, Bool.not_eq_true'] at this
    exact ⟨this.1.1, this.1.2, fun a ha => List.all_eq_true.1 this.2 a ha⟩
  · have := List.all_eq_true.1 h12 i hi
    simp only [Bool.and_eq_true, Bool.or_eq_true, Bool.not_eq_true'] at this
    exact ⟨fun a ha => List.all_eq_true.1 this.1 a ha, this.2⟩

theorem inOrder_at {cl : List Nat} {k : Nat} : ∀ {l past A B : List Nat} {i : Nat}, inOrder cl k past l = true → l = A ++ i :: B →
    (∀ j, j < k → (bef cl i j = true → j ∈ past ++ A) ∧ (j ∈ past ++ A → bef cl j i = false)) ∧ i ∉ past ++ A
  | [], _, A, B, i, _, e => by simp at e
  | q :: l, past, A, B, i, h, e => by
    simp only [inOrder, Bool.and_eq_true] at h
    cases A with
    | nil =>
      simp only [List.nil_append, List.cons.injEq] at e
      obtain ⟨rfl, _⟩ := e
      rw [List.append_nil]
      refine ⟨fun j hj => ?_, by simpa using h.1.2⟩
      have := all_range h.1.1 hj
      simp only [Bool.and_eq_true, Bool.or_eq_true, Bool.not_eq_true', List.contains_eq_mem, decide_eq_true_eq, decide_eq_false_iff_not] at this
      refine ⟨fun hb => ?_, fun hm => ?_⟩
      · rcases this.1 with a | a
        · rw [hb] at a; cases a
        · exact a
      · rcases this.2 with a | a
        · exact absurd hm a
        · exact a
    | cons a A =>
      simp only [List.cons_append, List.cons.injEq] at e
      obtain ⟨rfl, e⟩ := e
      have := inOrder_at h.2 e
      simpa using this
theorem inOrder_nodup {cl : List Nat} {k : Nat} : ∀ {l past : List Nat}, inOrder cl k past l = true → past.Nodup → (past ++ l).Nodup
  | [], past, _, h => by simpa using h
  | q :: l, past, h, hn => by
    simp only [inOrder, Bool.and_eq_true] at h
    have h1 : (past ++ [q]).Nodup := by
      rw [List.nodup_append]
      refine ⟨hn, by simp, fun a ha b hb => ?_⟩
      simp at hb; subst hb
      intro e; subst e
      simp [ha] at h
    have := inOrder_nodup h.2 h1
    simpa using this
theorem chkSlots_at {ss : List AStm} {cl : List Nat} : ∀ {l past A B : List Nat} {i : Nat}, chkSlots ss cl past l = true → l = A ++ i :: B →
    (∀ s ∈ past ++ A, isS ss s = true → bef cl i s = true) ∧ (isS ss i = true → ∀ q ∈ past ++ A, isQ ss q = true → bef cl i q = false → ∃ dst g o, stA ss q = .op dst g o ∧ (o.isPure = true ∨ (∃ z, dst = some z) ∧ ∀ x ∈ (stA ss q).slots, YtodlpcoffmnmbaaDoor.apart (stA ss i).dst (some x) = true ∧ ∀ j ∈ past ++ A, (stA ss j).dst = some x → bef cl q j = true))
  | [], _, A, B, i, _, e => by simp at e
  | p :: l, past, A, B, i, h, e => by
    simp only [chkSlots, Bool.and_eq_true] at h
    cases A with
    | nil =>
      simp only [List.nil_append, List.cons.injEq] at e
      obtain ⟨rfl, _⟩ := e
      rw [List.append_nil]
      refine ⟨fun s hs hS => ?_, fun hS q hq hQ hb => ?_⟩
      · have := List.all_eq_true.1 h.1.1 s hs
        simpa [hS] using this
      · have h2 := h.1.2
        rw [hS] at h2
        simp only [Bool.not_true, Bool.false_or] at h2
        have := List.all_eq_true.1 h2 q hq
        rw [hb, hQ] at this
        simp only [Bool.not_true, Bool.or_false, Bool.false_or] at this
        split at this
        · rename_i dst g o hso
          refine ⟨dst, g, o, hso, ?_⟩
          simp only [Bool.or_eq_true, Bool.and_eq_true] at this
          rcases this with a | ⟨a, b⟩
          · exact .inl a
          · refine .inr ⟨Option.isSome_iff_exists.1 a, fun x hx => ?_⟩
            have b := List.all_eq_true.1 b x hx
            simp only [Bool.and_eq_true] at b
            refine ⟨b.1, fun j hj hd => ?_⟩
            have := List.all_eq_true.1 b.2 j hj
            simp only [Bool.or_eq_true, hd] at this
            rcases this with c | c
            · simp [YtodlpcoffmnmbaaDoor.apart] at c
            · exact c
        · cases this
    | cons a A =>
      simp only [List.cons_append, List.cons.injEq] at e
      obtain ⟨rfl, e⟩ := e
      have := chkSlots_at h.2 e
      simpa using this

/-- What stands ahead of it. -/
def pa (co : List Nat) (i : Nat) : List Nat := co.takeWhile fun j => j != i
theorem pa_eq {co A B : List Nat} {i : Nat} (h : co = A ++ i :: B) (hi : i ∉ A) : pa co i = A := by
  subst h
  unfold pa
  rw [List.takeWhile_append_of_pos (by intro a ha; simp; intro e; subst e; exact hi ha)]
  simp

/-! ### allocations where a place is free -/
section
variable {P : Program} {m : Mu} {h : Heap} {w : World}
theorem evo_free {w' : World} {r : Nat} {b' : Blk} (hr : h[r]? = some .free) (x : Nat × Nat) (hx : w.heap.size ≤ x.1)
    (h1 : w'.os = w.os) (h2 : w'.tape = w.tape) (h3 : w'.output = w.output) (h4 : w.heap.size ≤ w'.heap.size) (h5 : ∀ k, k < w.heap.size → w'.heap[k]? = w.heap[k]?) :
    Evo m h w (muSet m r x) (h.set r b') w' where
  os := h1
  tape := h2
  output := h3
  size := h4
  keep := fun k hk hno => by
    refine ⟨fun ⟨s, blk, g1, g2, g3⟩ => ?_, h5 k hk⟩
    by_cases hsr : s = r
    · subst hsr; rw [muSet_same] at g3; omega
    · rw [muSet_ne _ _ hsr] at g3
      rw [List.getElem?_set_ne (by omega)] at g1
      exact hno ⟨s, blk, g1, g2, g3⟩
  blk := fun s bl hs => by
    by_cases hsr : s = r
    · subst hsr
      rw [hr] at hs
      injection hs with hs
      subst hs
      exact ⟨b', by rw [List.getElem?_set_self (List.getElem?_eq_some_iff.1 hr).1], trivial⟩
    · refine ⟨bl, by rw [List.getElem?_set_ne (by omega)]; exact hs, ?_⟩
      have e : muSet m r x s = m s := muSet_ne _ _ hsr
      exact BStep.of_eq e bl
theorem hsim_free {w' : World} (hsim : HSim m h w) {r : Nat} {b' : Blk} (hr : h[r]? = some .free) (x : Nat × Nat) (hx : w.heap.size ≤ x.1)
    (h1 : w'.os = w.os) (h2 : w'.tape = w.tape) (h3 : w'.output = w.output) (h4 : w.heap.size ≤ w'.heap.size) (h5 : ∀ k, k < w.heap.size → w'.heap[k]? = w.heap[k]?)
    (hb : BlkOk (muSet m r x) (h.set r b') w' r b') : HSim (muSet m r x) (h.set r b') w' := by
  have he := evo_free (m := m) (b' := b') hr x hx h1 h2 h3 h4 h5
  have hlt := (List.getElem?_eq_some_iff.1 hr).1
  refine ⟨?_, ?_, fun p hp => (hsim.glob p hp).evo he⟩
  · intro s s' b1 b2 hs hs' o1 o2 hm
    by_cases e1 : s = r <;> by_cases e2 : s' = r
    · omega
    · subst e1
      rw [muSet_same, muSet_ne _ _ e2] at hm
      rw [List.getElem?_set_ne (by omega)] at hs'
      have hl := Owned.lt hsim ⟨s', b2, hs', o2, rfl⟩
      omega
    · subst e2
      rw [muSet_same, muSet_ne _ _ e1] at hm
      rw [List.getElem?_set_ne (by omega)] at hs
      have hl := Owned.lt hsim ⟨s, b1, hs, o1, rfl⟩
      omega
    · rw [muSet_ne _ _ e1, muSet_ne _ _ e2] at hm
      rw [List.getElem?_set_ne (by omega)] at hs hs'
      exact hsim.inj s s' b1 b2 hs hs' o1 o2 hm
  · intro s bl hs
    by_cases e1 : s = r
    · subst e1
      rw [List.getElem?_set_self hlt] at hs
      injection hs with hs
      subst hs
      exact hb
    · rw [List.getElem?_set_ne (by omega)] at hs
      exact BlkOk.evo he (hsim.blk s bl hs) (muSet_ne _ _ e1) fun o1 => h5 _ (Owned.lt hsim ⟨s, bl, hs, o1, rfl⟩)
theorem y_alloc_free (hs : HSim m h w) {t : TypeId} {zs : List D} (hz : zeroOf P t = some zs) {r : Nat} (hr : h[r]? = some .free) : Yld P (Instr.alloc t true (.tuple #[])) m h w (.ref r 0) (h.set r (.box zs)) := by
  obtain ⟨z, h1, rfl⟩ := run_zeroValue (P := P) (w := w) hz
  have hh : (w.alloc (.cells z.cells t)).heap = w.heap.push (.cells z.cells t) := by simp [World.alloc, -World.alloc_eq]
  have h4 : w.heap.size ≤ (w.alloc (.cells z.cells t)).heap.size := by rw [hh]; simp
  have h5 : ∀ k, k < w.heap.size → (w.alloc (.cells z.cells t)).heap[k]? = w.heap[k]? := fun k hk => by rw [hh, Array.getElem?_push, if_neg (by omega)]
  have he := evo_free (m := m) (w := w) (w' := w.alloc (.cells z.cells t)) (b' := .box (z.cells.toList.map dOfV1)) hr (w.heap.size, 0) (Nat.le_refl _) rfl rfl rfl h4 h5
  have hlt := (List.getElem?_eq_some_iff.1 hr).1
  refine ⟨.pointer (some ⟨w.heap.size, 0, none⟩), _, w.alloc (.cells z.cells t), by simp [Instr.alloc, h1, newVar, newRow], ?_, hsim_free hs hr (w.heap.size, 0) (Nat.le_refl _) rfl rfl rfl h4 h5 ?_, he⟩
  · simp only [Rep]
    exact ⟨⟨(w.heap.size, 0), rfl⟩, _, List.getElem?_set_self hlt, by simp [RefV, isPtr, muSet_same]⟩
  · refine ⟨z.cells, t, (0, 0), ?_, by simp, repL_dOfV1 _ _ _ _⟩
    rw [muSet_same, hh]; simp
/-- Free places put behind. -/
theorem more_free (hs : HSim m h w) (n : Nat) : HSim m (h ++ List.replicate n .free) w ∧ Evo m h w m (h ++ List.replicate n .free) w := by
  have get : ∀ {r : Nat} {b : Blk}, (h ++ List.replicate n Blk.free)[r]? = some b → h[r]? = some b ∨ b = .free := by
    intro r b hr
    by_cases hl : r < h.length
    · rw [List.getElem?_append_left hl] at hr; exact .inl hr
    · rw [List.getElem?_append_right (by omega)] at hr
      exact .inr (List.eq_of_mem_replicate (List.mem_of_getElem? hr))
  have he : Evo m h w m (h ++ List.replicate n .free) w := by
    refine ⟨rfl, rfl, rfl, Nat.le_refl _, fun b hb ho => ⟨fun ⟨r, blk, g1, g2, g3⟩ => ?_, rfl⟩, fun r b hb => ⟨b, get_more hb, BStep.refl m r b⟩⟩
    rcases get g1 with g | g
    · exact ho ⟨r, blk, g, g2, g3⟩
    · subst g; cases g2
  refine ⟨⟨fun r r' b b' hr hr' o1 o2 hm => ?_, fun r b hr => ?_, fun p hp => (hs.glob p hp).evo he⟩, he⟩
  · rcases get hr with g | g
    · rcases get hr' with g' | g'
      · exact hs.inj r r' b b' g g' o1 o2 hm
      · subst g'; cases o2
    · subst g; cases o1
  · rcases get hr with g | g
    · exact (hs.blk r b g).evo he rfl fun _ => rfl
    · subst g; trivial
end

theorem cop_alloc {P : Program} {op : Op} {ty : TypeId} {z : List D} (h : cop P op ty = some (.alloc z)) : ∃ et, op = .alloc et ∧ zeroOf P et = some z := by
  unfold cop at h
  split at h
  all_goals try (simp only [cEq] at h)
  all_goals repeat' split at h
  all_goals try (simp [Option.bind_eq_some_iff, Option.map_eq_some_iff] at h; done)
  all_goals first
    | (simp only [Option.map_eq_some_iff, AOp.alloc.injEq] at h; obtain ⟨q, h1, rfl⟩ := h; exact ⟨_, rfl, h1⟩)
    | (simp [Option.bind_eq_some_iff, Option.map_eq_some_iff] at h; obtain ⟨_, _, h⟩ := h; repeat' split at h; all_goals simp [Option.bind_eq_some_iff, Option.map_eq_some_iff] at h)
end Go.YtodlpcoffmnmbaaDoor
