/-
  Own work. The value machine, part B: what it means that code, from a state of plain data, comes to a state of plain data; the rules of control.
-/
import Derived.Test.YtodlpcoffmnmbaaDoorVaa
import Derived.LoopN
import Derived.LoopNIn
import Derived.TacticsIn
import Derived.OrdersIn
import Derived.RangeFuncIn
import Derived.RangeFuncRecord
import Derived.RangeFuncLeaves
namespace Go.YtodlpcoffmnmbaaDoor
open Go

/-- A state: the temporaries and the blocks, as plain data. -/
structure St where
  t : List D
  h : Heap

def markOf (D : Nat) : Deferred := { target := .collected D, args := #[] }
/-- The calls that are owed when a function is left: of loops over functions, with nothing in them. -/
def Marks (B : Nat) (m : Mu) (h : Heap) (w : World) (ds : List Deferred) : Prop :=
  ∃ Ds : List Nat, ds = Ds.map markOf ∧ Ds.Nodup ∧ ∀ D ∈ Ds, B ≤ D ∧ w.heap[D]? = some (.deferred (some [])) ∧ ¬ Owned m h D
theorem Marks.nil {B : Nat} {m : Mu} {h : Heap} {w : World} : Marks B m h w [] := ⟨[], rfl, List.nodup_nil, by simp⟩
theorem Marks.evo {B : Nat} {m m' : Mu} {h h' : Heap} {w w' : World} (he : Evo m h w m' h' w') {ds : List Deferred} (hm : Marks B m h w ds) : Marks B m' h' w' ds := by
  obtain ⟨Ds, h1, h2, h3⟩ := hm
  refine ⟨Ds, h1, h2, fun D hD => ?_⟩
  obtain ⟨k1, k2, k3⟩ := h3 D hD
  obtain ⟨q1, q2⟩ := he.keep D (Array.getElem?_eq_some_iff.1 k2).1 k3
  exact ⟨k1, by rw [q2]; exact k2, q1⟩
theorem Marks.cons {B D : Nat} {m : Mu} {h : Heap} {w : World} {ds : List Deferred} (hm : Marks B m h w ds) (hB : B ≤ D) (hd : w.heap[D]? = some (.deferred (some []))) (ho : ¬ Owned m h D)
    (hn : ∀ Ds : List Nat, ds = Ds.map markOf → D ∉ Ds) : Marks B m h w (markOf D :: ds) := by
  obtain ⟨Ds, h1, h2, h3⟩ := hm
  refine ⟨D :: Ds, by rw [h1]; rfl, List.nodup_cons.2 ⟨hn Ds h1, h2⟩, fun E hE => ?_⟩
  rcases List.mem_cons.1 hE with rfl | hE
  · exact ⟨hB, hd, ho⟩
  · exact h3 E hE

/-- The calls that are owed when a function is left: of loops over functions, with nothing in them. -/
structure Sim (B : Nat) (m : Mu) (st : St) (a : Act) (w : World) : Prop where
  defers : Marks B m st.h w a.defers
  tmps : RepL m st.h w st.t a.tmps.toList
  heap : HSim m st.h w

/-- Every function may be called; in which loop's round. -/
def FF (ro : Option Nat) : Fence := { Fence.wide with round := ro }

def Lift (B : Nat) (m : Mu) (h : Heap) (w : World) (Q : Exit → St → Prop) : Exit → Act → World → Prop :=
  fun e a' w' => ∃ (m' : Mu) (st' : St), Sim B m' st' a' w' ∧ Evo m h w m' st'.h w' ∧ Q e st'

/-- From the state st this code comes to a way out and a state of which Q is true. -/
def AW (ro : Option Nat) (P : Program) (c : Code) (Q : Exit → St → Prop) (st : St) : Prop := ∀ (B : Nat) (m : Mu) (a : Act) (w : World), B ≤ w.heap.size → Sim B m st a w → c.wpIn (FF ro) 0 P (Lift B m st.h w Q) a w

def thenQ (K : St → Prop) (Q : Exit → St → Prop) : Exit → St → Prop
  | .normal, st => K st
  | e, st => Q e st

def blockQ (id : Nat) (Q : Exit → St → Prop) : Exit → St → Prop
  | .exit id', st => if id' = id then Q .normal st else Q (.exit id') st
  | e, st => Q e st

section
variable {P : Program} {Q : Exit → St → Prop} {st : St} {B : Nat} {ro : Option Nat}

theorem Lift.mono {m : Mu} {h : Heap} {w : World} {Q Q' : Exit → St → Prop} (hq : ∀ e st, Q e st → Q' e st) {e : Exit} {a : Act} {w' : World} (hl : Lift B m h w Q e a w') : Lift B m h w Q' e a w' := by
  obtain ⟨m', st', h1, h2, h3⟩ := hl
  exact ⟨m', st', h1, h2, hq _ _ h3⟩

theorem Lift.trans {m m' : Mu} {h h' : Heap} {w w' : World} (he : Evo m h w m' h' w') {e : Exit} {a : Act} {w'' : World} (hl : Lift B m' h' w' Q e a w'') : Lift B m h w Q e a w'' := by
  obtain ⟨m'', st', h1, h2, h3⟩ := hl
  exact ⟨m'', st', h1, he.trans h2, h3⟩

theorem Lift.here {m : Mu} {a : Act} {w : World} {e : Exit} (h : Sim B m st a w) (hq : Q e st) : Lift B m st.h w Q e a w :=
  ⟨m, st, h, Evo.refl _ _ _, hq⟩

theorem AW.mono {c : Code} {Q' : Exit → St → Prop} (h : AW ro P c Q st) (hq : ∀ e st, Q e st → Q' e st) : AW ro P c Q' st :=
  fun B m a w hB hs => wpIn_mono (h B m a w hB hs) fun _ _ _ hl => hl.mono hq

theorem AW.skip (h : Q .normal st) : AW ro P .skip Q st := fun _ _ _ _ _ hs => wpIn_skip (Lift.here hs h)
theorem AW.exit {id : Nat} (h : Q (.exit id) st) : AW ro P (.exit id) Q st := fun _ _ _ _ _ hs => wpIn_exit (Lift.here hs h)
theorem AW.ret (h : Q .ret st) : AW ro P .ret Q st := fun _ _ _ _ _ hs => wpIn_ret (Lift.here hs h)

theorem then_of_lift {m : Mu} {h : Heap} {w : World} {K : St → Prop} {next : Act → World → Prop} {L : Exit → Act → World → Prop}
    (hn : ∀ m' st' a' w', Sim B m' st' a' w' → Evo m h w m' st'.h w' → K st' → next a' w') (hL : ∀ e a' w', e ≠ .normal → Lift B m h w Q e a' w' → L e a' w')
    {e : Exit} {a' : Act} {w' : World} (hl : Lift B m h w (thenQ K Q) e a' w') : Exit.then next L e a' w' := by
  obtain ⟨m', st', h1, h2, h3⟩ := hl
  cases e with
  | normal => exact hn m' st' a' w' h1 h2 h3
  | exit id => exact hL _ _ _ (by simp) ⟨m', st', h1, h2, h3⟩
  | goto l => exact hL _ _ _ (by simp) ⟨m', st', h1, h2, h3⟩
  | ret => exact hL _ _ _ (by simp) ⟨m', st', h1, h2, h3⟩
  | panic ch => exact hL _ _ _ (by simp) ⟨m', st', h1, h2, h3⟩
  | outgrown => exact hL _ _ _ (by simp) ⟨m', st', h1, h2, h3⟩

theorem AW.seq {x y : Code} {K : St → Prop} (hx : AW ro P x (thenQ K Q) st) (hy : ∀ st', K st' → AW ro P y Q st') : AW ro P (.seq x y) Q st := by
  intro B m a w hB hs
  refine wpIn_seq (wpIn_mono (hx B m a w hB hs) fun e a' w' hl => ?_)
  refine then_of_lift (fun m' st' a' w' h1 h2 h3 => ?_) (fun _ _ _ _ h => h) hl
  exact wpIn_mono (hy st' h3 B m' a' w' (Nat.le_trans hB h2.size) h1) fun _ _ _ hl => hl.trans h2

theorem AW.block {id : Nat} {c : Code} (h : AW ro P c (blockQ id Q) st) : AW ro P (.block id c) Q st := by
  intro B m a w hB hs
  refine wpIn_block (wpIn_mono (h B m a w hB hs) fun e a' w' hl => ?_)
  obtain ⟨m', st', h1, h2, h3⟩ := hl
  cases e with
  | exit id' =>
    simp only [blockQ] at h3
    simp only [Exit.inBlock]
    split
    · rename_i hid; rw [if_pos hid] at h3; exact ⟨m', st', h1, h2, h3⟩
    · rename_i hid; rw [if_neg hid] at h3; exact ⟨m', st', h1, h2, h3⟩
  | _ => exact ⟨m', st', h1, h2, h3⟩

theorem AW.label {l : Nat} (h : Q .normal st) : AW ro P (.label l) Q st := fun _ _ _ _ _ hs => wpIn_label (Lift.here hs h)
theorem stepR_scope {c : Code} {b : Frame} {a : Act} {k : List Item} {cs : List Frame} {w : World} : step P (lone (b.atR a (.code (.scope c) :: k)) cs w) = .next (lone (b.atR a (.code c :: .inScope c :: k)) cs w) :=
  step_lone_go (by simp [stepG, stepG.exec, Frame.atR])
theorem stepR_inScope {c : Code} {b : Frame} {a : Act} {k : List Item} {cs : List Frame} {w : World} : step P (lone (b.atR a (.inScope c :: k)) cs w) = .next (lone (b.atR a k) cs w) :=
  step_lone_go (by simp [stepG, stepG.exec, Frame.atR])
/-- No jump to a label. -/
def noGoto (Q : Exit → St → Prop) : Exit → St → Prop
  | .goto _, _ => False
  | e, st => Q e st
theorem AW.scope {c : Code} (h : AW ro P c (noGoto Q) st) : AW ro P (.scope c) Q st := by
  intro B m a w hB hs b k cs hro hb hr
  obtain ⟨e, a₁, w₁, hq, harr⟩ := h B m a w hB hs b (.inScope c :: k) cs hro hb hr
  have h0 : (lone (b.atR a (.code (.scope c) :: k)) cs w).fenced P (FF ro) := fenced_calm hb hr rfl
  obtain ⟨m', st', q1, q2, q3⟩ := hq
  cases e with
  | normal => exact ⟨.normal, a₁, w₁, ⟨m', st', q1, q2, q3⟩, .head h0 stepR_scope (StepsIn.trans harr (.one (fenced_calm hb hr rfl) stepR_inScope))⟩
  | exit id =>
    have hx : exitTo id (.inScope c :: k) = exitTo id k := by simp [exitTo]
    exact ⟨.exit id, a₁, w₁, ⟨m', st', q1, q2, q3⟩, fun k' hk => .head h0 stepR_scope (harr.1 k' (by rw [hx]; exact hk)),
      fun hr' hk => let ⟨k₁, h1, h2⟩ := harr.2 hr' (by rw [hx]; exact hk); ⟨k₁, h1, .head h0 stepR_scope h2⟩⟩
  | goto l => exact q3.elim
  | ret => exact ⟨_, a₁, w₁, ⟨m', st', q1, q2, q3⟩, .of_steps (.one h0 stepR_scope) harr⟩
  | panic ch => exact ⟨_, a₁, w₁, ⟨m', st', q1, q2, q3⟩, .of_steps (.one h0 stepR_scope) harr⟩
  | outgrown => exact ⟨_, a₁, w₁, ⟨m', st', q1, q2, q3⟩, .of_steps (.one h0 stepR_scope) harr⟩

theorem rounds_of {c : Code} (I : St → Prop) (μ : St → Nat) (round : ∀ st, I st → AW ro P c (thenQ (fun st' => I st' ∧ μ st' < μ st) Q) st)
    (m0 : Mu) (h0 : Heap) (w0 : World) (hB : B ≤ w0.heap.size) : ∀ (n : Nat) (st : St) (m : Mu) (a : Act) (w : World), I st → μ st < n → Sim B m st a w → Evo m0 h0 w0 m st.h w →
      Code.roundsIn (FF ro) 0 P c (Lift B m0 h0 w0 Q) n a w := by
  intro n
  induction n with
  | zero => intro st m a w _ h; omega
  | succ n ih =>
    intro st m a w hI hn hs he
    rw [roundsIn_succ]
    refine wpIn_mono (round st hI B m a w (Nat.le_trans hB he.size) hs) fun e a' w' hl => ?_
    refine then_of_lift (fun m' st' a' w' h1 h2 h3 => ?_) (fun _ _ _ _ h => h.trans he) hl
    exact ih st' m' a' w' h3.1 (by omega) h1 (he.trans h2)

theorem AW.loop {c : Code} (I : St → Prop) (μ : St → Nat) (h0 : I st) (round : ∀ st, I st → AW ro P c (thenQ (fun st' => I st' ∧ μ st' < μ st) Q) st) : AW ro P (.loop c) Q st :=
  fun B m a w hB hs => wpIn_loop_rounds (μ st + 1) (rounds_of I μ round m st.h w hB _ st m a w h0 (by omega) hs (Evo.refl _ _ _))

theorem AW.cond {x : Operand} {c1 c2 : Code} {b : Bool} (hb : ∀ B m a w, Sim B m st a w → a.eval x = .bool b) (h1 : b = true → AW ro P c1 Q st) (h2 : b = false → AW ro P c2 Q st) : AW ro P (.cond x c1 c2) Q st := by
  intro B m a w hB hs
  exact wpIn_cond_split (hb B m a w hs) (fun e => h1 e B m a w hB hs) (fun e => h2 e B m a w hB hs)
end

/-- Is it a function with a body, which a call enters? -/
def callable (P : Program) (f : FuncId) : Bool :=
  match P.funcs[f]? with
  | some fn => !(fn.name == "runtime.NumGoroutine") && fn.body.isSome
  | none => false

/-- What a function does with plain data: whatever the blocks' places. -/
def FC (P : Program) (f : FuncId) (args : List D) (h : Heap) (R : D → Heap → Prop) : Prop :=
  callable P f = true ∧ ∀ (m : Mu) (w : World) (vs : List Value), HSim m h w → RepL m h w args vs → Calls P f vs.toArray w fun e w' =>
    ∃ (v : Value) (m' : Mu) (d : D) (h' : Heap), e = .returned v ∧ HSim m' h' w' ∧ Rep m' h' w' d v ∧ Evo m h w m' h' w' ∧ R d h'

theorem FC.mono {P : Program} {f : FuncId} {args : List D} {h : Heap} {R R' : D → Heap → Prop} (hc : FC P f args h R) (hr : ∀ d h', R d h' → R' d h') : FC P f args h R' :=
  ⟨hc.1, fun m w vs h1 h2 => (hc.2 m w vs h1 h2).mono fun _ _ ⟨v, m', d, h', e1, e2, e3, e4, e5⟩ => ⟨v, m', d, h', e1, e2, e3, e4, hr _ _ e5⟩⟩

theorem RepL.replicate_any {m : Mu} {ah : Heap} {w : World} (v : Value) : ∀ n, RepL m ah w (List.replicate n .any) (List.replicate n v)
  | 0 => by simp [RepL]
  | n + 1 => by simp only [List.replicate_succ, RepL]; exact ⟨v, _, rfl, by simp [Rep], RepL.replicate_any v n⟩


/-! ### a yield's call: one round of a loop over a function -/
def setps (T : List D) (ps : List Nat) (args : List D) : List D := (ps.zip args).foldl (fun t p => t.set p.1 p.2) T
def roundQ (h0 : Heap) (r : Nat) (T : List D) (ps : List Nat) (as bd : Code) (R : D → Heap → Prop) : Exit → St → Prop
  | .normal, st => st.h[r]? = some (.recb .busy T ps as bd none) ∧ Drops h0 (st.h.set r (.recb .ready T ps as bd none)) (R (.bool true))
  | .exit id, st => st.h[r]? = some (.recb .busy T ps as bd none) ∧ Drops h0 (st.h.set r (.recb .done T ps as bd (some (.exit id)))) (R (.bool false))
  | .ret, st => st.h[r]? = some (.recb .busy T ps as bd none) ∧ Drops h0 (st.h.set r (.recb .done T ps as bd (some .ret))) (R (.bool false))
  | _, _ => False
/-- What a yield does: the assignments, and the body. -/
def YC (P : Program) (r : Nat) (args : List D) (h : Heap) (R : D → Heap → Prop) : Prop :=
  ∃ T ps as bd, h[r]? = some (.recb .ready T ps as bd none) ∧ args.length = ps.length ∧
    ∀ ro, AW ro P as (thenQ (fun st1 => st1.h[r]? = some (.recb .ready T ps as bd none) ∧ AW ro P bd (roundQ h r T ps as bd R) ⟨st1.t, st1.h.set r (.recb .busy T ps as bd none)⟩) (fun _ _ => False)) ⟨setps T ps args, h⟩
theorem roundQ.mono {h0 : Heap} {r : Nat} {T : List D} {ps : List Nat} {as bd : Code} {R R' : D → Heap → Prop} (hr : ∀ d h', R d h' → R' d h') : ∀ e st, roundQ h0 r T ps as bd R e st → roundQ h0 r T ps as bd R' e st := by
  intro e st hq
  cases e with
  | normal => exact ⟨hq.1, hq.2.mono (hr _)⟩
  | exit id => exact ⟨hq.1, hq.2.mono (hr _)⟩
  | ret => exact ⟨hq.1, hq.2.mono (hr _)⟩
  | _ => exact hq
theorem YC.mono {P : Program} {r : Nat} {args : List D} {h : Heap} {R R' : D → Heap → Prop} (hy : YC P r args h R) (hr : ∀ d h', R d h' → R' d h') : YC P r args h R' := by
  obtain ⟨T, ps, as, bd, h1, h2, h3⟩ := hy
  refine ⟨T, ps, as, bd, h1, h2, fun ro => (h3 ro).mono ?_⟩
  intro e st hq
  cases e with
  | normal => exact ⟨hq.1, hq.2.mono (roundQ.mono hr)⟩
  | _ => exact hq
end Go.YtodlpcoffmnmbaaDoor
