/-
  Own work. The value machine, part B: what it means that code, from a state of plain data, comes to a state of plain data; the rules of control.
-/
import Derived.Test.YtgokcidfclghpaaVa
import Derived.LoopN
namespace Go.Ytgokcidfclghpaa
open Go

/-- A state: the temporaries and the blocks, as plain data. -/
structure St where
  t : List D
  h : Heap

structure Sim (m : Mu) (st : St) (a : Act) (w : World) : Prop where
  defers : a.defers = []
  tmps : RepL m st.h w st.t a.tmps.toList
  heap : HSim m st.h w

def Lift (m : Mu) (h : Heap) (w : World) (Q : Exit → St → Prop) : Exit → Act → World → Prop :=
  fun e a' w' => ∃ (m' : Mu) (st' : St), Sim m' st' a' w' ∧ Evo m h w m' st'.h w' ∧ Q e st'

/-- From the state st this code comes to a way out and a state of which Q is true. -/
def AW (P : Program) (c : Code) (Q : Exit → St → Prop) (st : St) : Prop := ∀ (m : Mu) (a : Act) (w : World), Sim m st a w → c.wp P (Lift m st.h w Q) a w

def thenQ (K : St → Prop) (Q : Exit → St → Prop) : Exit → St → Prop
  | .normal, st => K st
  | e, st => Q e st

def blockQ (id : Nat) (Q : Exit → St → Prop) : Exit → St → Prop
  | .exit id', st => if id' = id then Q .normal st else Q (.exit id') st
  | e, st => Q e st

section
variable {P : Program} {Q : Exit → St → Prop} {st : St}

theorem Lift.mono {m : Mu} {h : Heap} {w : World} {Q Q' : Exit → St → Prop} (hq : ∀ e st, Q e st → Q' e st) {e : Exit} {a : Act} {w' : World} (hl : Lift m h w Q e a w') : Lift m h w Q' e a w' := by
  obtain ⟨m', st', h1, h2, h3⟩ := hl
  exact ⟨m', st', h1, h2, hq _ _ h3⟩

theorem Lift.trans {m m' : Mu} {h h' : Heap} {w w' : World} (he : Evo m h w m' h' w') {e : Exit} {a : Act} {w'' : World} (hl : Lift m' h' w' Q e a w'') : Lift m h w Q e a w'' := by
  obtain ⟨m'', st', h1, h2, h3⟩ := hl
  exact ⟨m'', st', h1, he.trans h2, h3⟩

theorem Lift.here {m : Mu} {a : Act} {w : World} {e : Exit} (h : Sim m st a w) (hq : Q e st) : Lift m st.h w Q e a w :=
  ⟨m, st, h, Evo.refl _ _ _, hq⟩

theorem AW.mono {c : Code} {Q' : Exit → St → Prop} (h : AW P c Q st) (hq : ∀ e st, Q e st → Q' e st) : AW P c Q' st :=
  fun m a w hs => wp_mono (h m a w hs) fun _ _ _ hl => hl.mono hq

theorem AW.skip (h : Q .normal st) : AW P .skip Q st := fun _ _ _ hs => wp_skip (Lift.here hs h)
theorem AW.exit {id : Nat} (h : Q (.exit id) st) : AW P (.exit id) Q st := fun _ _ _ hs => wp_exit (Lift.here hs h)
theorem AW.ret (h : Q .ret st) : AW P .ret Q st := fun _ _ _ hs => wp_ret (Lift.here hs h)

theorem then_of_lift {m : Mu} {h : Heap} {w : World} {K : St → Prop} {next : Act → World → Prop} {L : Exit → Act → World → Prop}
    (hn : ∀ m' st' a' w', Sim m' st' a' w' → Evo m h w m' st'.h w' → K st' → next a' w') (hL : ∀ e a' w', e ≠ .normal → Lift m h w Q e a' w' → L e a' w')
    {e : Exit} {a' : Act} {w' : World} (hl : Lift m h w (thenQ K Q) e a' w') : Exit.then next L e a' w' := by
  obtain ⟨m', st', h1, h2, h3⟩ := hl
  cases e with
  | normal => exact hn m' st' a' w' h1 h2 h3
  | exit id => exact hL _ _ _ (by simp) ⟨m', st', h1, h2, h3⟩
  | goto l => exact hL _ _ _ (by simp) ⟨m', st', h1, h2, h3⟩
  | ret => exact hL _ _ _ (by simp) ⟨m', st', h1, h2, h3⟩
  | panic ch => exact hL _ _ _ (by simp) ⟨m', st', h1, h2, h3⟩
  | outgrown => exact hL _ _ _ (by simp) ⟨m', st', h1, h2, h3⟩

theorem AW.seq {x y : Code} {K : St → Prop} (hx : AW P x (thenQ K Q) st) (hy : ∀ st', K st' → AW P y Q st') : AW P (.seq x y) Q st := by
  intro m a w hs
  refine wp_seq (wp_mono (hx m a w hs) fun e a' w' hl => ?_)
  refine then_of_lift (fun m' st' a' w' h1 h2 h3 => ?_) (fun _ _ _ _ h => h) hl
  exact wp_mono (hy st' h3 m' a' w' h1) fun _ _ _ hl => hl.trans h2

theorem AW.block {id : Nat} {c : Code} (h : AW P c (blockQ id Q) st) : AW P (.block id c) Q st := by
  intro m a w hs
  refine wp_block (wp_mono (h m a w hs) fun e a' w' hl => ?_)
  obtain ⟨m', st', h1, h2, h3⟩ := hl
  cases e with
  | exit id' =>
    simp only [blockQ] at h3
    simp only [Exit.inBlock]
    split
    · rename_i hid; rw [if_pos hid] at h3; exact ⟨m', st', h1, h2, h3⟩
    · rename_i hid; rw [if_neg hid] at h3; exact ⟨m', st', h1, h2, h3⟩
  | _ => exact ⟨m', st', h1, h2, h3⟩

theorem rounds_of {c : Code} (I : St → Prop) (μ : St → Nat) (round : ∀ st, I st → AW P c (thenQ (fun st' => I st' ∧ μ st' < μ st) Q) st)
    (m0 : Mu) (h0 : Heap) (w0 : World) : ∀ (n : Nat) (st : St) (m : Mu) (a : Act) (w : World), I st → μ st < n → Sim m st a w → Evo m0 h0 w0 m st.h w →
      Code.rounds P c (Lift m0 h0 w0 Q) n a w := by
  intro n
  induction n with
  | zero => intro st m a w _ h; omega
  | succ n ih =>
    intro st m a w hI hn hs he
    rw [rounds_succ]
    refine wp_mono (round st hI m a w hs) fun e a' w' hl => ?_
    refine then_of_lift (fun m' st' a' w' h1 h2 h3 => ?_) (fun _ _ _ _ h => h.trans he) hl
    exact ih st' m' a' w' h3.1 (by omega) h1 (he.trans h2)

theorem AW.loop {c : Code} (I : St → Prop) (μ : St → Nat) (h0 : I st) (round : ∀ st, I st → AW P c (thenQ (fun st' => I st' ∧ μ st' < μ st) Q) st) : AW P (.loop c) Q st :=
  fun m a w hs => wp_loop_rounds (μ st + 1) (rounds_of I μ round m st.h w _ st m a w h0 (by omega) hs (Evo.refl _ _ _))

theorem AW.cond {x : Operand} {c1 c2 : Code} {b : Bool} (hb : ∀ m a w, Sim m st a w → a.eval x = .bool b) (h1 : b = true → AW P c1 Q st) (h2 : b = false → AW P c2 Q st) : AW P (.cond x c1 c2) Q st := by
  intro m a w hs
  exact wp_cond_split (hb m a w hs) (fun e => h1 e m a w hs) (fun e => h2 e m a w hs)
end

/-- Is it a function with a body, which a call enters? -/
def callable (P : Program) (f : FuncId) : Bool :=
  match P.funcs[f]? with
  | some fn => !(fn.name == "runtime.NumGoroutine") && fn.body.isSome
  | none => false

/-- What a function does with plain data: whatever the blocks' places. -/
def FC (P : Program) (f : FuncId) (args : List D) (h : Heap) (R : D → Heap → Prop) : Prop :=
  callable P f = true ∧ ∀ (m : Mu) (w : World) (vs : List Value), HSim m h w → RepL m h w args vs → Calls P f vs.toArray w fun e w' =>
    ∃ (v : Value) (m' : Mu) (d : D) (h' : Heap), e = .returned v ∧ HSim m' h' w' ∧ Rep m' h' w' d v ∧ Evo m h w m' h' w' ∧ R d h'

theorem FC.mono {P : Program} {f : FuncId} {args : List D} {h : Heap} {R R' : D → Heap → Prop} (hc : FC P f args h R) (hr : ∀ d h', R d h' → R' d h') : FC P f args h R' :=
  ⟨hc.1, fun m w vs h1 h2 => (hc.2 m w vs h1 h2).mono fun _ _ ⟨v, m', d, h', e1, e2, e3, e4, e5⟩ => ⟨v, m', d, h', e1, e2, e3, e4, hr _ _ e5⟩⟩

theorem RepL.replicate_any {m : Mu} {ah : Heap} {w : World} (v : Value) : ∀ n, RepL m ah w (List.replicate n .any) (List.replicate n v)
  | 0 => by simp [RepL]
  | n + 1 => by simp only [List.replicate_succ, RepL]; exact ⟨v, _, rfl, by simp [Rep], RepL.replicate_any v n⟩

/-- What a function hands back, of a state. -/
def RetOk (P : Program) (fn : Func) (R : D → Heap → Prop) (st : St) : Prop :=
  ∀ (m : Mu) (a : Act) (w : World), Sim m st a w → ∃ v d, (results fn a.tmps).run P w = .ok v w ∧ Rep m st.h w d v ∧ R d st.h

def endQ (P : Program) (fn : Func) (R : D → Heap → Prop) : Exit → St → Prop
  | .normal, st | .ret, st => RetOk P fn R st
  | _, _ => False

theorem FC.of_aw {P : Program} {f : FuncId} {fn : Func} {c : Code} {args : List D} {h : Heap} {R : D → Heap → Prop} (hf : P.funcs[f]? = some fn) (hb : fn.body = some c) (hnm : (fn.name == "runtime.NumGoroutine") = false)
    (ha : AW P c (endQ P fn R) ⟨args ++ List.replicate (fn.ntmps - args.length) .any, h⟩) : FC P f args h R := by
  refine ⟨by simp [callable, hf, hb, hnm], ?_⟩
  intro m w vs hh hr
  refine calls_of_wp hf hb ?_
  have hl := hr.length
  have hs : Sim m ⟨args ++ List.replicate (fn.ntmps - args.length) .any, h⟩ { tmps := vs.toArray ++ Array.replicate (fn.ntmps - vs.toArray.size) undef, defers := [] } w :=
    ⟨rfl, by
      have := RepL.append hr (RepL.replicate_any (m := m) (ah := h) (w := w) undef (fn.ntmps - args.length))
      simpa [hl] using this, hh⟩
  refine wp_mono (ha m _ w hs) fun e a' w' hl => ?_
  obtain ⟨m', st', h1, h2, h3⟩ := hl
  cases e with
  | normal =>
    obtain ⟨v, d, h4, h5, h6⟩ := h3 m' a' w' h1
    exact ⟨h1.defers, v, h4, v, m', d, st'.h, rfl, h1.heap, h5, h2, h6⟩
  | ret =>
    obtain ⟨v, d, h4, h5, h6⟩ := h3 m' a' w' h1
    exact ⟨h1.defers, v, h4, v, m', d, st'.h, rfl, h1.heap, h5, h2, h6⟩
  | exit id => exact h3.elim
  | goto l => exact h3.elim
  | panic ch => exact h3.elim
  | outgrown => exact h3.elim

end Go.Ytgokcidfclghpaa
