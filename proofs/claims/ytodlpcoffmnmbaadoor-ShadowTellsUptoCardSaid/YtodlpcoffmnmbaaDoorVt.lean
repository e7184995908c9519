/-
  Own work. The value machine, part T: walks by simp alone, from the outside in.
-/
import Derived.Test.YtodlpcoffmnmbaaDoorVs
namespace Go.YtodlpcoffmnmbaaDoor
open Go
set_option linter.unusedVariables false
set_option linter.unusedSimpArgs false

/-- What a code does, so that simp can go on by itself; it stops at loops, at calls, and where it does not know a test. -/
def W (P : Program) : AC → (Exit → St → Prop) → St → Prop
  | .skip, Q, st => Q .normal st
  | .reg ss, Q, st => aregs P ss st fun st' => Q .normal st'
  | .dreg hd tl, Q, st => P.follows .mixedOrders = true ∧ aheads P hd st fun st' => aregs P tl st' fun st' => Q .normal st'
  | .seq x y, Q, st => W P x (thenQ (fun st' => W P y Q st') Q) st
  | .cond c x y, Q, st => match ev st.t c with
    | .bool b => if b then W P x Q st else W P y Q st
    | _ => False
  | .block id x, Q, st => W P x (blockQ id Q) st
  | .loop x, Q, st => AWA P (.loop x) Q st
  | .scope x, Q, st => W P x (noGoto Q) st
  | .exit id, Q, st => Q (.exit id) st
  | .bad, _, _ => False
  | .ret, Q, st => Q .ret st
  | .rfunc f ps a b, Q, st => ∃ nf, ∀ as bd, comp P as = some a → comp P bd = some b → RangeK P (ev st.t f) st.h.length (st.h ++ [.recb .ready st.t ps as bd none] ++ List.replicate nf .free) fun _ h' => rangeQ st.h.length st.t ps as bd Q h'

theorem W.sound {P : Program} : ∀ {c : AC} {Q : Exit → St → Prop} {st : St}, W P c Q st → AWA P c Q st
  | .skip, _, _, h => AWA.skip h
  | .reg _, _, _, h => AWA.reg h
  | .dreg _ _, _, _, h => AWA.dreg h.1 h.2
  | .seq x y, _, _, h => AWA.seq (W.sound h) fun _ h => W.sound h
  | .cond c x y, Q, st, h => by
    unfold W at h
    split at h
    · rename_i b hb
      exact AWA.cond hb (fun e => by rw [e] at h; exact W.sound h) (fun e => by rw [e] at h; exact W.sound h)
    · cases h
  | .block _ x, _, _, h => AWA.block (W.sound h)
  | .loop _, _, _, h => h
  | .scope _, _, _, h => AWA.scope (W.sound h)
  | .exit _, _, _, h => AWA.exit h
  | .bad, _, _, h => h.elim
  | .ret, _, _, h => AWA.ret h
  | .rfunc .., _, _, h => AWA.rfunc h

theorem FC.walk {P : Program} {f : FuncId} {c : CF} {args : List D} {h : Heap} {R : D → Heap → Prop} (hc : cfun P f = some c) (ha : W P c.code (endA c.res h R) ⟨args ++ List.replicate (c.n - args.length) .any, h⟩) : FC P f args h R := FC.of_cfun hc ha.sound

/-- Told as a proof, so that simp lays it down as one. -/
theorem nr {α : Sort _} {a b : α} (h : a = b) : a = b := h

/-- What is still to be done, from the inside out. -/
inductive Fr where
  | seq (y : AC)
  | blk (id : Nat)
  | tail (l : List AStm)
  | k (K : St → Prop)
  | sc
def pop (P : Program) : List Fr → (Exit → St → Prop) → Exit → St → Prop
  | [], Q, e, st => Q e st
  | .seq y :: S, Q, .normal, st => W P y (pop P S Q) st
  | .tail l :: S, Q, .normal, st => aregs P l st (pop P S Q .normal)
  | .k K :: _, _, .normal, st => K st
  | .blk id :: S, Q, .exit id', st => if id' = id then pop P S Q .normal st else pop P S Q (.exit id') st
  | .sc :: _, _, .goto _, _ => False
  | _ :: S, Q, e, st => pop P S Q e st
/-- A code, with what follows. -/
def go (P : Program) (c : AC) (S : List Fr) (Q : Exit → St → Prop) (st : St) : Prop := W P c (pop P S Q) st
def gs (P : Program) (l : List AStm) (S : List Fr) (Q : Exit → St → Prop) (st : St) : Prop := aregs P l st (pop P S Q .normal)
def gq (P : Program) (l : List AStm) (S : List Fr) (Q : Exit → St → Prop) (st : St) : Prop := aheads P l st (pop P S Q .normal)
def lp (P : Program) (x : AC) (S : List Fr) (Q : Exit → St → Prop) (st : St) : Prop := AWA P (.loop x) (pop P S Q) st
def gc (d : D) (P : Program) (x y : AC) (S : List Fr) (Q : Exit → St → Prop) (st : St) : Prop :=
  match d with
  | .bool b => if b then go P x S Q st else go P y S Q st
  | _ => False
def gop (o : Option (D × Heap)) (P : Program) (rest : List AStm) (t : List D) (dst : Option Nat) (S : List Fr) (Q : Exit → St → Prop) : Prop := hop o P rest t dst (pop P S Q .normal)
def ggrd (x : D) (b : Bool) (o : AOp) (P : Program) (rest : List AStm) (t : List D) (h : Heap) (dst : Option Nat) (S : List Fr) (Q : Exit → St → Prop) : Prop := hgrd x b o P rest t h dst (pop P S Q .normal)
def gcall (f : D) (args : List D) (h : Heap) (P : Program) (rest : List AStm) (t : List D) (dst : Option Nat) (S : List Fr) (Q : Exit → St → Prop) : Prop := hcall f args h P rest t dst (pop P S Q .normal)
def ggcall (x : D) (b : Bool) (f : AO) (args : List AO) (P : Program) (rest : List AStm) (t : List D) (h : Heap) (dst : Option Nat) (S : List Fr) (Q : Exit → St → Prop) : Prop := hgcall x b f args P rest t h dst (pop P S Q .normal)
def gfc (P : Program) (i : FuncId) (args : List D) (h : Heap) (rest : List AStm) (t : List D) (dst : Option Nat) (S : List Fr) (Q : Exit → St → Prop) : Prop := hfc P i args h rest t dst (pop P S Q .normal)
def kop (o : Option (D × Heap)) (P : Program) (rest : List AStm) (t : List D) (dst : Option Nat) (S : List Fr) (Q : Exit → St → Prop) : Prop := qop o P rest t dst (pop P S Q .normal)
def kgrd (x : D) (b : Bool) (o : AOp) (P : Program) (rest : List AStm) (t : List D) (h : Heap) (dst : Option Nat) (S : List Fr) (Q : Exit → St → Prop) : Prop := qgrd x b o P rest t h dst (pop P S Q .normal)
def kcall (f : D) (args : List D) (h : Heap) (P : Program) (rest : List AStm) (t : List D) (dst : Option Nat) (S : List Fr) (Q : Exit → St → Prop) : Prop := qcall f args h P rest t dst (pop P S Q .normal)
def kgcall (x : D) (b : Bool) (f : AO) (args : List AO) (P : Program) (rest : List AStm) (t : List D) (h : Heap) (dst : Option Nat) (S : List Fr) (Q : Exit → St → Prop) : Prop := qgcall x b f args P rest t h dst (pop P S Q .normal)
def kfcL (P : Program) (i : FuncId) (args : List D) (h : Heap) (rest : List AStm) (t : List D) (dst : Option Nat) (S : List Fr) (Q : Exit → St → Prop) : Prop :=
  ∃ d, (∀ L, FC P i args (h ++ L) fun d' h' => d' = d ∧ h' = h ++ L) ∧ gq P rest S Q ⟨setD t dst d, h⟩
def kcallL (f : D) (args : List D) (h : Heap) (P : Program) (rest : List AStm) (t : List D) (dst : Option Nat) (S : List Fr) (Q : Exit → St → Prop) : Prop :=
  ∃ d, (∀ L, CallK P f args (h ++ L) fun d' h' => d' = d ∧ h' = h ++ L) ∧ gq P rest S Q ⟨setD t dst d, h⟩
def kcallW (f : D) (args : List D) (h : Heap) (P : Program) (rest : List AStm) (t : List D) (dst : Option Nat) (S : List Fr) (Q : Exit → St → Prop) : Prop :=
  ∃ d h2, h2.length = h.length ∧ (∀ L, CallK P f args (h ++ L) fun d' h' => d' = d ∧ h' = h2 ++ L) ∧ gq P rest S Q ⟨setD t dst d, h2⟩
def kfcW (P : Program) (i : FuncId) (args : List D) (h : Heap) (rest : List AStm) (t : List D) (dst : Option Nat) (S : List Fr) (Q : Exit → St → Prop) : Prop :=
  ∃ d h2, h2.length = h.length ∧ (∀ L, FC P i args (h ++ L) fun d' h' => d' = d ∧ h' = h2 ++ L) ∧ gq P rest S Q ⟨setD t dst d, h2⟩
def kchk (o : Option (D × Heap)) (d : D) (P : Program) (rest : List AStm) (t : List D) (h : Heap) (S : List Fr) (Q : Exit → St → Prop) : Prop :=
  holds o (fun p => p.1 = d) ∧ gq P rest S Q ⟨t, h⟩
def kgchk (x : D) (b : Bool) (o : AOp) (d : D) (P : Program) (rest : List AStm) (t : List D) (h : Heap) (S : List Fr) (Q : Exit → St → Prop) : Prop :=
  match x with
  | .bool c => (c = b → holds (aop o t h) (fun p => p.1 = d)) ∧ gq P rest S Q ⟨t, h⟩
  | .tup [] => gq P rest S Q ⟨t, h⟩
  | _ => False
def kfc (P : Program) (i : FuncId) (args : List D) (h : Heap) (rest : List AStm) (t : List D) (dst : Option Nat) (S : List Fr) (Q : Exit → St → Prop) : Prop := qfc P i args h rest t dst (pop P S Q .normal)

/-- A call that may lay new memory, among operations whose order is open. -/
def xcall (f : D) (args : List D) (h : Heap) (P : Program) (rest : List AStm) (t : List D) (dst : Option Nat) (S : List Fr) (Q : Exit → St → Prop) : Prop :=
  CallK P f args h fun d h' => (∃ L, h' = h ++ L) ∧ gs P rest S Q ⟨setD t dst d, h'⟩
def xgcall (x : D) (b : Bool) (f : AO) (args : List AO) (P : Program) (rest : List AStm) (t : List D) (h : Heap) (dst : Option Nat) (S : List Fr) (Q : Exit → St → Prop) : Prop :=
  match x with
  | .bool c => (c = b → xcall (ev t f) (args.map (ev t)) h P rest t dst S Q) ∧ (¬ c = b → gs P rest S Q ⟨setD t dst (.tup []), h⟩)
  | .tup [] => gs P rest S Q ⟨setD t dst (.tup []), h⟩
  | _ => False
def xfc (P : Program) (i : FuncId) (args : List D) (h : Heap) (rest : List AStm) (t : List D) (dst : Option Nat) (S : List Fr) (Q : Exit → St → Prop) : Prop :=
  FC P i args h fun d h' => (∃ L, h' = h ++ L) ∧ gs P rest S Q ⟨setD t dst d, h'⟩

/-- A loop over a function. -/
def gr (f : D) (P : Program) (ps : List Nat) (x y : AC) (t : List D) (h : Heap) (S : List Fr) (Q : Exit → St → Prop) : Prop :=
  ∃ nf, ∀ as bd, comp P as = some x → comp P bd = some y → RangeK P f h.length (h ++ [.recb .ready t ps as bd none] ++ List.replicate nf .free) fun _ h' => rangeQ h.length t ps as bd (pop P S Q) h'
/-- A yield is called. -/
def gyc (P : Program) (r : Nat) (args : List D) (h : Heap) (rest : List AStm) (t : List D) (dst : Option Nat) (S : List Fr) (Q : Exit → St → Prop) : Prop :=
  YC P r args h fun d h' => gs P rest S Q ⟨setD t dst d, h'⟩

theorem FC.goes {P : Program} {f : FuncId} {c : CF} {args : List D} {h : Heap} {R : D → Heap → Prop} (hc : cfun P f = some c) (ha : go P c.code [] (endA c.res h R) ⟨args ++ List.replicate (c.n - args.length) .any, h⟩) : FC P f args h R := by
  refine FC.walk hc ?_
  have e : pop P [] (endA c.res h R) = endA c.res h R := by funext e st; cases e <;> rfl
  rw [go, e] at ha
  exact ha

section
variable {P : Program} {Q : Exit → St → Prop} {S : List Fr} {t : List D} {h h0 h' : Heap} {x y : AC} {c : AO} {id id' : Nat} {ss tl : List AStm} {st : St} {b : Bool} {K : St → Prop} {o : AOp} {rest : List AStm} {dst : Option Nat} {f : AO} {args : List AO} {d : D} {s : Nat} {g : Bool}
theorem po_seq : pop P (.seq y :: S) Q .normal ⟨t, h⟩ = go P y S Q ⟨t, h⟩ := nr rfl
theorem po_seqE : pop P (.seq y :: S) Q (.exit id) ⟨t, h⟩ = pop P S Q (.exit id) ⟨t, h⟩ := nr rfl
theorem po_seqR : pop P (.seq y :: S) Q .ret ⟨t, h⟩ = pop P S Q .ret ⟨t, h⟩ := nr rfl
theorem po_tail : pop P (.tail tl :: S) Q .normal ⟨t, h⟩ = gs P tl S Q ⟨t, h⟩ := nr rfl
theorem po_k : pop P (.k K :: S) Q .normal ⟨t, h⟩ = K ⟨t, h⟩ := nr rfl
theorem po_kE : pop P (.k K :: S) Q (.exit id) ⟨t, h⟩ = pop P S Q (.exit id) ⟨t, h⟩ := nr rfl
theorem po_kR : pop P (.k K :: S) Q .ret ⟨t, h⟩ = pop P S Q .ret ⟨t, h⟩ := nr rfl
theorem po_blk : pop P (.blk id :: S) Q .normal ⟨t, h⟩ = pop P S Q .normal ⟨t, h⟩ := nr rfl
theorem po_blkE : pop P (.blk id :: S) Q (.exit id) ⟨t, h⟩ = pop P S Q .normal ⟨t, h⟩ := by simp [pop]
theorem po_blkE' (hn : ¬ id' = id) : pop P (.blk id :: S) Q (.exit id') ⟨t, h⟩ = pop P S Q (.exit id') ⟨t, h⟩ := by simp [pop, hn]
theorem po_blkR : pop P (.blk id :: S) Q .ret ⟨t, h⟩ = pop P S Q .ret ⟨t, h⟩ := nr rfl
theorem po_endR {rs : List ARes} {R : D → Heap → Prop} : pop P [] (endA rs h0 R) .ret ⟨t, h⟩ = ∃ ds, resD rs ⟨t, h⟩ = some ds ∧ FinOk h0 h ds R := nr rfl
theorem po_endN {rs : List ARes} {R : D → Heap → Prop} : pop P [] (endA rs h0 R) .normal ⟨t, h⟩ = ∃ ds, resD rs ⟨t, h⟩ = some ds ∧ FinOk h0 h ds R := nr rfl
theorem go_skip : go P .skip S Q ⟨t, h⟩ = pop P S Q .normal ⟨t, h⟩ := nr rfl
theorem go_reg : go P (.reg ss) S Q ⟨t, h⟩ = gs P ss S Q ⟨t, h⟩ := nr rfl
theorem go_dreg (hm : P.follows .mixedOrders = true) : go P (.dreg ss tl) S Q ⟨t, h⟩ = gq P ss (.tail tl :: S) Q ⟨t, h⟩ := by
  simp only [go, W, hm, true_and, gq]; rfl
theorem go_seq : go P (.seq x y) S Q ⟨t, h⟩ = go P x (.seq y :: S) Q ⟨t, h⟩ := by
  have e : thenQ (fun st' => W P y (pop P S Q) st') (pop P S Q) = pop P (.seq y :: S) Q := by funext e st; cases e <;> rfl
  simp only [go, W, e]
theorem go_cond : go P (.cond c x y) S Q ⟨t, h⟩ = gc (ev t c) P x y S Q ⟨t, h⟩ := nr rfl
theorem go_block : go P (.block id x) S Q ⟨t, h⟩ = go P x (.blk id :: S) Q ⟨t, h⟩ := by
  have e : blockQ id (pop P S Q) = pop P (.blk id :: S) Q := by funext e st; cases e <;> rfl
  simp only [go, W, e]
theorem po_sc : pop P (.sc :: S) Q .normal ⟨t, h⟩ = pop P S Q .normal ⟨t, h⟩ := nr rfl
theorem po_scE : pop P (.sc :: S) Q (.exit id) ⟨t, h⟩ = pop P S Q (.exit id) ⟨t, h⟩ := nr rfl
theorem po_scR : pop P (.sc :: S) Q .ret ⟨t, h⟩ = pop P S Q .ret ⟨t, h⟩ := nr rfl
theorem go_scope : go P (.scope x) S Q ⟨t, h⟩ = go P x (.sc :: S) Q ⟨t, h⟩ := by
  have e : noGoto (pop P S Q) = pop P (.sc :: S) Q := by funext e st; cases e <;> rfl
  simp only [go, W, e]
theorem go_loop : go P (.loop x) S Q ⟨t, h⟩ = lp P x S Q ⟨t, h⟩ := nr rfl
theorem go_exit : go P (.exit id) S Q ⟨t, h⟩ = pop P S Q (.exit id) ⟨t, h⟩ := nr rfl
theorem go_ret : go P .ret S Q ⟨t, h⟩ = pop P S Q .ret ⟨t, h⟩ := nr rfl
theorem gc_T : gc (.bool true) P x y S Q ⟨t, h⟩ = go P x S Q ⟨t, h⟩ := by simp [gc]
theorem gc_F : gc (.bool false) P x y S Q ⟨t, h⟩ = go P y S Q ⟨t, h⟩ := by simp [gc]
theorem gc_split (h1 : b = true → gc (.bool true) P x y S Q st) (h2 : b = false → gc (.bool false) P x y S Q st) : gc (.bool b) P x y S Q st := by
  cases b
  · exact h2 rfl
  · exact h1 rfl
theorem gs_nil : gs P [] S Q ⟨t, h⟩ = pop P S Q .normal ⟨t, h⟩ := nr rfl
theorem gs_op : gs P (.op dst none o :: rest) S Q ⟨t, h⟩ = gop (aop o t h) P rest t dst S Q := nr rfl
theorem gs_opg : gs P (.op dst (some (s, b)) o :: rest) S Q ⟨t, h⟩ = ggrd (t.getD s .any) b o P rest t h dst S Q := nr rfl
theorem gs_call : gs P (.call dst none f args :: rest) S Q ⟨t, h⟩ = gcall (ev t f) (args.map (ev t)) h P rest t dst S Q := nr rfl
theorem gs_callg : gs P (.call dst (some (s, b)) f args :: rest) S Q ⟨t, h⟩ = ggcall (t.getD s .any) b f args P rest t h dst S Q := nr rfl
theorem gop_some : gop (some (d, h')) P rest t dst S Q = gs P rest S Q ⟨setD t dst d, h'⟩ := hop_some
theorem gop_ite {q : Prop} [Decidable q] {z : Option (D × Heap)} : gop (if q then z else none) P rest t dst S Q = (q ∧ gop z P rest t dst S Q) := hop_ite
theorem ggrd_TT : ggrd (.bool true) true o P rest t h dst S Q = gop (aop o t h) P rest t dst S Q := by simp [ggrd, hgrd, gop]
theorem ggrd_FF : ggrd (.bool false) false o P rest t h dst S Q = gop (aop o t h) P rest t dst S Q := by simp [ggrd, hgrd, gop]
theorem ggrd_TF : ggrd (.bool true) false o P rest t h dst S Q = gs P rest S Q ⟨setD t dst (.tup []), h⟩ := by simp [ggrd, hgrd, gs]
theorem ggrd_FT : ggrd (.bool false) true o P rest t h dst S Q = gs P rest S Q ⟨setD t dst (.tup []), h⟩ := by simp [ggrd, hgrd, gs]
theorem ggrd_tup : ggrd (.tup []) b o P rest t h dst S Q = gs P rest S Q ⟨setD t dst (.tup []), h⟩ := nr rfl
theorem ggrd_split (h1 : b = true → ggrd (.bool true) g o P rest t h dst S Q) (h2 : b = false → ggrd (.bool false) g o P rest t h dst S Q) : ggrd (.bool b) g o P rest t h dst S Q := by
  cases b
  · exact h2 rfl
  · exact h1 rfl
theorem ggcall_TT : ggcall (.bool true) true f args P rest t h dst S Q = gcall (ev t f) (args.map (ev t)) h P rest t dst S Q := by simp [ggcall, hgcall, gcall]
theorem ggcall_FF : ggcall (.bool false) false f args P rest t h dst S Q = gcall (ev t f) (args.map (ev t)) h P rest t dst S Q := by simp [ggcall, hgcall, gcall]
theorem ggcall_TF : ggcall (.bool true) false f args P rest t h dst S Q = gs P rest S Q ⟨setD t dst (.tup []), h⟩ := by simp [ggcall, hgcall, gs]
theorem ggcall_FT : ggcall (.bool false) true f args P rest t h dst S Q = gs P rest S Q ⟨setD t dst (.tup []), h⟩ := by simp [ggcall, hgcall, gs]
theorem ggcall_tup : ggcall (.tup []) b f args P rest t h dst S Q = gs P rest S Q ⟨setD t dst (.tup []), h⟩ := nr rfl
theorem ggcall_split (h1 : b = true → ggcall (.bool true) g f args P rest t h dst S Q) (h2 : b = false → ggcall (.bool false) g f args P rest t h dst S Q) : ggcall (.bool b) g f args P rest t h dst S Q := by
  cases b
  · exact h2 rfl
  · exact h1 rfl
theorem gcall_fn {i : FuncId} {first cap as : List D} : gcall (.fn (.func i) first cap) as h P rest t dst S Q = gfc P i (first ++ as ++ cap) h rest t dst S Q := nr rfl
/-- A call, by what the function does. -/
theorem gfc_of {i : FuncId} {as : List D} {R : D → Heap → Prop} (hc : FC P i as h R) (hk : ∀ d h', R d h' → gs P rest S Q ⟨setD t dst d, h'⟩) : gfc P i as h rest t dst S Q := hc.mono hk
theorem gcall_yv {r : Nat} {as : List D} : gcall (.yv r) as h P rest t dst S Q = gyc P r as h rest t dst S Q := nr rfl
theorem gyc_of {r : Nat} {as : List D} {R : D → Heap → Prop} (hc : YC P r as h R) (hk : ∀ d h', R d h' → gs P rest S Q ⟨setD t dst d, h'⟩) : gyc P r as h rest t dst S Q := hc.mono hk
theorem go_rfunc {ps : List Nat} : go P (.rfunc f ps x y) S Q ⟨t, h⟩ = gr (ev t f) P ps x y t h S Q := nr rfl
theorem gr_of {ps : List Nat} {i : FuncId} {first cap : List D} (nf : Nat) (hc : ∀ as bd, comp P as = some x → comp P bd = some y → FC P i (first ++ [.yv h.length] ++ cap) (h ++ [.recb .ready t ps as bd none] ++ List.replicate nf .free) fun _ h' => rangeQ h.length t ps as bd (pop P S Q) h') :
    gr (.fn (.func i) first cap) P ps x y t h S Q := ⟨nf, hc⟩
theorem YC.goes {r : Nat} {as' : List D} {R : D → Heap → Prop} {T : List D} {ps : List Nat} {as bd : Code} (h1 : comp P as = some x) (h2 : comp P bd = some y)
    (hr : h[r]? = some (.recb .ready T ps as bd none)) (p1 : x.plain = true) (p2 : y.plain = true) (hl : as'.length = ps.length)
    (hw : go P x [.k (fun st1 => st1.h[r]? = some (.recb .ready T ps as bd none) ∧ go P y [] (roundQ h r T ps as bd R) ⟨st1.t, st1.h.set r (.recb .busy T ps as bd none)⟩)] (fun _ _ => False) ⟨setps T ps as', h⟩) : YC P r as' h R := by
  refine YC.walk h1 h2 hr p1 p2 hl ((W.sound hw).mono ?_)
  intro e st hq
  cases e with
  | normal =>
    refine ⟨hq.1, (W.sound hq.2).mono ?_⟩
    intro e st hq
    cases e <;> exact hq
  | _ => exact hq
theorem po_rN {r : Nat} {T : List D} {ps : List Nat} {as bd : Code} {R : D → Heap → Prop} : pop P [] (roundQ h0 r T ps as bd R) .normal ⟨t, h⟩ = (h[r]? = some (.recb .busy T ps as bd none) ∧ Drops h0 (h.set r (.recb .ready T ps as bd none)) (R (.bool true))) := nr rfl
theorem po_rE {r : Nat} {T : List D} {ps : List Nat} {as bd : Code} {R : D → Heap → Prop} : pop P [] (roundQ h0 r T ps as bd R) (.exit id) ⟨t, h⟩ = (h[r]? = some (.recb .busy T ps as bd none) ∧ Drops h0 (h.set r (.recb .done T ps as bd (some (.exit id)))) (R (.bool false))) := nr rfl
theorem po_rR {r : Nat} {T : List D} {ps : List Nat} {as bd : Code} {R : D → Heap → Prop} : pop P [] (roundQ h0 r T ps as bd R) .ret ⟨t, h⟩ = (h[r]? = some (.recb .busy T ps as bd none) ∧ Drops h0 (h.set r (.recb .done T ps as bd (some .ret))) (R (.bool false))) := nr rfl
theorem gq_nil : gq P [] S Q ⟨t, h⟩ = pop P S Q .normal ⟨t, h⟩ := nr rfl
theorem gq_op : gq P (.op dst none o :: rest) S Q ⟨t, h⟩ = kop (aop o t h) P rest t dst S Q := nr rfl
theorem gq_opg : gq P (.op dst (some (s, b)) o :: rest) S Q ⟨t, h⟩ = kgrd (t.getD s .any) b o P rest t h dst S Q := nr rfl
theorem gq_call : gq P (.call dst none f args :: rest) S Q ⟨t, h⟩ = kcall (ev t f) (args.map (ev t)) h P rest t dst S Q := nr rfl
theorem gq_callg : gq P (.call dst (some (s, b)) f args :: rest) S Q ⟨t, h⟩ = kgcall (t.getD s .any) b f args P rest t h dst S Q := nr rfl
theorem kop_some : kop (some (d, h')) P rest t dst S Q = gq P rest S Q ⟨setD t dst d, h'⟩ := qop_some
theorem kop_ite {q : Prop} [Decidable q] {z : Option (D × Heap)} : kop (if q then z else none) P rest t dst S Q = (q ∧ kop z P rest t dst S Q) := qop_ite
theorem kgrd_TT : kgrd (.bool true) true o P rest t h dst S Q = kop (aop o t h) P rest t dst S Q := by simp [kgrd, qgrd, kop]
theorem kgrd_FF : kgrd (.bool false) false o P rest t h dst S Q = kop (aop o t h) P rest t dst S Q := by simp [kgrd, qgrd, kop]
theorem kgrd_TF : kgrd (.bool true) false o P rest t h dst S Q = gq P rest S Q ⟨setD t dst (.tup []), h⟩ := by simp [kgrd, qgrd, gq]
theorem kgrd_FT : kgrd (.bool false) true o P rest t h dst S Q = gq P rest S Q ⟨setD t dst (.tup []), h⟩ := by simp [kgrd, qgrd, gq]
theorem kgrd_tup : kgrd (.tup []) b o P rest t h dst S Q = gq P rest S Q ⟨setD t dst (.tup []), h⟩ := nr rfl
theorem kgrd_split (h1 : b = true → kgrd (.bool true) g o P rest t h dst S Q) (h2 : b = false → kgrd (.bool false) g o P rest t h dst S Q) : kgrd (.bool b) g o P rest t h dst S Q := by
  cases b
  · exact h2 rfl
  · exact h1 rfl
theorem kgcall_TT : kgcall (.bool true) true f args P rest t h dst S Q = kcall (ev t f) (args.map (ev t)) h P rest t dst S Q := by simp [kgcall, qgcall, kcall]
theorem kgcall_FF : kgcall (.bool false) false f args P rest t h dst S Q = kcall (ev t f) (args.map (ev t)) h P rest t dst S Q := by simp [kgcall, qgcall, kcall]
theorem kgcall_TF : kgcall (.bool true) false f args P rest t h dst S Q = gq P rest S Q ⟨setD t dst (.tup []), h⟩ := by simp [kgcall, qgcall, gq]
theorem kgcall_FT : kgcall (.bool false) true f args P rest t h dst S Q = gq P rest S Q ⟨setD t dst (.tup []), h⟩ := by simp [kgcall, qgcall, gq]
theorem kgcall_tup : kgcall (.tup []) b f args P rest t h dst S Q = gq P rest S Q ⟨setD t dst (.tup []), h⟩ := nr rfl
theorem kgcall_split (h1 : b = true → kgcall (.bool true) g f args P rest t h dst S Q) (h2 : b = false → kgcall (.bool false) g f args P rest t h dst S Q) : kgcall (.bool b) g f args P rest t h dst S Q := by
  cases b
  · exact h2 rfl
  · exact h1 rfl
theorem kcall_fn {i : FuncId} {first cap as : List D} : kcall (.fn (.func i) first cap) as h P rest t dst S Q = kfc P i (first ++ as ++ cap) h rest t dst S Q := nr rfl
theorem kfc_of {i : FuncId} {as : List D} (hc : FC P i as h fun d' h' => d' = d ∧ h' = h) (hk : gq P rest S Q ⟨setD t dst d, h⟩) : kfc P i as h rest t dst S Q := ⟨d, hc, hk⟩
end

section
variable {P : Program} {Q : Exit → St → Prop} {S : List Fr} {t : List D} {h h' : Heap} {rest : List AStm} {dst : Option Nat} {f : AO} {args : List AO} {d d' : D} {o : AOp} {x s : Nat} {b c : Bool}
theorem gq_callL : gq P (.callL dst none f args :: rest) S Q ⟨t, h⟩ = kcallL (ev t f) (args.map (ev t)) h P rest t dst S Q := nr rfl
theorem kcallL_fn {i : FuncId} {first cap as : List D} : kcallL (.fn (.func i) first cap) as h P rest t dst S Q = kfcL P i (first ++ as ++ cap) h rest t dst S Q := nr rfl
theorem kfcL_of {i : FuncId} {as : List D} (hc : ∀ L, FC P i as (h ++ L) fun d' h' => d' = d ∧ h' = h ++ L) (hk : gq P rest S Q ⟨setD t dst d, h⟩) : kfcL P i as h rest t dst S Q := ⟨d, hc, hk⟩
theorem gq_callW : gq P (.callW dst f args :: rest) S Q ⟨t, h⟩ = kcallW (ev t f) (args.map (ev t)) h P rest t dst S Q := nr rfl
theorem kcallW_fn {i : FuncId} {first cap as : List D} : kcallW (.fn (.func i) first cap) as h P rest t dst S Q = kfcW P i (first ++ as ++ cap) h rest t dst S Q := nr rfl
theorem kfcW_of {i : FuncId} {as : List D} {h2 : Heap} (hc : ∀ L, FC P i as (h ++ L) fun d' h' => d' = d ∧ h' = h2 ++ L) (hl : h2.length = h.length) (hk : gq P rest S Q ⟨setD t dst d, h2⟩) : kfcW P i as h rest t dst S Q := ⟨d, h2, hl, hc, hk⟩
theorem gs_callG : gs P (.callG dst none f args :: rest) S Q ⟨t, h⟩ = xcall (ev t f) (args.map (ev t)) h P rest t dst S Q := nr rfl
theorem gs_callGg : gs P (.callG dst (some (s, b)) f args :: rest) S Q ⟨t, h⟩ = xgcall (t.getD s .any) b f args P rest t h dst S Q := by
  simp only [gs, aregs, guardK, xgcall]
  rfl
theorem xgcall_TT : xgcall (.bool true) true f args P rest t h dst S Q = xcall (ev t f) (args.map (ev t)) h P rest t dst S Q := by simp [xgcall]
theorem xgcall_FF : xgcall (.bool false) false f args P rest t h dst S Q = xcall (ev t f) (args.map (ev t)) h P rest t dst S Q := by simp [xgcall]
theorem xgcall_TF : xgcall (.bool true) false f args P rest t h dst S Q = gs P rest S Q ⟨setD t dst (.tup []), h⟩ := by simp [xgcall]
theorem xgcall_FT : xgcall (.bool false) true f args P rest t h dst S Q = gs P rest S Q ⟨setD t dst (.tup []), h⟩ := by simp [xgcall]
theorem xgcall_tup : xgcall (.tup []) b f args P rest t h dst S Q = gs P rest S Q ⟨setD t dst (.tup []), h⟩ := nr rfl
theorem xcall_fn {i : FuncId} {first cap as : List D} : xcall (.fn (.func i) first cap) as h P rest t dst S Q = xfc P i (first ++ as ++ cap) h rest t dst S Q := nr rfl
/-- Such a call, by what the function does: the blocks that were there stay. -/
theorem xfc_of {i : FuncId} {as : List D} {R : D → Heap → Prop} (hc : FC P i as h R) (hk : ∀ d h', R d h' → (∃ L, h' = h ++ L) ∧ gs P rest S Q ⟨setD t dst d, h'⟩) : xfc P i as h rest t dst S Q := hc.mono hk
theorem gq_chk : gq P (.chk x none o :: rest) S Q ⟨t, h⟩ = kchk (aop o t h) (t.getD x .any) P rest t h S Q := nr rfl
theorem kchk_some : kchk (some (d, h')) d' P rest t h S Q = (d = d' ∧ gq P rest S Q ⟨t, h⟩) := by simp [kchk]
theorem gq_chkg : gq P (.chk x (some (s, b)) o :: rest) S Q ⟨t, h⟩ = kgchk (t.getD s .any) b o (t.getD x .any) P rest t h S Q := by
  simp only [gq, aheads, guardK, kgchk]
  generalize t.getD s .any = q
  cases q with
  | bool c => by_cases hc : c = b <;> simp [hc]
  | tup l => cases l <;> simp
  | _ => simp
theorem kgchk_TT : kgchk (.bool true) true o d P rest t h S Q = kchk (aop o t h) d P rest t h S Q := by simp [kgchk, kchk]
theorem kgchk_FF : kgchk (.bool false) false o d P rest t h S Q = kchk (aop o t h) d P rest t h S Q := by simp [kgchk, kchk]
theorem kgchk_TF : kgchk (.bool true) false o d P rest t h S Q = gq P rest S Q ⟨t, h⟩ := by simp [kgchk]
theorem kgchk_FT : kgchk (.bool false) true o d P rest t h S Q = gq P rest S Q ⟨t, h⟩ := by simp [kgchk]
theorem kgchk_tup : kgchk (.tup []) b o d P rest t h S Q = gq P rest S Q ⟨t, h⟩ := nr rfl
end

/-! ### what operations make, by the sort of value -/
section
variable {h : Heap} {cs : List D} {r off n k sz bytes : Nat} {f : Bool} {d : D} {x i : D} {s : ByteArray} {kd : IntKind} {z : Int} {b : Bool} {ys vs : List D} {lo hi : Option D} {fn : Fn} {l l' : List D}
/-- A block's cells, where pointers go. -/
def boxOf (b : Option Blk) : Option (List D) := match b with
  | some (.box cs) | some (.icebox cs) => some cs
  | _ => none
def growOf (b : Option Blk) : Option (Nat × List D × Nat) := match b with
  | some (.grow sz cs len) | some (.ice sz cs len) => some (sz, cs, len)
  | _ => none
theorem boxOf_box : boxOf (some (.box cs)) = some cs := rfl
theorem boxOf_ice : boxOf (some (.icebox cs)) = some cs := rfl
theorem growOf_grow : growOf (some (.grow sz cs n)) = some (sz, cs, n) := rfl
theorem growOf_ice : growOf (some (.ice sz cs n)) = some (sz, cs, n) := rfl
theorem pc_fptr : ptrCells h (.fptr cs) = some cs := rfl
theorem pc_ref : ptrCells h (.ref r off) = (boxOf h[r]?).map fun cs => cs.drop off := by
  simp only [ptrCells, boxOf]; rcases h[r]? with _ | _ | _ | _ | _ | _ | _ | _ | _ <;> rfl
theorem pc_eref : ptrCells h (.eref r n off) = (growOf h[r]?).bind fun p => if n = p.2.2 then some (p.2.1.drop off) else none := by
  simp only [ptrCells, growOf]; rcases h[r]? with _ | _ | _ | _ | _ | _ | _ | _ | _ <;> rfl
theorem sc_nils : slCells h sz .nils = some ([], 0) := rfl
theorem sc_sl : slCells h sz (.sl cs n f) = if n * sz ≤ cs.length then some (cs.take (n * sz), n) else none := rfl
theorem sc_own : slCells h sz (.own r n) = (growOf h[r]?).bind fun p => if n = p.2.2 ∧ p.1 = sz then some (p.2.1, n) else none := by
  simp only [slCells, growOf]; rcases h[r]? with _ | _ | _ | _ | _ | _ | _ | _ | _ <;> rfl
theorem sc_osl : slCells h sz (.osl r n off k) = (growOf h[r]?).bind fun p => if n = p.2.2 ∧ p.1 = sz ∧ off + k * sz ≤ p.2.1.length then some ((p.2.1.drop off).take (k * sz), k) else none := by
  simp only [slCells, growOf]; rcases h[r]? with _ | _ | _ | _ | _ | _ | _ | _ | _ <;> rfl
theorem sc_bsl : slCells h sz (.bsl r off k) = (boxOf h[r]?).bind fun cs => if off + k * sz ≤ cs.length then some ((cs.drop off).take (k * sz), k) else none := by
  simp only [slCells, boxOf]; rcases h[r]? with _ | _ | _ | _ | _ | _ | _ | _ | _ <;> rfl
theorem ll_nils : slLen h .nils = some 0 := rfl
theorem ll_sl : slLen h (.sl cs n f) = some n := rfl
theorem ll_own : slLen h (.own r n) = (growOf h[r]?).bind fun p => if n = p.2.2 then some n else none := by
  simp only [slLen, growOf]; rcases h[r]? with _ | _ | _ | _ | _ | _ | _ | _ | _ <;> rfl
theorem ll_osl : slLen h (.osl r n off k) = (growOf h[r]?).bind fun p => if n = p.2.2 then some k else none := by
  simp only [slLen, growOf]; rcases h[r]? with _ | _ | _ | _ | _ | _ | _ | _ | _ <;> rfl
theorem ll_bsl : slLen h (.bsl r off k) = (boxOf h[r]?).map fun _ => k := by
  simp only [slLen, boxOf]; rcases h[r]? with _ | _ | _ | _ | _ | _ | _ | _ | _ <;> rfl
theorem ld_str : lenD h (.str s) = some s.size := rfl
theorem ld_nils : lenD h .nils = some 0 := rfl
theorem ld_sl : lenD h (.sl cs n f) = some n := rfl
theorem ld_own : lenD h (.own r n) = (growOf h[r]?).bind fun p => if n = p.2.2 then some n else none := ll_own
theorem ld_osl : lenD h (.osl r n off k) = (growOf h[r]?).bind fun p => if n = p.2.2 then some k else none := ll_osl (off := off)
theorem ld_bsl : lenD h (.bsl r off k) = (boxOf h[r]?).map fun _ => k := ll_bsl (off := off)
theorem src_str : srcCells h sz (.str s) = if sz = 1 then some (ofBytes s.data.toList, s.size) else none := rfl
theorem src_nils : srcCells h sz .nils = some ([], 0) := rfl
theorem src_sl : srcCells h sz (.sl cs n f) = slCells h sz (.sl cs n f) := rfl
theorem src_own : srcCells h sz (.own r n) = slCells h sz (.own r n) := rfl
theorem src_osl : srcCells h sz (.osl r n off k) = slCells h sz (.osl r n off k) := rfl
theorem src_bsl : srcCells h sz (.bsl r off k) = slCells h sz (.bsl r off k) := rfl
theorem fa_fptr : fieldAddr h off (.fptr cs) = some (.fptr (cs.drop off)) := rfl
theorem fa_ref : fieldAddr h k (.ref r off) = (boxOf h[r]?).map fun _ => .ref r (off + k) := by
  simp only [fieldAddr, boxOf]; rcases h[r]? with _ | _ | _ | _ | _ | _ | _ | _ | _ <;> rfl
theorem fa_eref : fieldAddr h k (.eref r n off) = (growOf h[r]?).bind fun p => if n = p.2.2 then some (.eref r n (off + k)) else none := by
  simp only [fieldAddr, growOf]; rcases h[r]? with _ | _ | _ | _ | _ | _ | _ | _ | _ <;> rfl
theorem so_nilp : D.nilp.sortOf = 1 := rfl
theorem so_fptr : (D.fptr cs).sortOf = 1 := rfl
theorem so_ref : (D.ref r off).sortOf = 1 := rfl
theorem so_eref : (D.eref r n off).sortOf = 1 := rfl
theorem so_nils : D.nils.sortOf = 2 := rfl
theorem so_sl : (D.sl cs n f).sortOf = 2 := rfl
theorem so_own : (D.own r n).sortOf = 2 := rfl
theorem so_osl : (D.osl r n off k).sortOf = 2 := rfl
theorem so_bsl : (D.bsl r off k).sortOf = 2 := rfl
theorem so_nilf : D.nilf.sortOf = 3 := rfl
theorem so_fn : (D.fn fn l l').sortOf = 3 := rfl
theorem so_nili : D.nili.sortOf = 4 := rfl
theorem so_str : (D.str s).sortOf = 0 := rfl
theorem so_int : (D.int kd z).sortOf = 0 := rfl
theorem in_nilp : isNil h .nilp = some true := rfl
theorem in_nils : isNil h .nils = some true := rfl
theorem in_nilf : isNil h .nilf = some true := rfl
theorem in_nili : isNil h .nili = some true := rfl
theorem in_fn : isNil h (.fn fn l l') = some false := rfl
theorem in_fptr : isNil h (.fptr cs) = some false := rfl
theorem in_sl : isNil h (.sl cs n f) = some false := rfl
theorem in_own : isNil h (.own r n) = (slLen h (.own r n)).map fun _ => false := rfl
theorem in_osl : isNil h (.osl r n off k) = (slLen h (.osl r n off k)).map fun _ => false := rfl
theorem in_bsl : isNil h (.bsl r off k) = (slLen h (.bsl r off k)).map fun _ => false := rfl
theorem in_ref : isNil h (.ref r off) = (fieldAddr h 0 (.ref r off)).map fun _ => false := rfl
theorem in_eref : isNil h (.eref r n off) = (fieldAddr h 0 (.eref r n off)).map fun _ => false := rfl
theorem la_agg : laid (.agg cs) = cs.all D.one := rfl
theorem la_int : laid (.int kd z) = true := rfl
theorem la_bool : laid (.bool b) = true := rfl
theorem la_str : laid (.str s) = true := rfl
theorem la_nils : laid .nils = true := rfl
theorem la_sl : laid (.sl cs n f) = true := rfl
theorem la_own : laid (.own r n) = true := rfl
theorem la_osl : laid (.osl r n off k) = true := rfl
theorem la_bsl : laid (.bsl r off k) = true := rfl
theorem la_nilp : laid .nilp = true := rfl
theorem la_fptr : laid (.fptr cs) = true := rfl
theorem la_ref : laid (.ref r off) = true := rfl
theorem la_mref {r : Nat} : laid (.mref r) = true := rfl
theorem la_nilm : laid .nilm = true := rfl
theorem vc_mref {r : Nat} : vcells (.mref r) = [.mref r] := rfl
theorem vc_nilm : vcells .nilm = [.nilm] := rfl
theorem on_mref {r : Nat} : (D.mref r).one = true := rfl
theorem on_nilm : D.nilm.one = true := rfl
theorem fm_some {z : D} {p : Nat × D} : foundM z (some p) = p.2 := rfl
theorem fm_none {z : D} : foundM z none = z := rfl
theorem pm_some {es : List (D × D)} {e : D × D} {p : Nat × D} : putM es e (some p) = es.set p.1 e := rfl
theorem pm_none {es : List (D × D)} {e : D × D} : putM es e none = es ++ [e] := rfl
theorem la_eref : laid (.eref r n off) = true := rfl
theorem vc_agg : vcells (.agg cs) = cs := rfl
theorem vc_int : vcells (.int kd z) = [.int kd z] := rfl
theorem vc_bool : vcells (.bool b) = [.bool b] := rfl
theorem vc_str : vcells (.str s) = [.str s] := rfl
theorem vc_nils : vcells .nils = [.nils] := rfl
theorem vc_sl : vcells (.sl cs n f) = [.sl cs n f] := rfl
theorem vc_own : vcells (.own r n) = [.own r n] := rfl
theorem vc_osl : vcells (.osl r n off k) = [.osl r n off k] := rfl
theorem vc_bsl : vcells (.bsl r off k) = [.bsl r off k] := rfl
theorem vc_nilp : vcells .nilp = [.nilp] := rfl
theorem vc_fptr : vcells (.fptr cs) = [.fptr cs] := rfl
theorem vc_ref : vcells (.ref r off) = [.ref r off] := rfl
theorem vc_eref : vcells (.eref r n off) = [.eref r n off] := rfl
theorem on_int : (D.int kd z).one = true := rfl
theorem on_bool : (D.bool b).one = true := rfl
theorem on_str : (D.str s).one = true := rfl
theorem on_nils : D.nils.one = true := rfl
theorem on_sl : (D.sl cs n f).one = true := rfl
theorem on_own : (D.own r n).one = true := rfl
theorem on_osl : (D.osl r n off k).one = true := rfl
theorem on_bsl : (D.bsl r off k).one = true := rfl
theorem on_nilp : D.nilp.one = true := rfl
theorem on_fptr : (D.fptr cs).one = true := rfl
theorem on_ref : (D.ref r off).one = true := rfl
theorem on_eref : (D.eref r n off).one = true := rfl
theorem ea_sl : elemAddr h sz (.sl cs n f) i = if n * sz ≤ cs.length then (idx i n).map fun j => .fptr (cs.drop (j * sz)) else none := rfl
theorem ea_own : elemAddr h sz (.own r n) i = (growOf h[r]?).bind fun p => if n = p.2.2 ∧ p.1 = sz then (idx i n).map fun j => .eref r n (j * sz) else none := by
  simp only [elemAddr, growOf]; rcases h[r]? with _ | _ | _ | _ | _ | _ | _ | _ | _ <;> rfl
theorem ea_osl : elemAddr h sz (.osl r n off k) i = (growOf h[r]?).bind fun p => if n = p.2.2 ∧ p.1 = sz then (idx i k).map fun j => .eref r n (off + j * sz) else none := by
  simp only [elemAddr, growOf]; rcases h[r]? with _ | _ | _ | _ | _ | _ | _ | _ | _ <;> rfl
theorem ea_bsl : elemAddr h sz (.bsl r off k) i = (boxOf h[r]?).bind fun _ => (idx i k).map fun j => .ref r (off + j * sz) := by
  simp only [elemAddr, boxOf]; rcases h[r]? with _ | _ | _ | _ | _ | _ | _ | _ | _ <;> rfl
theorem ss_nils : subSl h sz .nils lo hi = (bnd hi 0 0).bind fun b => (bnd lo 0 b).map fun _ => .nils := rfl
theorem ss_sl : subSl h sz (.sl cs n f) lo hi = if n * sz ≤ cs.length then (bnd hi n n).bind fun b => (bnd lo 0 b).map fun a => .sl ((cs.drop (a * sz)).take ((b - a) * sz)) (b - a) false else none := rfl
theorem ss_own : subSl h sz (.own r n) lo hi = (growOf h[r]?).bind fun p => if n = p.2.2 ∧ p.1 = sz then (bnd hi n n).bind fun b => (bnd lo 0 b).bind fun a => if a < n then some (.osl r n (a * sz) (b - a)) else some (.sl [] 0 false) else none := by
  simp only [subSl, growOf]; rcases h[r]? with _ | _ | _ | _ | _ | _ | _ | _ | _ <;> rfl
theorem ss_osl : subSl h sz (.osl r n off k) lo hi = (growOf h[r]?).bind fun p => if n = p.2.2 ∧ p.1 = sz then (bnd hi k k).bind fun b => (bnd lo 0 b).bind fun a => if a < k then some (.osl r n (off + a * sz) (b - a)) else some (.sl [] 0 false) else none := by
  simp only [subSl, growOf]; rcases h[r]? with _ | _ | _ | _ | _ | _ | _ | _ | _ <;> rfl
theorem ss_bsl : subSl h sz (.bsl r off k) lo hi = (boxOf h[r]?).bind fun _ => (bnd hi k k).bind fun b => (bnd lo 0 b).bind fun a => if a < k then some (.bsl r (off + a * sz) (b - a)) else some (.sl [] 0 false) := by
  simp only [subSl, boxOf]; rcases h[r]? with _ | _ | _ | _ | _ | _ | _ | _ | _ <;> rfl
/-- The blocks of which cells may be laid anew. -/
def boxW (b : Option Blk) : Option (List D) := match b with
  | some (.box cs) => some cs
  | _ => none
def growW (b : Option Blk) : Option (Nat × List D × Nat) := match b with
  | some (.grow sz cs len) => some (sz, cs, len)
  | _ => none
theorem boxW_box : boxW (some (.box cs)) = some cs := rfl
theorem growW_grow : growW (some (.grow sz cs n)) = some (sz, cs, n) := rfl
theorem sa_ref : storeAt h (.ref r off) vs = (boxW h[r]?).bind fun cs => if off + vs.length ≤ cs.length then some (h.set r (.box (splice cs off vs))) else none := by
  simp only [storeAt, boxW]; rcases h[r]? with _ | _ | _ | _ | _ | _ | _ | _ | _ <;> rfl
theorem sa_eref : storeAt h (.eref r n off) vs = (growW h[r]?).bind fun p => if n = p.2.2 ∧ off + vs.length ≤ p.2.1.length then some (h.set r (.grow p.1 (splice p.2.1 off vs) p.2.2)) else none := by
  simp only [storeAt, growW]; rcases h[r]? with _ | _ | _ | _ | _ | _ | _ | _ | _ <;> rfl
theorem ap_nils : appendD h sz bytes .nils ys k = if k = 0 then some (.nils, h) else if k ≤ 1073741824 ∧ bytes ≤ 65536 then some (.own h.length k, h ++ [.grow sz ys k]) else none := rfl
theorem ap_sl : appendD h sz bytes (.sl cs n true) ys k = if k = 0 then some (.sl cs n true, h) else if n * sz ≤ cs.length ∧ n + k ≤ 1073741824 ∧ bytes ≤ 65536 then some (.own h.length (n + k), h ++ [.grow sz (cs.take (n * sz) ++ ys) (n + k)]) else none := rfl
theorem ap_own : appendD h sz bytes (.own r n) ys k = (growW h[r]?).bind fun p => if n = p.2.2 ∧ p.1 = sz ∧ n + k ≤ 1073741824 ∧ bytes ≤ 65536 then some (.own r (n + k), h.set r (.grow sz (p.2.1 ++ ys) (n + k))) else none := by
  simp only [appendD, growW]; rcases h[r]? with _ | _ | _ | _ | _ | _ | _ | _ | _ <;> rfl
theorem ci_own : copyInto h sz (.own r n) vs = (growW h[r]?).bind fun p => if n = p.2.2 ∧ p.1 = sz ∧ vs.length ≤ p.2.1.length then some (h.set r (.grow sz (vs ++ p.2.1.drop vs.length) p.2.2)) else none := by
  simp only [copyInto, growW]; rcases h[r]? with _ | _ | _ | _ | _ | _ | _ | _ | _ <;> rfl
theorem ci_osl : copyInto h sz (.osl r n off k) vs = (growW h[r]?).bind fun p => if n = p.2.2 ∧ p.1 = sz ∧ off + vs.length ≤ p.2.1.length then some (h.set r (.grow sz (p.2.1.take off ++ vs ++ p.2.1.drop (off + vs.length)) p.2.2)) else none := by
  simp only [copyInto, growW]; rcases h[r]? with _ | _ | _ | _ | _ | _ | _ | _ | _ <;> rfl
theorem ci_bsl : copyInto h sz (.bsl r off k) vs = (boxW h[r]?).bind fun cs => if off + vs.length ≤ cs.length then some (h.set r (.box (cs.take off ++ vs ++ cs.drop (off + vs.length)))) else none := by
  simp only [copyInto, boxW]; rcases h[r]? with _ | _ | _ | _ | _ | _ | _ | _ | _ <;> rfl
theorem packD_1 : packD [d] = d := rfl
theorem packD_2 {d' : D} {l : List D} : packD (d :: d' :: l) = .tup (d :: d' :: l) := rfl
theorem packD_0 : packD [] = .tup [] := rfl
end

/-- What may be anything, as one function of the places. -/
theorem junk {t : List D} {h : Heap} {S : (Nat → D) → List D} (hS : S (fun i => t.getD i .any) = t) : ∃ j, (⟨t, h⟩ : St) = ⟨S j, h⟩ := ⟨_, by rw [hS]⟩
theorem junk1 {t : List D} {h : Heap} {S : (Nat → D) → List D} (hS : S (fun i => t.getD i .any) = t) : ∃ j, t = S j := ⟨_, hS.symm⟩

/-- A byte of a slice of bytes. -/
theorem SlOf.byte {h : Heap} {d : D} {l : List UInt8} {n : Nat} (hd : SlOf h 1 d (ofBytes l) n) {kd : IntKind} {i : Nat} (h1 : i < n) :
    ∃ q cs, elemAddr h 1 d (.int kd (i : Int)) = some q ∧ ptrCells h q = some cs ∧ cs[0]? = some (.int .u8 ((l.getD i 0).toNat : Int)) := by
  obtain ⟨q, cs, h2, h3, hx⟩ := hd.elem (k := kd) (i := (i : Int)) (by omega) (by omega)
  refine ⟨q, cs, h2, h3, ?_⟩
  have hl := hd.len
  rw [ofBytes_length] at hl
  rw [hx 0 (by omega), ofBytes_get]
  have e : (i : Int).toNat * 1 + 0 = i := by omega
  rw [e, getB (by omega)]
  rfl

theorem least {p : Nat → Prop} (h : ∃ m, p m) : ∃ m, p m ∧ ∀ j, p j → m ≤ j := by
  obtain ⟨m, hm⟩ := h
  induction m using Nat.strongRecOn with
  | _ m ih =>
    by_cases hj : ∃ j, j < m ∧ p j
    · obtain ⟨j, hj, hp⟩ := hj
      exact ih j hj hp
    · exact ⟨m, hm, fun j hp => Nat.le_of_not_lt fun hlt => hj ⟨j, hlt, hp⟩⟩

/-- A loop that goes on till a number is reached: the places in round k. -/
theorem loop_to {P : Program} {x : AC} {S : List Fr} {Q : Exit → St → Prop} {st : St} (N : Nat) (I : Nat → St → Prop) (h0 : I 0 st) (round : ∀ k st, k ≤ N → I k st → go P x (.k (fun st' => k < N ∧ I (k + 1) st') :: S) Q st) : lp P x S Q st := by
  classical
  let p : St → Nat → Prop := fun st m => ∃ k, k + m = N ∧ I k st
  refine AWA.loop (fun st => ∃ m, p st m) (fun st => if h : ∃ m, p st m then Classical.choose (least h) else 0) ⟨N, 0, by omega, h0⟩ ?_
  intro st hst
  obtain ⟨⟨k, hk, hi⟩, hmin⟩ := Classical.choose_spec (least hst)
  simp only [dif_pos hst]
  revert hk hmin
  generalize Classical.choose (least hst) = m
  intro hk hmin
  refine (W.sound (round k st (by omega) hi)).mono ?_
  intro e st' hq
  cases e with
  | normal =>
    obtain ⟨hlt, hn⟩ : k < N ∧ I (k + 1) st' := hq
    have hex : ∃ m, p st' m := ⟨m - 1, k + 1, by omega, hn⟩
    refine ⟨hex, ?_⟩
    rw [dif_pos hex]
    have := (Classical.choose_spec (least hex)).2 (m - 1) ⟨k + 1, by omega, hn⟩
    omega
  | _ => exact hq

end Go.YtodlpcoffmnmbaaDoor
