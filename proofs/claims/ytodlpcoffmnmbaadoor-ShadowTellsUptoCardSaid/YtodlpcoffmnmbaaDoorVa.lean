/-
  Own work. The value machine, part A: plain data values 'D', what of them lies where in a world, blocks that a function owns, how a world may go on, and that what was told stays true.
-/
import Derived.WalkKit
import Derived.Orders
import Derived.KernelRfl
namespace Go.YtodlpcoffmnmbaaDoor
open Go

/-- A value as plain data. -/
inductive D where
  | any
  | bool (b : Bool)
  | int (k : IntKind) (n : Int)
  | str (s : ByteArray)
  | nilp
  | fptr (cells : List D)
  | ref (r off : Nat)
  | nils
  | sl (cells : List D) (n : Nat) (full : Bool)
  | own (r n : Nat)
  | eref (r n off : Nat)
  | osl (r n off k : Nat)
  | bsl (r off k : Nat)
  | agg (cells : List D)
  | tup (vs : List D)
  | fn (f : Fn) (first captured : List D)
  | nilf
  | iface (t : TypeId) (v : D)
  | nili
  | yv (r : Nat)
  | mref (r : Nat)
  | nilm
  deriving Inhabited

/-- A block of memory as plain data. -/
inductive Blk where
  | free
  | dead
  | box (cells : List D)
  | grow (sz : Nat) (cells : List D) (n : Nat)
  | ice (sz : Nat) (cells : List D) (n : Nat)
  | icebox (cells : List D)
  | recb (st : LoopState) (T : List D) (ps : List Nat) (as bd : Code) (pend : Option Code)
  | mapb (es : List (D × D))
  deriving Inhabited

def Blk.owned : Blk → Bool
  | .box _ | .grow .. | .recb .. | .mapb _ => true
  | _ => false

/-- The package variables that are known, and what lies in them. -/
def GV : List (Nat × List D) := [(0, [.int .i64 0, .int .i64 65535])]
abbrev Mu := Nat → Nat × Nat
abbrev Heap := List Blk

/-- Is a block of the world one that is owned? -/
def Owned (m : Mu) (ah : Heap) (b : Nat) : Prop := ∃ (r : Nat) (blk : Blk), ah[r]? = some blk ∧ blk.owned = true ∧ (m r).1 = b

/-- What is told of a header whose owner is a block that may grow: as long as its length is the same. -/
def OwnV (m : Mu) (r n : Nat) (p : Nat × Nat → Prop) : Blk → Prop
  | .free => False
  | .grow _ _ len | .ice _ _ len => n ≤ len ∧ (n = len → p (m r))
  | _ => True

def RefV (m : Mu) (r : Nat) (p : Nat × Nat → Prop) : Blk → Prop
  | .free => False
  | .box _ | .icebox _ | .recb .. | .mapb _ => p (m r)
  | _ => True

def isOwn (n : Nat) (v : Value) (x : Nat × Nat) : Prop := v = .slice (some ⟨x.1, 0, none⟩) n x.2
def isPtr (off : Nat) (v : Value) (x : Nat × Nat) : Prop := v = .pointer (some ⟨x.1, off, none⟩)
def isYv (v : Value) (x : Nat × Nat) : Prop := v = .func (.yield x.1) #[] #[]
def isMap (v : Value) (x : Nat × Nat) : Prop := v = .map (some x.1)
def isSub (off k : Nat) (v : Value) (x : Nat × Nat) : Prop := ∃ cap, k ≤ cap ∧ v = .slice (some ⟨x.1, off, none⟩) k cap

 mutual
/-- The value v is, in the world w, the data d. -/
def Rep (m : Mu) (ah : Heap) (w : World) : D → Value → Prop
  | .any, _ => True
  | .bool b, v => v = .bool b
  | .int k n, v => v = .int k n
  | .str s, v => v = .string s
  | .nilp, v => v = .pointer none
  | .fptr cs, v => ∃ a : Addr, v = .pointer (some a) ∧ a.spot = none ∧ RepAt m ah w cs a.block a.off
  | .ref r off, v => (∃ x, isPtr off v x) ∧ ∃ blk, ah[r]? = some blk ∧ RefV m r (isPtr off v) blk
  | .nils, v => v = .slice none 0 0
  | .sl cs n full, v => ∃ (a : Addr) (cap : Nat), v = .slice (some a) n cap ∧ n ≤ cap ∧ (full = true → cap = n) ∧ (n = 0 ∨ a.spot = none) ∧ RepAt m ah w cs a.block a.off
  | .own r n, v => (∃ x, isOwn n v x) ∧ ∃ blk, ah[r]? = some blk ∧ OwnV m r n (isOwn n v) blk
  | .eref r n off, v => (∃ x, isPtr off v x) ∧ ∃ blk, ah[r]? = some blk ∧ OwnV m r n (isPtr off v) blk
  | .osl r n off k, v => (∃ x, isSub off k v x) ∧ ∃ blk, ah[r]? = some blk ∧ OwnV m r n (isSub off k v) blk
  | .bsl r off k, v => (∃ x, isSub off k v x) ∧ ∃ blk, ah[r]? = some blk ∧ RefV m r (isSub off k v) blk
  | .agg cs, v => ∃ vs : List Value, v = .agg vs.toArray ∧ RepL m ah w cs vs
  | .tup cs, v => ∃ vs : List Value, v = .tuple vs.toArray ∧ RepL m ah w cs vs
  | .fn f first cap, v => ∃ vs us : List Value, v = .func f vs.toArray us.toArray ∧ RepL m ah w first vs ∧ RepL m ah w cap us
  | .nilf, v => v = .nilFunc
  | .iface t d, v => ∃ u, v = .iface t u ∧ Rep m ah w d u
  | .nili, v => v = .nilIface
  | .yv r, v => (∃ x, isYv v x) ∧ ∃ blk, ah[r]? = some blk ∧ RefV m r (isYv v) blk
  | .mref r, v => (∃ x, isMap v x) ∧ ∃ blk, ah[r]? = some blk ∧ RefV m r (isMap v) blk
  | .nilm, v => v = .map none
/-- From this place on there lie, in memory that nobody owns, these. -/
def RepAt (m : Mu) (ah : Heap) (w : World) : List D → Nat → Nat → Prop
  | [], _, _ => True
  | d :: ds, b, off => ¬ Owned m ah b ∧ (∃ u, w.cell? ⟨b, off, none⟩ = some u ∧ Rep m ah w d u) ∧ RepAt m ah w ds b (off + 1)
def RepL (m : Mu) (ah : Heap) (w : World) : List D → List Value → Prop
  | [], vs => vs = []
  | d :: ds, vs => ∃ u us, vs = u :: us ∧ Rep m ah w d u ∧ RepL m ah w ds us
 end

/-- What is known of a block. -/
def BlkOk (m : Mu) (ah : Heap) (w : World) (r : Nat) : Blk → Prop
  | .free | .dead => True
  | .box cs => ∃ (arr : Array Value) (e : TypeId) (fz : Nat × Nat), w.heap[(m r).1]? = some (.cells arr e fz) ∧ (∀ i, i < arr.size → ¬ (fz.1 ≤ i ∧ i < fz.2)) ∧
      RepL m ah w cs arr.toList
  | .grow sz cs n => ∃ (arr : Array Value) (e : TypeId) (fz : Nat × Nat) (rest : List Value) (vs : List Value), w.heap[(m r).1]? = some (.cells arr e fz) ∧ (∀ i, i < arr.size → ¬ (fz.1 ≤ i ∧ i < fz.2)) ∧
      arr.toList = vs ++ rest ∧ RepL m ah w cs vs ∧ cs.length = n * sz ∧ n ≤ (m r).2 ∧ arr.size = (m r).2 * sz
  | .ice sz cs n => RepAt m ah w cs (m r).1 0 ∧ cs.length = n * sz ∧ n ≤ (m r).2
  | .icebox cs => RepAt m ah w cs (m r).1 0
  | .recb st T ps as bd pe => ∃ (fn : FuncId) (tmps : Array Value) (df : Nat), w.heap[(m r).1]? = some (.loop { state := st, pending := pe, fn, tmps, params := ps.toArray, assign := as, body := bd, defers := df }) ∧ RepL m ah w T tmps.toList
  | .mapb es => ∃ (arr : Array MapEntry) (clock : Nat), w.heap[(m r).1]? = some (.map arr clock) ∧ RepL m ah w (es.map (·.1)) (arr.toList.map (·.key)) ∧ RepL m ah w (es.map (·.2)) (arr.toList.map (·.val))

structure HSim (m : Mu) (ah : Heap) (w : World) : Prop where
  inj : ∀ (r r' : Nat) (b b' : Blk), ah[r]? = some b → ah[r']? = some b' → b.owned = true → b'.owned = true → (m r).1 = (m r').1 → r = r'
  blk : ∀ (r : Nat) (b : Blk), ah[r]? = some b → BlkOk m ah w r b
  glob : ∀ p ∈ GV, RepAt m ah w p.2 p.1 0

/-- How a block may go on. -/
def BStep (m m' : Mu) (r : Nat) : Blk → Blk → Prop
  | .free, _ => True
  | .dead, b => b = .dead
  | .box cs, b => b = .dead ∨ (∃ cs', (b = .box cs' ∨ b = .icebox cs') ∧ cs'.length = cs.length ∧ m' r = m r)
  | .grow sz _ n, b => b = .dead ∨ (∃ cs' n', (b = .grow sz cs' n' ∨ b = .ice sz cs' n') ∧ n ≤ n' ∧ (n' = n → m' r = m r))
  | .ice sz cs n, b => b = .dead ∨ (b = .ice sz cs n ∧ m' r = m r)
  | .icebox cs, b => b = .dead ∨ (b = .icebox cs ∧ m' r = m r)
  | .recb _ T ps as bd _, b => b = .dead ∨ (∃ st' pe', b = .recb st' T ps as bd pe' ∧ m' r = m r)
  | .mapb _, b => b = .dead ∨ (∃ es', b = .mapb es' ∧ m' r = m r)

/-- How a world may go on. -/
structure Evo (m : Mu) (ah : Heap) (w : World) (m' : Mu) (ah' : Heap) (w' : World) : Prop where
  os : w'.os = w.os
  tape : w'.tape = w.tape
  output : w'.output = w.output
  size : w.heap.size ≤ w'.heap.size
  keep : ∀ b, b < w.heap.size → ¬ Owned m ah b → ¬ Owned m' ah' b ∧ w'.heap[b]? = w.heap[b]?
  blk : ∀ (r : Nat) (b : Blk), ah[r]? = some b → ∃ b', ah'[r]? = some b' ∧ BStep m m' r b b'

theorem Owned.lt {m : Mu} {ah : Heap} {w : World} (h : HSim m ah w) {b : Nat} (ho : Owned m ah b) : b < w.heap.size := by
  obtain ⟨r, blk, h1, h2, rfl⟩ := ho
  have h3 := h.blk r blk h1
  cases blk <;> simp [Blk.owned] at h2
  · obtain ⟨arr, e, fz, h4, _⟩ := h3
    exact (Array.getElem?_eq_some_iff.1 h4).1
  · obtain ⟨arr, e, fz, _, _, h4, _⟩ := h3
    exact (Array.getElem?_eq_some_iff.1 h4).1
  · obtain ⟨fn, tmps, df, h4, _⟩ := h3
    exact (Array.getElem?_eq_some_iff.1 h4).1
  · obtain ⟨arr, cl, h4, _⟩ := h3
    exact (Array.getElem?_eq_some_iff.1 h4).1

theorem OwnV.step {m m' : Mu} {r n : Nat} {p : Nat × Nat → Prop} {b b' : Blk} (h : OwnV m r n p b) (hs : BStep m m' r b b') : OwnV m' r n p b' := by
  cases b with
  | free => exact h.elim
  | dead => simp only [BStep] at hs; subst hs; trivial
  | box cs => rcases hs with rfl | ⟨cs', rfl | rfl, _⟩ <;> trivial
  | icebox cs => rcases hs with rfl | ⟨rfl, _⟩ <;> trivial
  | recb st T ps as bd pe => rcases hs with rfl | ⟨_, _, rfl, _⟩ <;> trivial
  | mapb es => rcases hs with rfl | ⟨_, rfl, _⟩ <;> trivial
  | grow sz cs len =>
    obtain ⟨h3, h4⟩ := h
    rcases hs with rfl | ⟨cs', n', rfl | rfl, h1, h2⟩
    · trivial
    · refine ⟨by omega, fun e => ?_⟩
      rw [h2 (by omega)]; exact h4 (by omega)
    · refine ⟨by omega, fun e => ?_⟩
      rw [h2 (by omega)]; exact h4 (by omega)
  | ice sz cs len =>
    rcases hs with rfl | ⟨rfl, h2⟩
    · trivial
    · obtain ⟨h3, h4⟩ := h
      exact ⟨h3, fun e => by rw [h2]; exact h4 e⟩

theorem RefV.step {m m' : Mu} {r : Nat} {p : Nat × Nat → Prop} {b b' : Blk} (h : RefV m r p b) (hs : BStep m m' r b b') : RefV m' r p b' := by
  cases b with
  | free => exact h.elim
  | dead => simp only [BStep] at hs; subst hs; trivial
  | box cs =>
    rcases hs with rfl | ⟨cs', rfl | rfl, _, h2⟩
    · trivial
    · show p _; rw [h2]; exact h
    · show p _; rw [h2]; exact h
  | icebox cs =>
    rcases hs with rfl | ⟨rfl, h2⟩
    · trivial
    · show p _; rw [h2]; exact h
  | recb st T ps as bd pe =>
    rcases hs with rfl | ⟨_, _, rfl, h2⟩
    · trivial
    · show p _; rw [h2]; exact h
  | mapb es =>
    rcases hs with rfl | ⟨_, rfl, h2⟩
    · trivial
    · show p _; rw [h2]; exact h
  | grow sz cs len => rcases hs with rfl | ⟨cs', n', rfl | rfl, _⟩ <;> trivial
  | ice sz cs len => rcases hs with rfl | ⟨rfl, h2⟩ <;> trivial

section evo
variable {m m' : Mu} {ah ah' : Heap} {w w' : World}

theorem cell_keep {b : Nat} (h : w'.heap[b]? = w.heap[b]?) (off : Nat) : w'.cell? ⟨b, off, none⟩ = w.cell? ⟨b, off, none⟩ := by
  simp only [World.cell?, h]

 mutual
theorem Rep.evo (he : Evo m ah w m' ah' w') : ∀ {d : D} {v : Value}, Rep m ah w d v → Rep m' ah' w' d v
  | .any, _, _ => by simp only [Rep]
  | .bool b, v, h => by simp only [Rep] at *; exact h
  | .int k n, v, h => by simp only [Rep] at *; exact h
  | .str s, v, h => by simp only [Rep] at *; exact h
  | .nilp, v, h => by simp only [Rep] at *; exact h
  | .fptr cs, v, h => by
    simp only [Rep] at *
    obtain ⟨a, h1, h2, h3⟩ := h
    exact ⟨a, h1, h2, RepAt.evo he h3⟩
  | .ref r off, v, h => by
    simp only [Rep] at *
    obtain ⟨h0, b, h1, h2⟩ := h
    obtain ⟨b', h3, h4⟩ := he.blk r b h1
    exact ⟨h0, b', h3, h2.step h4⟩
  | .nils, v, h => by simp only [Rep] at *; exact h
  | .sl cs n full, v, h => by
    simp only [Rep] at *
    obtain ⟨a, cap, h1, h2, h3, h4, h5⟩ := h
    exact ⟨a, cap, h1, h2, h3, h4, RepAt.evo he h5⟩
  | .own r n, v, h => by
    simp only [Rep] at *
    obtain ⟨h0, b, h1, h2⟩ := h
    obtain ⟨b', h3, h4⟩ := he.blk r b h1
    exact ⟨h0, b', h3, h2.step h4⟩
  | .eref r n off, v, h => by
    simp only [Rep] at *
    obtain ⟨h0, b, h1, h2⟩ := h
    obtain ⟨b', h3, h4⟩ := he.blk r b h1
    exact ⟨h0, b', h3, h2.step h4⟩
  | .osl r n off k, v, h => by
    simp only [Rep] at *
    obtain ⟨h0, b, h1, h2⟩ := h
    obtain ⟨b', h3, h4⟩ := he.blk r b h1
    exact ⟨h0, b', h3, h2.step h4⟩
  | .bsl r off k, v, h => by
    simp only [Rep] at *
    obtain ⟨h0, b, h1, h2⟩ := h
    obtain ⟨b', h3, h4⟩ := he.blk r b h1
    exact ⟨h0, b', h3, h2.step h4⟩
  | .agg cs, v, h => by
    simp only [Rep] at *
    obtain ⟨vs, h1, h2⟩ := h
    exact ⟨vs, h1, RepL.evo he h2⟩
  | .tup cs, v, h => by
    simp only [Rep] at *
    obtain ⟨vs, h1, h2⟩ := h
    exact ⟨vs, h1, RepL.evo he h2⟩
  | .fn f first cap, v, h => by
    simp only [Rep] at *
    obtain ⟨vs, us, h1, h2, h3⟩ := h
    exact ⟨vs, us, h1, RepL.evo he h2, RepL.evo he h3⟩
  | .nilf, v, h => by simp only [Rep] at *; exact h
  | .iface t d, v, h => by
    simp only [Rep] at *
    obtain ⟨u, h1, h2⟩ := h
    exact ⟨u, h1, Rep.evo he h2⟩
  | .nili, v, h => by simp only [Rep] at *; exact h
  | .nilm, v, h => by simp only [Rep] at *; exact h
  | .yv r, v, h => by
    simp only [Rep] at *
    obtain ⟨h0, b, h1, h2⟩ := h
    obtain ⟨b', h3, h4⟩ := he.blk r b h1
    exact ⟨h0, b', h3, h2.step h4⟩
  | .mref r, v, h => by
    simp only [Rep] at *
    obtain ⟨h0, b, h1, h2⟩ := h
    obtain ⟨b', h3, h4⟩ := he.blk r b h1
    exact ⟨h0, b', h3, h2.step h4⟩
theorem RepAt.evo (he : Evo m ah w m' ah' w') : ∀ {ds : List D} {b off : Nat}, RepAt m ah w ds b off → RepAt m' ah' w' ds b off
  | [], _, _, _ => by simp only [RepAt]
  | d :: ds, b, off, h => by
    simp only [RepAt] at *
    obtain ⟨h1, ⟨u, h2, h3⟩, h4⟩ := h
    have hb : b < w.heap.size := World.block_lt_of_cell? _ _ h2
    obtain ⟨h5, h6⟩ := he.keep b hb h1
    exact ⟨h5, ⟨u, by rw [cell_keep h6]; exact h2, Rep.evo he h3⟩, RepAt.evo he h4⟩
theorem RepL.evo (he : Evo m ah w m' ah' w') : ∀ {ds : List D} {vs : List Value}, RepL m ah w ds vs → RepL m' ah' w' ds vs
  | [], _, h => by simp only [RepL] at *; exact h
  | d :: ds, vs, h => by
    simp only [RepL] at *
    obtain ⟨u, us, h1, h2, h3⟩ := h
    exact ⟨u, us, h1, Rep.evo he h2, RepL.evo he h3⟩
 end
end evo

theorem BStep.refl (m : Mu) (r : Nat) (b : Blk) : BStep m m r b b := by
  cases b with
  | free => trivial
  | dead => rfl
  | box cs => exact .inr ⟨cs, .inl rfl, rfl, rfl⟩
  | icebox cs => exact .inr ⟨rfl, rfl⟩
  | recb st T ps as bd pe => exact .inr ⟨st, pe, rfl, rfl⟩
  | mapb es => exact .inr ⟨es, rfl, rfl⟩
  | grow sz cs n => exact .inr ⟨cs, n, .inl rfl, Nat.le_refl _, fun _ => rfl⟩
  | ice sz cs n => exact .inr ⟨rfl, rfl⟩

theorem BStep.trans {m m' m'' : Mu} {r : Nat} {a b c : Blk} (h : BStep m m' r a b) (k : BStep m' m'' r b c) : BStep m m'' r a c := by
  cases a with
  | free => trivial
  | dead => simp only [BStep] at h; subst h; exact k
  | box cs =>
    rcases h with rfl | ⟨cs', rfl | rfl, h1, h2⟩
    · simp only [BStep] at k; subst k; exact .inl rfl
    · rcases k with rfl | ⟨cs'', hc, k1, k2⟩
      · exact .inl rfl
      · exact .inr ⟨cs'', hc, k1.trans h1, k2.trans h2⟩
    · rcases k with rfl | ⟨rfl, k2⟩
      · exact .inl rfl
      · exact .inr ⟨cs', .inr rfl, h1, k2.trans h2⟩
  | icebox cs =>
    rcases h with rfl | ⟨rfl, h2⟩
    · simp only [BStep] at k; subst k; exact .inl rfl
    · rcases k with rfl | ⟨rfl, k2⟩
      · exact .inl rfl
      · exact .inr ⟨rfl, k2.trans h2⟩
  | recb st T ps as bd pe =>
    rcases h with rfl | ⟨_, _, rfl, h2⟩
    · simp only [BStep] at k; subst k; exact .inl rfl
    · rcases k with rfl | ⟨st'', pe'', rfl, k2⟩
      · exact .inl rfl
      · exact .inr ⟨st'', pe'', rfl, k2.trans h2⟩
  | mapb es =>
    rcases h with rfl | ⟨_, rfl, h2⟩
    · simp only [BStep] at k; subst k; exact .inl rfl
    · rcases k with rfl | ⟨es'', rfl, k2⟩
      · exact .inl rfl
      · exact .inr ⟨es'', rfl, k2.trans h2⟩
  | grow sz cs n =>
    rcases h with rfl | ⟨cs', n', rfl | rfl, h1, h2⟩
    · simp only [BStep] at k; subst k; exact .inl rfl
    · rcases k with rfl | ⟨cs'', n'', hc, k1, k2⟩
      · exact .inl rfl
      · exact .inr ⟨cs'', n'', hc, by omega, fun e => (k2 (by omega)).trans (h2 (by omega))⟩
    · rcases k with rfl | ⟨rfl, k2⟩
      · exact .inl rfl
      · exact .inr ⟨cs', n', .inr rfl, h1, fun e => k2.trans (h2 e)⟩
  | ice sz cs n =>
    rcases h with rfl | ⟨rfl, h2⟩
    · simp only [BStep] at k; subst k; exact .inl rfl
    · rcases k with rfl | ⟨rfl, k2⟩
      · exact .inl rfl
      · exact .inr ⟨rfl, k2.trans h2⟩

theorem Evo.refl (m : Mu) (ah : Heap) (w : World) : Evo m ah w m ah w :=
  ⟨rfl, rfl, rfl, Nat.le_refl _, fun _ _ h => ⟨h, rfl⟩, fun r b h => ⟨b, h, BStep.refl m r b⟩⟩

theorem Evo.trans {m m' m'' : Mu} {ah ah' ah'' : Heap} {w w' w'' : World} (h : Evo m ah w m' ah' w') (k : Evo m' ah' w' m'' ah'' w'') : Evo m ah w m'' ah'' w'' where
  os := k.os.trans h.os
  tape := k.tape.trans h.tape
  output := k.output.trans h.output
  size := Nat.le_trans h.size k.size
  keep := fun b hb ho => by
    obtain ⟨h1, h2⟩ := h.keep b hb ho
    obtain ⟨k1, k2⟩ := k.keep b (Nat.lt_of_lt_of_le hb h.size) h1
    exact ⟨k1, k2.trans h2⟩
  blk := fun r b hb => by
    obtain ⟨b', h1, h2⟩ := h.blk r b hb
    obtain ⟨b'', k1, k2⟩ := k.blk r b' h1
    exact ⟨b'', k1, h2.trans k2⟩

/-- The world's count of draws, and such things, are nothing to what lies where. -/
theorem Evo.same {m : Mu} {ah : Heap} {w w' : World} (h1 : w'.os = w.os) (h2 : w'.tape = w.tape) (h3 : w'.output = w.output) (h4 : w'.heap = w.heap) : Evo m ah w m ah w' :=
  ⟨h1, h2, h3, by rw [h4]; exact Nat.le_refl _, fun _ _ h => ⟨h, by rw [h4]⟩, fun r b h => ⟨b, h, BStep.refl m r b⟩⟩

theorem RepL.length {m : Mu} {ah : Heap} {w : World} : ∀ {ds : List D} {vs : List Value}, RepL m ah w ds vs → vs.length = ds.length
  | [], vs, h => by simp only [RepL] at h; subst h; rfl
  | d :: ds, vs, h => by
    simp only [RepL] at h
    obtain ⟨u, us, rfl, _, h2⟩ := h
    simp [RepL.length h2]

theorem RepL.get {m : Mu} {ah : Heap} {w : World} : ∀ {ds : List D} {vs : List Value} {i : Nat} {d : D}, RepL m ah w ds vs → ds[i]? = some d → ∃ v, vs[i]? = some v ∧ Rep m ah w d v
  | [], _, i, _, _, h => by simp at h
  | d :: ds, vs, i, x, h, hi => by
    simp only [RepL] at h
    obtain ⟨u, us, rfl, h1, h2⟩ := h
    cases i with
    | zero => simp at hi; subst hi; exact ⟨u, rfl, h1⟩
    | succ i => simp at hi; obtain ⟨v, h3, h4⟩ := RepL.get h2 hi; exact ⟨v, by simpa using h3, h4⟩

theorem RepL.append {m : Mu} {ah : Heap} {w : World} : ∀ {ds es : List D} {vs us : List Value}, RepL m ah w ds vs → RepL m ah w es us → RepL m ah w (ds ++ es) (vs ++ us)
  | [], es, vs, us, h, k => by simp only [RepL] at h; subst h; exact k
  | d :: ds, es, vs, us, h, k => by
    simp only [RepL] at h
    obtain ⟨u, us', rfl, h1, h2⟩ := h
    simp only [List.cons_append, RepL]
    exact ⟨u, _, rfl, h1, RepL.append h2 k⟩

theorem RepL.take {m : Mu} {ah : Heap} {w : World} : ∀ {ds : List D} {vs : List Value} (n : Nat), RepL m ah w ds vs → RepL m ah w (ds.take n) (vs.take n)
  | [], vs, n, h => by simp only [RepL] at h; subst h; simp [RepL]
  | d :: ds, vs, n, h => by
    simp only [RepL] at h
    obtain ⟨u, us, rfl, h1, h2⟩ := h
    cases n with
    | zero => simp [RepL]
    | succ n => simp only [List.take_succ_cons, RepL]; exact ⟨u, _, rfl, h1, RepL.take n h2⟩

theorem RepL.drop {m : Mu} {ah : Heap} {w : World} : ∀ {ds : List D} {vs : List Value} (n : Nat), RepL m ah w ds vs → RepL m ah w (ds.drop n) (vs.drop n)
  | [], vs, n, h => by simp only [RepL] at h; subst h; simp [RepL]
  | d :: ds, vs, n, h => by
    have h0 := h
    simp only [RepL] at h
    obtain ⟨u, us, rfl, h1, h2⟩ := h
    cases n with
    | zero => simpa using h0
    | succ n => simpa using RepL.drop n h2

theorem RepL.set {m : Mu} {ah : Heap} {w : World} : ∀ {ds : List D} {vs : List Value} (i : Nat) {d : D} {v : Value}, RepL m ah w ds vs → Rep m ah w d v → RepL m ah w (ds.set i d) (vs.set i v)
  | [], vs, i, d, v, h, _ => by simp only [RepL] at h; subst h; simp [RepL]
  | x :: ds, vs, i, d, v, h, hd => by
    simp only [RepL] at h
    obtain ⟨u, us, rfl, h1, h2⟩ := h
    cases i with
    | zero => simp only [List.set_cons_zero, RepL]; exact ⟨v, us, rfl, hd, h2⟩
    | succ i => simp only [List.set_cons_succ, RepL]; exact ⟨u, _, rfl, h1, RepL.set i h2 hd⟩

theorem RepL.of_get {m : Mu} {ah : Heap} {w : World} : ∀ {ds : List D} {vs : List Value}, vs.length = ds.length → (∀ (i : Nat) (d : D) (v : Value), ds[i]? = some d → vs[i]? = some v → Rep m ah w d v) → RepL m ah w ds vs
  | [], vs, hl, _ => by simp only [RepL]; exact List.length_eq_zero_iff.1 (by simpa using hl)
  | d :: ds, [], hl, _ => by simp at hl
  | d :: ds, v :: vs, hl, h => by
    simp only [RepL]
    exact ⟨v, vs, rfl, h 0 d v rfl rfl, RepL.of_get (by simpa using hl) fun i d' v' h1 h2 => h (i + 1) d' v' (by simpa using h1) (by simpa using h2)⟩

theorem RepAt.get {m : Mu} {ah : Heap} {w : World} : ∀ {ds : List D} {b off i : Nat} {d : D}, RepAt m ah w ds b off → ds[i]? = some d → ∃ v, w.cell? ⟨b, off + i, none⟩ = some v ∧ Rep m ah w d v
  | [], _, _, i, _, _, h => by simp at h
  | d :: ds, b, off, i, x, h, hi => by
    simp only [RepAt] at h
    obtain ⟨_, ⟨u, h1, h2⟩, h3⟩ := h
    cases i with
    | zero => simp at hi; subst hi; exact ⟨u, h1, h2⟩
    | succ i =>
      simp at hi
      obtain ⟨v, h4, h5⟩ := RepAt.get h3 hi
      exact ⟨v, by rw [← h4]; congr 2; omega, h5⟩

theorem RepAt.drop {m : Mu} {ah : Heap} {w : World} : ∀ {ds : List D} {b off : Nat} (i : Nat), RepAt m ah w ds b off → RepAt m ah w (ds.drop i) b (off + i)
  | [], _, _, i, _ => by simp [RepAt]
  | d :: ds, b, off, i, h => by
    cases i with
    | zero => exact h
    | succ i =>
      simp only [RepAt] at h
      have := RepAt.drop i h.2.2
      rw [show off + (i + 1) = off + 1 + i by omega]
      simpa using this

theorem RepAt.take {m : Mu} {ah : Heap} {w : World} : ∀ {ds : List D} {b off : Nat} (i : Nat), RepAt m ah w ds b off → RepAt m ah w (ds.take i) b off
  | [], _, _, i, _ => by simp [RepAt]
  | d :: ds, b, off, i, h => by
    cases i with
    | zero => simp [RepAt]
    | succ i =>
      simp only [RepAt] at h
      simp only [List.take_succ_cons, RepAt]
      exact ⟨h.1, h.2.1, RepAt.take i h.2.2⟩

theorem RepAt.of_get {m : Mu} {ah : Heap} {w : World} {b : Nat} (ho : ¬ Owned m ah b) : ∀ {ds : List D} {off : Nat}, (∀ (i : Nat) (d : D), ds[i]? = some d → ∃ v, w.cell? ⟨b, off + i, none⟩ = some v ∧ Rep m ah w d v) → RepAt m ah w ds b off
  | [], _, _ => by simp [RepAt]
  | d :: ds, off, h => by
    simp only [RepAt]
    refine ⟨ho, ?_, RepAt.of_get ho fun i d' hi => ?_⟩
    · obtain ⟨v, h1, h2⟩ := h 0 d rfl
      exact ⟨v, h1, h2⟩
    · obtain ⟨v, h1, h2⟩ := h (i + 1) d' (by simpa using hi)
      exact ⟨v, by rw [← h1]; congr 2; omega, h2⟩

end Go.YtodlpcoffmnmbaaDoor
