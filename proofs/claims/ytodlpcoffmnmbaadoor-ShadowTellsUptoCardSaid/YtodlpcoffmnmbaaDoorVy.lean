/-
  Own work. The value machine, part Y: arguments of any sort (whole numbers, texts, slices, structs, arrays) as plain data.
-/
import Derived.Test.YtodlpcoffmnmbaaDoorVx
import Derived.DataReads
import Derived.WalkKit
namespace Go.YtodlpcoffmnmbaaDoor
open Go Go.RowKit
set_option linter.unusedVariables false
set_option linter.unusedSimpArgs false

/-- Sorts of arguments. -/
inductive Sh where
  | bool | int (k : IntKind) | str | sl (e : Sh) | unit | pair (a b : Sh) | arr (n : Nat) (e : Sh)

abbrev Sh.T : Sh → Type
  | .bool => Bool
  | .int _ => Int
  | .str => List UInt8
  | .sl e => List e.T
  | .unit => Unit
  | .pair a b => a.T × b.T
  | .arr _ e => List e.T

def EncL {α : Type} (E : α → List D → Prop) : List α → List D → Prop
  | [], cs => cs = []
  | x :: xs, cs => ∃ a b, E x a ∧ EncL E xs b ∧ cs = a ++ b

/-- Such a value's cells. -/
def Sh.Enc : (s : Sh) → s.T → List D → Prop
  | .bool, b, cs => cs = [.bool b]
  | .int k, n, cs => cs = [.int k n]
  | .str, l, cs => cs = [.str (bs l)]
  | .sl e, xs, cs => (xs = [] ∧ cs = [.nils]) ∨ ∃ es, EncL e.Enc xs es ∧ cs = [.sl es (List.length xs) false]
  | .unit, _, cs => cs = []
  | .pair a b, x, cs => ∃ c d, a.Enc x.1 c ∧ b.Enc x.2 d ∧ cs = c ++ d
  | .arr _ e, xs, cs => EncL e.Enc xs cs

def Sh.ok : (s : Sh) → s.T → Prop
  | .bool, _ => True
  | .int k, n => k.min ≤ n ∧ n ≤ k.max
  | .str, _ => True
  | .sl e, xs => ∀ x ∈ (xs : List e.T), e.ok x
  | .unit, _ => True
  | .pair a b, x => a.ok x.1 ∧ b.ok x.2
  | .arr n e, xs => List.length xs = n ∧ ∀ x ∈ (xs : List e.T), e.ok x

def sumBy {α : Type} (f : α → Nat) : List α → Nat
  | [] => 0
  | x :: xs => f x + sumBy f xs

/-- How much it holds. -/
def Sh.vol : (s : Sh) → s.T → Nat
  | .bool, _ => 1
  | .int _, _ => 1
  | .str, l => List.length l + 1
  | .sl e, xs => sumBy e.vol xs + 1
  | .unit, _ => 0
  | .pair a b, x => a.vol x.1 + b.vol x.2
  | .arr _ e, xs => sumBy e.vol xs

def Sh.cells : Sh → Nat
  | .bool | .int _ | .str | .sl _ => 1
  | .unit => 0
  | .pair a b => a.cells + b.cells
  | .arr n e => n * e.cells

theorem encL_len {α : Type} {E : α → List D → Prop} {c : Nat} : ∀ {xs : List α} {cs : List D}, (∀ x ∈ xs, ∀ a, E x a → a.length = c) → EncL E xs cs → cs.length = xs.length * c
  | [], cs, _, h => by simp only [EncL] at h; subst h; simp
  | x :: xs, cs, hE, h => by
    obtain ⟨a, b, h1, h2, rfl⟩ := h
    rw [List.length_append, hE x (by simp) a h1, encL_len (fun y hy => hE y (by simp [hy])) h2, List.length_cons, Nat.succ_mul]; omega

theorem enc_len : ∀ (s : Sh) (x : s.T) (cs : List D), s.ok x → s.Enc x cs → cs.length = s.cells
  | .bool, x, cs, _, h => by simp only [Sh.Enc] at h; subst h; rfl
  | .int _, x, cs, _, h => by simp only [Sh.Enc] at h; subst h; rfl
  | .str, x, cs, _, h => by simp only [Sh.Enc] at h; subst h; rfl
  | .sl e, x, cs, _, h => by
    simp only [Sh.Enc] at h
    rcases h with ⟨_, rfl⟩ | ⟨es, _, rfl⟩ <;> rfl
  | .unit, x, cs, _, h => by simp only [Sh.Enc] at h; subst h; rfl
  | .pair a b, x, cs, ho, h => by
    simp only [Sh.Enc] at h
    obtain ⟨c, d, h1, h2, rfl⟩ := h
    rw [List.length_append, enc_len a _ c ho.1 h1, enc_len b _ d ho.2 h2]; rfl
  | .arr n e, x, cs, ho, h => by
    simp only [Sh.Enc] at h
    rw [encL_len (fun y hy a ha => enc_len e y a (ho.2 y hy) ha) h, ho.1]; rfl

def stOf (P : Program) (f : TypeId → Option Sh) : List Field → Nat → Option Sh
  | [], _ => some .unit
  | fd :: r, off => (f fd.type).bind fun s => if fd.offset = off ∧ P.cellsOf fd.type = s.cells then (stOf P f r (off + s.cells)).map (Sh.pair s) else none

def shOf (P : Program) : Nat → TypeId → Option Sh
  | 0, _ => none
  | n + 1, t => match P.underlying t with
    | some .bool => some .bool
    | some (.int k) => some (.int k)
    | some .string => some .str
    | some (.slice e) => (shOf P n e).bind fun s => if P.cellsOf e = s.cells ∧ ¬ s.cells = 0 then some (.sl s) else none
    | some (.array m e) => (shOf P n e).bind fun s => if P.cellsOf e = s.cells ∧ P.cellsOf t = m * s.cells then some (.arr m s) else none
    | some (.struct fs) => (stOf P (shOf P n) fs.toList 0).bind fun s => if P.cellsOf t = s.cells then some s else none
    | _ => none

/-- A measure of data that is at least what a value holds. -/
structure BulkOk {H : Type} (B : DataW H → Nat) : Prop where
  slice : ∀ es sp, sumBy B es + 1 ≤ B (.slice es sp)
  agg : ∀ ps, sumBy B ps ≤ B (.agg ps)
  str : ∀ l, l.length + 1 ≤ B (.lit (.string l))
  pos : ∀ d, 1 ≤ B d

section
variable {H : Type} {enc : TypeId × Value → H} {P : Program} {w : World} {spare : Nat → Bool} {held : Bool} {B : DataW H → Nat} {m : Mu}

theorem add_block (a : Addr) (k : Nat) : (a.add k).block = a.block := by unfold Addr.add; split <;> rfl
theorem add_off (a : Addr) (k : Nat) : (a.add k).off = a.off + k := by unfold Addr.add; split <;> simp_all
theorem spot_of_cell {a : Addr} {v : Value} (h : w.cell? a = some v) : a.spot = none := by
  unfold World.cell? at h
  split at h
  · split at h
    · cases h
    · rename_i hs; simpa using hs
  · cases h

theorem at_of_cells {A : Addr} {c : Nat} {cs : List Value} {ds : List D} (hc : 1 ≤ c) (h : w.cells? 0 A c = some cs) (hr : RepL m [] w ds cs) : A.spot = none ∧ RepAt m [] w ds A.block A.off := by
  obtain ⟨_, h2, h3⟩ := World.cells?_some h
  have h0 := h3 0 (by omega)
  rw [List.getElem?_eq_getElem (by omega)] at h0
  have hs : A.spot = none := by
    have := spot_of_cell h0
    unfold Addr.add at this
    simpa using this
  refine ⟨hs, RepAt.of_get (fun ho => ho.nil) ?_⟩
  intro i d hi
  obtain ⟨v, hv, hd⟩ := hr.get hi
  have hlt : i < cs.length := (List.getElem?_eq_some_iff.1 hv).1
  refine ⟨v, ?_, hd⟩
  rw [← hv, ← h3 i (by omega)]
  obtain ⟨b, o, s⟩ := A
  simp only at hs; subst hs
  rw [addr_add]

theorem RepAt.append {ah : Heap} : ∀ {ds es : List D} {b off : Nat}, RepAt m ah w ds b off → RepAt m ah w es b (off + ds.length) → RepAt m ah w (ds ++ es) b off
  | [], es, b, off, _, h => by simpa using h
  | d :: ds, es, b, off, h, k => by
    simp only [RepAt, List.cons_append] at *
    exact ⟨h.1, h.2.1, RepAt.append h.2.2 (by rw [show off + 1 + ds.length = off + (ds.length + 1) by omega]; exact k)⟩

/-- What the induction gives of one value. -/
def Good (enc : TypeId × Value → H) (P : Program) (w : World) (spare : Nat → Bool) (held : Bool) (B : DataW H → Nat) (m : Mu) (fuel : Nat) : Prop :=
  ∀ (t : TypeId) (cs : List Value) (d : DataW H) (ps : List MemPlace) (n : Nat) (sh : Sh), shOf P n t = some sh → DataW.trod enc P w 0 spare held fuel t cs = some (d, ps) →
    ∃ x : sh.T, sh.ok x ∧ sh.vol x ≤ B d ∧ ∃ ds, sh.Enc x ds ∧ RepL m [] w ds cs

theorem elems_good {fuel : Nat} (hg : Good enc P w spare held B m fuel) {n : Nat} {e : TypeId} {s : Sh} (hs : shOf P n e = some s) {c : Nat} (hc : s.cells = c) (hc1 : 1 ≤ c) (a : Addr) :
    ∀ (k i : Nat) (ys : List (DataW H × List MemPlace)), (List.range' i k).mapM (fun i => (w.cells? 0 (a.add (i * c)) c).bind (DataW.trod enc P w 0 spare held fuel e)) = some ys →
      ∃ xs : List s.T, xs.length = k ∧ (∀ x ∈ xs, s.ok x) ∧ sumBy s.vol xs ≤ sumBy B (ys.map (·.1)) ∧ (0 < k → 0 < i ∨ a.spot = none) ∧ ∃ es, EncL s.Enc xs es ∧ RepAt m [] w es a.block (a.off + i * c)
  | 0, i, ys, h => by
    simp only [List.range'_zero, List.mapM_nil, Option.pure_def, Option.some.injEq] at h
    subst h
    exact ⟨[], rfl, by simp, by simp [sumBy], by omega, [], rfl, by simp [RepAt]⟩
  | k + 1, i, ys, h => by
    simp only [List.range'_succ, List.mapM_cons, Option.bind_eq_bind, Option.pure_def, Option.bind_eq_some_iff] at h
    obtain ⟨y, ⟨cs, h1, h2⟩, r, h3, h4⟩ := h
    simp only [Option.some.injEq] at h4
    subst h4
    obtain ⟨xs, g1, g2, g3, _, es, g5, g6⟩ := elems_good hg hs hc hc1 a k (i + 1) r h3
    obtain ⟨x, q1, q2, ds, q3, q4⟩ := hg e cs y.1 y.2 n s hs h2
    obtain ⟨p1, p2⟩ := at_of_cells hc1 h1 q4
    have hl := enc_len s x ds q1 q3
    refine ⟨x :: xs, by simp [g1], ?_, ?_, ?_, ds ++ es, ⟨ds, es, q3, g5, rfl⟩, ?_⟩
    · intro z hz
      rcases List.mem_cons.1 hz with rfl | hz
      · exact q1
      · exact g2 z hz
    · simp only [List.map_cons, sumBy]; omega
    · intro _
      by_cases h0 : i = 0
      · subst h0; right; simpa [Addr.add] using p1
      · left; omega
    · rw [add_block, add_off] at p2
      exact p2.append (by rw [hl, hc]; rw [Nat.add_mul, Nat.one_mul] at g6; rwa [Nat.add_assoc])

theorem fields_good {fuel : Nat} (hg : Good enc P w spare held B m fuel) {n : Nat} (cs : List Value) :
    ∀ (fs : List Field) (off : Nat) (sh : Sh) (ys : List (DataW H × List MemPlace)), stOf P (shOf P n) fs off = some sh →
      fs.mapM (fun f => DataW.trod enc P w 0 spare held fuel f.type ((cs.drop f.offset).take (P.cellsOf f.type))) = some ys → off + sh.cells ≤ cs.length →
      ∃ x : sh.T, sh.ok x ∧ sh.vol x ≤ sumBy B (ys.map (·.1)) ∧ ∃ ds, sh.Enc x ds ∧ RepL m [] w ds ((cs.drop off).take sh.cells)
  | [], off, sh, ys, hs, h, hl => by
    simp only [stOf, Option.some.injEq] at hs
    subst hs
    exact ⟨(), trivial, by simp [Sh.vol], [], rfl, by simp [Sh.cells, RepL]⟩
  | f :: fs, off, sh, ys, hs, h, hl => by
    simp only [stOf, Option.bind_eq_some_iff] at hs
    obtain ⟨s, h1, h2⟩ := hs
    split at h2
    · rename_i hc
      obtain ⟨rfl, hc⟩ := hc
      simp only [Option.map_eq_some_iff] at h2
      obtain ⟨r, h3, rfl⟩ := h2
      simp only [List.mapM_cons, Option.bind_eq_bind, Option.pure_def, Option.bind_eq_some_iff] at h
      obtain ⟨y, h4, ys', h5, h6⟩ := h
      simp only [Option.some.injEq] at h6
      subst h6
      simp only [Sh.cells] at hl
      obtain ⟨x, q1, q2, ds, q3, q4⟩ := hg _ _ y.1 y.2 n s h1 h4
      obtain ⟨z, g1, g2, es, g3, g4⟩ := fields_good hg cs fs _ r ys' h3 h5 (by omega)
      refine ⟨(x, z), ⟨q1, g1⟩, by simp only [List.map_cons, sumBy, Sh.vol]; omega, ds ++ es, ⟨ds, es, q3, g3, rfl⟩, ?_⟩
      simp only [Sh.cells]
      rw [hc] at q4
      have e1 : (cs.drop f.offset).take (s.cells + r.cells) = (cs.drop f.offset).take s.cells ++ ((cs.drop (f.offset + s.cells)).take r.cells) := by
        rw [List.take_add, List.drop_drop]
      rw [e1]
      exact RepL.append q4 g4
    · cases h2

theorem arr_good {fuel : Nat} (hg : Good enc P w spare held B m fuel) {n : Nat} {e : TypeId} {s : Sh} (hs : shOf P n e = some s) {c : Nat} (hc : s.cells = c) (cs : List Value) :
    ∀ (k i : Nat) (ys : List (DataW H × List MemPlace)), (List.range' i k).mapM (fun i => DataW.trod enc P w 0 spare held fuel e ((cs.drop (i * c)).take c)) = some ys → (i + k) * c ≤ cs.length →
      ∃ xs : List s.T, xs.length = k ∧ (∀ x ∈ xs, s.ok x) ∧ sumBy s.vol xs ≤ sumBy B (ys.map (·.1)) ∧ ∃ es, EncL s.Enc xs es ∧ RepL m [] w es ((cs.drop (i * c)).take (k * c))
  | 0, i, ys, h, _ => ⟨[], rfl, by simp, by simp [sumBy], [], rfl, by simp [RepL]⟩
  | k + 1, i, ys, h, hl => by
    simp only [List.range'_succ, List.mapM_cons, Option.bind_eq_bind, Option.pure_def, Option.bind_eq_some_iff] at h
    obtain ⟨y, h2, r, h3, h4⟩ := h
    simp only [Option.some.injEq] at h4
    subst h4
    obtain ⟨xs, g1, g2, g3, es, g5, g6⟩ := arr_good hg hs hc cs k (i + 1) r h3 (by rw [show i + 1 + k = i + (k + 1) by omega]; exact hl)
    obtain ⟨x, q1, q2, ds, q3, q4⟩ := hg e _ y.1 y.2 n s hs h2
    refine ⟨x :: xs, by simp [g1], ?_, ?_, ds ++ es, ⟨ds, es, q3, g5, rfl⟩, ?_⟩
    · intro z hz
      rcases List.mem_cons.1 hz with rfl | hz
      · exact q1
      · exact g2 z hz
    · simp only [List.map_cons, sumBy]; omega
    · have e1 : (cs.drop (i * c)).take ((k + 1) * c) = (cs.drop (i * c)).take c ++ (cs.drop ((i + 1) * c)).take (k * c) := by
        rw [show (k + 1) * c = c + k * c by rw [Nat.succ_mul]; omega, List.take_add, List.drop_drop, show i * c + c = (i + 1) * c by rw [Nat.succ_mul]]
      rw [e1]
      exact RepL.append q4 g6

theorem good (hB : BulkOk B) : ∀ fuel, Good enc P w spare held B m fuel
  | 0 => by intro t cs d ps n sh _ h; simp [DataW.trod] at h
  | fuel + 1 => by
    have ih := good hB fuel
    intro t cs d ps n sh hsh h
    cases n with
    | zero => simp [shOf] at hsh
    | succ n =>
      unfold shOf at hsh
      unfold DataW.trod at h
      split at hsh
      · rename_i ht
        rw [ht] at h
        simp only [Option.some.injEq] at hsh
        subst hsh
        split at h
        all_goals first | (exfalso; simp_all; done) | skip
        simp only [Option.some.injEq, Prod.mk.injEq] at h
        obtain ⟨rfl, _⟩ := h
        exact ⟨_, trivial, hB.pos _, [.bool _], rfl, by simp only [RepL]; exact ⟨_, _, rfl, by simp [Rep]; rfl, rfl⟩⟩
      · rename_i k ht
        rw [ht] at h
        simp only [Option.some.injEq] at hsh
        subst hsh
        split at h
        all_goals first | (exfalso; simp_all; done) | skip
        rename_i k1 k2 z heq
        injection heq with heq; injection heq with heq; subst heq
        split at h
        · rename_i hc
          obtain ⟨rfl, hz⟩ := hc
          simp only [Option.some.injEq, Prod.mk.injEq] at h
          obtain ⟨rfl, _⟩ := h
          simp only [Lit.wf, Bool.and_eq_true, decide_eq_true_eq] at hz
          exact ⟨z, hz, hB.pos _, [.int _ z], rfl, by simp only [RepL]; exact ⟨_, _, rfl, by simp [Rep], rfl⟩⟩
        · cases h
      · rename_i ht
        rw [ht] at h
        simp only [Option.some.injEq] at hsh
        subst hsh
        split at h
        all_goals first | (exfalso; simp_all; done) | skip
        rename_i s heq
        split at h
        · simp only [Option.some.injEq, Prod.mk.injEq] at h
          obtain ⟨rfl, _⟩ := h
          exact ⟨s.data.toList, trivial, hB.str _, [.str s], by simp only [Sh.Enc]; rw [← bs_of s], by simp only [RepL]; exact ⟨_, _, rfl, by simp [Rep], rfl⟩⟩
        · cases h
      · rename_i e ht
        rw [ht] at h
        simp only [Option.bind_eq_some_iff] at hsh
        obtain ⟨s, hs, h1⟩ := hsh
        split at h1
        · rename_i hc
          simp only [Option.some.injEq] at h1
          subst h1
          split at h
          all_goals first | (exfalso; simp_all; done) | skip
          · rename_i e' heq
            simp only [Option.some.injEq, Prod.mk.injEq] at h
            obtain ⟨rfl, _⟩ := h
            exact ⟨[], by intro x hx; simp at hx, by simp only [Sh.vol, sumBy]; exact hB.pos _, [.nils], .inl ⟨rfl, rfl⟩, by simp only [RepL]; exact ⟨_, _, rfl, by simp [Rep], rfl⟩⟩
          · rename_i e' a len cap heq
            injection heq with heq; injection heq with heq; subst heq
            simp only at h
            split at h
            · rename_i hle
              simp only [Option.bind_eq_some_iff, Option.map_eq_some_iff] at h
              obtain ⟨elems, h2, rest, h3, h4⟩ := h
              simp only [Prod.mk.injEq] at h4
              obtain ⟨rfl, _⟩ := h4
              rw [List.range_eq_range', hc.1] at h2
              obtain ⟨xs, g1, g2, g3, g4, es, g5, g6⟩ := elems_good ih hs rfl (by omega) a len 0 elems h2
              have hbs := hB.slice (elems.map (·.1)) (rest.map (·.1))
              refine ⟨xs, g2, by simp only [Sh.vol]; omega, [.sl es xs.length false], .inr ⟨es, g5, rfl⟩, ?_⟩
              simp only [RepL]
              refine ⟨_, _, rfl, ?_, rfl⟩
              simp only [Rep]
              refine ⟨a, cap, by rw [g1], by rw [g1]; exact hle.2.1, by simp, ?_, by simpa using g6⟩
              rcases Nat.eq_zero_or_pos len with h0 | h0
              · left; omega
              · rcases g4 h0 with g4 | g4
                · omega
                · exact .inr g4
            · cases h
        · cases h1
      · rename_i k e ht
        rw [ht] at h
        simp only [Option.bind_eq_some_iff] at hsh
        obtain ⟨s, hs, h1⟩ := hsh
        split at h1
        · rename_i hc
          simp only [Option.some.injEq] at h1
          subst h1
          split at h
          all_goals first | (exfalso; simp_all; done) | skip
          rename_i k' e' cs heq
          injection heq with heq; injection heq with heq1 heq2; subst heq1; subst heq2
          split at h
          · rename_i hl
            simp only [Option.map_eq_some_iff] at h
            obtain ⟨ys, h2, h3⟩ := h
            simp only [Prod.mk.injEq] at h3
            obtain ⟨rfl, _⟩ := h3
            rw [List.range_eq_range', hc.1] at h2
            rw [hc.2] at hl

            obtain ⟨xs, g1, g2, g3, es, g5, g6⟩ := arr_good ih hs rfl _ k 0 ys h2 (by rw [Nat.zero_add, hl]; exact Nat.le_refl _)
            rw [Nat.zero_mul, List.drop_zero, List.take_of_length_le (by omega)] at g6
            exact ⟨xs, ⟨g1, g2⟩, Nat.le_trans g3 (hB.agg _), es, g5, g6⟩
          · cases h
        · cases h1
      · rename_i fs ht
        rw [ht] at h
        simp only [Option.bind_eq_some_iff] at hsh
        obtain ⟨s, hs, h1⟩ := hsh
        split at h1
        · rename_i hc
          simp only [Option.some.injEq] at h1
          subst h1
          split at h
          all_goals first | (exfalso; simp_all; done) | skip
          rename_i fs' cs heq
          injection heq with heq; injection heq with heq; subst heq
          split at h
          · rename_i hl
            simp only [Option.map_eq_some_iff] at h
            obtain ⟨ys, h2, h3⟩ := h
            simp only [Prod.mk.injEq] at h3
            obtain ⟨rfl, _⟩ := h3
            rw [hc] at hl
            obtain ⟨x, g1, g2, ds, g3, g4⟩ := fields_good ih _ _ 0 s ys hs h2 (by omega)
            rw [List.drop_zero, List.take_of_length_le (by omega)] at g4
            exact ⟨x, g1, Nat.le_trans g2 (hB.agg _), ds, g3, g4⟩
          · cases h
        · cases h1
      · cases hsh

/-- A value as it is handed over. -/
def Sh.EncV : (s : Sh) → s.T → D → Prop
  | .unit, x, d => ∃ cs, Sh.unit.Enc x cs ∧ d = .agg cs
  | .pair a b, x, d => ∃ cs, (Sh.pair a b).Enc x cs ∧ d = .agg cs
  | .arr n e, x, d => ∃ cs, (Sh.arr n e).Enc x cs ∧ d = .agg cs
  | .bool, x, d => d = .bool x
  | .int k, x, d => d = .int k x
  | .str, x, d => d = .str (bs x)
  | .sl e, x, d => Sh.Enc (.sl e) x [d]

/-- AN ARGUMENT. -/
theorem enc_of_trod (hB : BulkOk B) {t : TypeId} {v : Value} {d : DataW H} {ps : List MemPlace} {r : Reach} {base : Nat} {n : Nat} {sh : Sh} (hs : shOf P n t = some sh) (hv : Value.okWide P w r base t v)
    (h : DataW.Trod enc P w 0 spare held t v d ps) : ∃ x : sh.T, sh.ok x ∧ sh.vol x ≤ B d ∧ ∃ D, sh.EncV x D ∧ Rep m [] w D v := by
  obtain ⟨fuel, h⟩ := h
  obtain ⟨x, h1, h2, ds, h3, h4⟩ := good (m := m) hB fuel t _ d ps n sh hs h
  refine ⟨x, h1, h2, ?_⟩
  have one : ∀ D, ds = [D] → (∀ c : List Value, v = .agg c.toArray → False) → Rep m [] w D v := by
    intro D e ha
    subst e
    simp only [RepL] at h4
    obtain ⟨u, us, h5, h6, rfl⟩ := h4
    have : v = u := by
      cases v with
      | agg cs => exact (ha cs.toList rfl).elim
      | _ => simpa [Value.cells] using h5
    rwa [this]
  have many : (∃ cs, v = .agg cs) → Rep m [] w (.agg ds) v := by
    rintro ⟨cs, rfl⟩
    simp only [Rep]
    exact ⟨cs.toList, rfl, by simpa [Value.cells] using h4⟩
  have noagg : (∀ fs, P.underlying t ≠ some (.struct fs)) → (∀ k e, P.underlying t ≠ some (.array k e)) → ∀ c : List Value, v = .agg c.toArray → False := by
    rintro g1 g2 c rfl
    unfold Value.okWide at hv
    split at hv
    · rename_i fs hu; exact g1 _ hu
    · rename_i fs hu; exact g2 _ _ hu
    · unfold Cell.okWide Cell.ok at hv
      split at hv <;> simp_all
  cases n with
  | zero => simp [shOf] at hs
  | succ n =>
    unfold shOf at hs
    split at hs
    · rename_i hu
      simp only [Option.some.injEq] at hs; subst hs
      simp only [Sh.Enc] at h3
      exact ⟨_, rfl, one _ h3 (noagg (by simp [hu]) (by simp [hu]))⟩
    · rename_i hu
      simp only [Option.some.injEq] at hs; subst hs
      simp only [Sh.Enc] at h3
      exact ⟨_, rfl, one _ h3 (noagg (by simp [hu]) (by simp [hu]))⟩
    · rename_i hu
      simp only [Option.some.injEq] at hs; subst hs
      simp only [Sh.Enc] at h3
      exact ⟨_, rfl, one _ h3 (noagg (by simp [hu]) (by simp [hu]))⟩
    · rename_i hu
      simp only [Option.bind_eq_some_iff] at hs
      obtain ⟨s, _, hs⟩ := hs
      split at hs
      · simp only [Option.some.injEq] at hs; subst hs
        have h3' := h3
        simp only [Sh.Enc] at h3
        rcases h3 with ⟨e1, rfl⟩ | ⟨es, e1, rfl⟩
        · exact ⟨_, h3', one _ rfl (noagg (by simp [hu]) (by simp [hu]))⟩
        · exact ⟨_, h3', one _ rfl (noagg (by simp [hu]) (by simp [hu]))⟩
      · cases hs
    · rename_i hu
      simp only [Option.bind_eq_some_iff] at hs
      obtain ⟨s, _, hs⟩ := hs
      split at hs
      · simp only [Option.some.injEq] at hs; subst hs
        refine ⟨.agg ds, ⟨ds, h3, rfl⟩, many ?_⟩
        simp only [Value.okWide, hu] at hv
        obtain ⟨cs, hv, _⟩ := hv
        exact ⟨cs, hv⟩
      · cases hs
    · rename_i fs hu
      have hm := many (by
        simp only [Value.okWide, hu] at hv
        obtain ⟨cs, hv, _⟩ := hv
        exact ⟨cs, hv⟩)
      simp only [Option.bind_eq_some_iff] at hs
      obtain ⟨s, hs1, hs⟩ := hs
      split at hs
      · simp only [Option.some.injEq] at hs; subst hs
        have hk : (∃ a b, s = .pair a b) ∨ s = .unit := by
          match fs.toList, hs1 with
          | [], hs1 => simp only [stOf, Option.some.injEq] at hs1; exact .inr hs1.symm
          | f :: r, hs1 =>
            simp only [stOf, Option.bind_eq_some_iff] at hs1
            obtain ⟨z, _, hs1⟩ := hs1
            split at hs1
            · simp only [Option.map_eq_some_iff] at hs1
              obtain ⟨q, _, rfl⟩ := hs1
              exact .inl ⟨_, _, rfl⟩
            · cases hs1
        rcases hk with ⟨a, b, rfl⟩ | rfl
        · exact ⟨.agg ds, ⟨ds, h3, rfl⟩, hm⟩
        · exact ⟨.agg ds, ⟨ds, h3, rfl⟩, hm⟩
      · cases hs
    · cases hs
end

theorem encL_map {α : Type} {f : α → D} : ∀ {xs : List α} {cs : List D}, EncL (fun x cs => cs = [f x]) xs cs ↔ cs = xs.map f
  | [], cs => by simp [EncL]
  | x :: xs, cs => by
    simp only [EncL, encL_map (xs := xs), List.map_cons]
    constructor
    · rintro ⟨_, _, rfl, rfl, rfl⟩; rfl
    · rintro rfl; exact ⟨_, _, rfl, rfl, rfl⟩
theorem encL_flat {α : Type} {f : α → List D} : ∀ {xs : List α} {cs : List D}, EncL (fun x cs => cs = f x) xs cs ↔ cs = xs.flatMap f
  | [], cs => by simp [EncL]
  | x :: xs, cs => by
    simp only [EncL, encL_flat (xs := xs), List.flatMap_cons]
    constructor
    · rintro ⟨_, _, rfl, rfl, rfl⟩; rfl
    · rintro rfl; exact ⟨_, _, rfl, rfl, rfl⟩

/-- Bytes that are whole numbers. -/
theorem u8_bytes : ∀ {zs : List Int}, (∀ z ∈ zs, IntKind.u8.min ≤ z ∧ z ≤ IntKind.u8.max) → ∃ l : List UInt8, zs.map (D.int .u8) = ofBytes l ∧ zs = l.map (fun b => (b.toNat : Int)) ∧ l.length = zs.length
  | [], _ => ⟨[], rfl, rfl, rfl⟩
  | z :: zs, h => by
    obtain ⟨l, h1, h2, h3⟩ := u8_bytes (zs := zs) fun y hy => h y (by simp [hy])
    have hz := h z (by simp)
    have h0 : 0 ≤ z ∧ z < 256 := by
      simp [IntKind.min, IntKind.max, IntKind.signed, IntKind.bits] at hz; omega
    have hz' : ((UInt8.ofNat z.toNat).toNat : Int) = z := by
      rw [UInt8.toNat_ofNat_of_lt' (by show z.toNat < 256; omega)]; omega
    refine ⟨UInt8.ofNat z.toNat :: l, ?_, ?_, by simp [h3]⟩
    · simp only [ofBytes] at h1 ⊢
      rw [List.map_cons, List.map_cons, h1, hz']
    · rw [List.map_cons, hz', ← h2]
/-- An array of bytes. -/
theorem arr_u8 {n : Nat} {x : (Sh.arr n (.int .u8)).T} {d : D} (ok : (Sh.arr n (.int .u8)).ok x) (en : (Sh.arr n (.int .u8)).EncV x d) : ∃ l : List UInt8, l.length = n ∧ d = .agg (ofBytes l) := by
  obtain ⟨cs, h1, rfl⟩ := en
  have h2 : cs = (x : List Int).map (D.int .u8) := encL_map.1 h1
  obtain ⟨l, h3, _, h4⟩ := u8_bytes (zs := (x : List Int)) ok.2
  exact ⟨l, by rw [h4]; exact ok.1, by rw [h2, h3]⟩
/-- A slice of whole numbers. -/
theorem sl_ints {k : IntKind} {x : (Sh.sl (.int k)).T} {d : D} (en : (Sh.sl (.int k)).EncV x d) (h : Heap) : SlOf h 1 d ((x : List Int).map (D.int k)) (x : List Int).length ∧ (d = .nils ∧ x = ([] : List Int) ∨ d = .sl ((x : List Int).map (D.int k)) (x : List Int).length false) := by
  simp only [Sh.EncV, Sh.Enc] at en
  rcases en with ⟨rfl, h1⟩ | ⟨es, h1, h2⟩
  · simp only [List.cons.injEq, and_true] at h1
    subst h1
    exact ⟨nils_of h 1, .inl ⟨rfl, rfl⟩⟩
  · have h3 : es = (x : List Int).map (D.int k) := encL_map.1 h1
    simp only [List.cons.injEq, and_true] at h2
    subst h2; subst h3
    exact ⟨sl_of h 1 _ _ _ (by simp), .inr rfl⟩

theorem ok_u8 {x : Int} (ok : (Sh.int .u8).ok x) : ∃ n : Nat, x = (n : Int) ∧ n < 256 := by
  have h1 : (0 : Int) ≤ x := ok.1
  have h2 : x ≤ 255 := ok.2
  exact ⟨x.toNat, by omega, by omega⟩
theorem ok_u16 {x : Int} (ok : (Sh.int .u16).ok x) : ∃ n : Nat, x = (n : Int) ∧ n < 65536 := by
  have h1 : (0 : Int) ≤ x := ok.1
  have h2 : x ≤ 65535 := ok.2
  exact ⟨x.toNat, by omega, by omega⟩
theorem ok_u32 {x : Int} (ok : (Sh.int .u32).ok x) : ∃ n : Nat, x = (n : Int) ∧ n < 4294967296 := by
  have h1 : (0 : Int) ≤ x := ok.1
  have h2 : x ≤ 4294967295 := ok.2
  exact ⟨x.toNat, by omega, by omega⟩
theorem ok_u64 {x : Int} (ok : (Sh.int .u64).ok x) : ∃ n : Nat, x = (n : Int) ∧ n < 18446744073709551616 := by
  have h1 : (0 : Int) ≤ x := ok.1
  have h2 : x ≤ 18446744073709551615 := ok.2
  exact ⟨x.toNat, by omega, by omega⟩
theorem ok_i64 {x : Int} (ok : (Sh.int .i64).ok x) : -9223372036854775808 ≤ x ∧ x ≤ 9223372036854775807 := ok
theorem ok_i16 {x : Int} (ok : (Sh.int .i16).ok x) : -32768 ≤ x ∧ x ≤ 32767 := ok

end Go.YtodlpcoffmnmbaaDoor
