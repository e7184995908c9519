/-
  Own work. The value machine, part F: each operation does with memory what it does with plain data: reading.
-/
import Derived.Test.YtodlpcoffmnmbaaDoorVe
import Derived.WalkSpells
namespace Go.YtodlpcoffmnmbaaDoor
open Go
set_option linter.unusedVariables false
set_option linter.unusedSimpArgs false

/-- The machine's answer is this plain value, and these are the blocks behind it. -/
def Yld (P : Program) (s : Sem Value) (m : Mu) (h : Heap) (w : World) (d : D) (h' : Heap) : Prop :=
  ∃ (v : Value) (m' : Mu) (w' : World), s.run P w = .ok v w' ∧ Rep m' h' w' d v ∧ HSim m' h' w' ∧ Evo m h w m' h' w'

theorem Yld.pure {P : Program} {s : Sem Value} {m : Mu} {h : Heap} {w : World} {d : D} {v : Value} (hs : HSim m h w) (hr : s.run P w = .ok v w) (hv : Rep m h w d v) : Yld P s m h w d h :=
  ⟨v, m, w, hr, hv, hs, Evo.refl _ _ _⟩

theorem rep_dOfV1 (m : Mu) (h : Heap) (w : World) (v : Value) : Rep m h w (dOfV1 v) v := by
  unfold dOfV1
  split <;> simp [Rep]

theorem repL_dOfV1 (m : Mu) (h : Heap) (w : World) : ∀ l : List Value, RepL m h w (l.map dOfV1) l
  | [] => by simp [RepL]
  | v :: l => by simp only [List.map_cons, RepL]; exact ⟨v, l, rfl, rep_dOfV1 m h w v, repL_dOfV1 m h w l⟩

theorem rep_dOfV (m : Mu) (h : Heap) (w : World) (v : Value) : Rep m h w (dOfV v) v := by
  unfold dOfV
  split
  · rename_i cs
    simp only [Rep]
    exact ⟨cs.toList, by simp, repL_dOfV1 m h w _⟩
  · exact rep_dOfV1 m h w v

/-- An operand, with its constant told. -/
def cao : Operand → Option AO
  | .tmp t => some (.t t)
  | .const v => some (.c (dOfV v))
  | .func f => some (.c (.fn (.func f) [] []))
  | .global g => (GV.find? fun p => p.1 == g).map fun p => .c (.fptr p.2)

theorem rep_ev {m : Mu} {h : Heap} {w : World} {t : List D} {a : Act} (hs : HSim m h w) (ht : RepL m h w t a.tmps.toList) {x : Operand} {ao : AO} (hx : cao x = some ao) : Rep m h w (ev t ao) (a.eval x) := by
  cases x with
  | tmp i =>
    simp only [cao, Option.some.injEq] at hx
    subst hx
    simp only [ev, Act.eval]
    cases hi : t[i]? with
    | none => simp [List.getD, hi, Rep]
    | some d =>
      obtain ⟨v, h1, h2⟩ := ht.get hi
      have : a.tmps[i]? = some v := by simpa using h1
      simp [List.getD, hi, Array.getD_eq_getD_getElem?, this, h2]
  | const v =>
    simp only [cao, Option.some.injEq] at hx
    subst hx
    exact rep_dOfV m h w v
  | func f =>
    simp only [cao, Option.some.injEq] at hx
    subst hx
    simp [ev, Act.eval, Rep, RepL]
  | global g =>
    simp only [cao, Option.map_eq_some_iff] at hx
    obtain ⟨p, hp, rfl⟩ := hx
    have h1 := List.mem_of_find?_eq_some hp
    have h2 := List.find?_some hp
    simp only [beq_iff_eq] at h2
    subst h2
    simp only [ev, Rep, Act.eval]
    exact ⟨_, rfl, rfl, hs.glob p h1⟩

/-! ### what lies behind a pointer, or a slice -/
def Lies (m : Mu) (h : Heap) (w : World) (cs : List D) (b off : Nat) : Prop := ∀ (i : Nat) (d : D), cs[i]? = some d → ∃ u, w.cell? ⟨b, off + i, none⟩ = some u ∧ Rep m h w d u

theorem Lies.drop {m : Mu} {h : Heap} {w : World} {cs : List D} {b off : Nat} (hl : Lies m h w cs b off) (k : Nat) : Lies m h w (cs.drop k) b (off + k) := fun i d hi => by
  rw [List.getElem?_drop] at hi
  obtain ⟨u, h1, h2⟩ := hl (k + i) d hi
  exact ⟨u, by rw [← h1]; congr 2; omega, h2⟩

theorem Lies.take {m : Mu} {h : Heap} {w : World} {cs : List D} {b off : Nat} (hl : Lies m h w cs b off) (k : Nat) : Lies m h w (cs.take k) b off := fun i d hi => by
  rw [List.getElem?_take] at hi
  split at hi
  · exact hl i d hi
  · cases hi

theorem Lies.of_at {m : Mu} {h : Heap} {w : World} {cs : List D} {b off : Nat} (hr : RepAt m h w cs b off) : Lies m h w cs b off := fun i d hi => hr.get hi

theorem Lies.of_block {m : Mu} {h : Heap} {w : World} {cs : List D} {b : Nat} {arr : Array Value} {e : TypeId} {fz : Nat × Nat} {vs rest : List Value} (hb : w.heap[b]? = some (.cells arr e fz))
    (ha : arr.toList = vs ++ rest) (hr : RepL m h w cs vs) : Lies m h w cs b 0 := fun i d hi => by
  obtain ⟨v, h1, h2⟩ := hr.get hi
  refine ⟨v, ?_, h2⟩
  have : arr[i]? = some v := by
    rw [← Array.getElem?_toList, ha, List.getElem?_append_left (List.getElem?_eq_some_iff.1 h1).1]
    exact h1
  simp [World.cell?, hb, this]

theorem Lies.vals {m : Mu} {h : Heap} {w : World} : ∀ {cs : List D} {b off : Nat}, Lies m h w cs b off → ∃ vs, RepL m h w cs vs ∧ w.rangeAt b off vs
  | [], b, off, _ => ⟨[], by simp [RepL], fun j v hv => by simp at hv⟩
  | d :: ds, b, off, hl => by
    obtain ⟨u, h1, h2⟩ := hl 0 d rfl
    have hl' : Lies m h w ds b (off + 1) := fun i d' hi => by
      obtain ⟨u', h3, h4⟩ := hl (i + 1) d' (by simpa using hi)
      exact ⟨u', by rw [← h3]; congr 2; omega, h4⟩
    obtain ⟨vs, h3, h4⟩ := Lies.vals hl'
    refine ⟨u :: vs, by simp only [RepL]; exact ⟨u, vs, rfl, h2, h3⟩, fun j v hv => ?_⟩
    cases j with
    | zero => simp at hv; subst hv; exact h1
    | succ j =>
      simp at hv
      have := h4 j v hv
      rw [← this]; congr 2; omega

theorem box_lies {m : Mu} {h : Heap} {w : World} (hs : HSim m h w) {r : Nat} {cs : List D} (hr : h[r]? = some (.box cs) ∨ h[r]? = some (.icebox cs)) : Lies m h w cs (m r).1 0 := by
  rcases hr with hr | hr
  · obtain ⟨arr, e, fz, h1, h2, h3⟩ := hs.blk r _ hr
    exact Lies.of_block h1 (rest := []) (by simp) h3
  · have := hs.blk r _ hr
    exact Lies.of_at this

theorem grow_lies {m : Mu} {h : Heap} {w : World} (hs : HSim m h w) {r : Nat} {sz n : Nat} {cs : List D} (hr : h[r]? = some (.grow sz cs n) ∨ h[r]? = some (.ice sz cs n)) :
    Lies m h w cs (m r).1 0 ∧ cs.length = n * sz ∧ n ≤ (m r).2 := by
  rcases hr with hr | hr
  · obtain ⟨arr, e, fz, rest, vs, h1, h2, h3, h4, h5, h6, h7⟩ := hs.blk r _ hr
    exact ⟨Lies.of_block h1 h3 h4, h5, h6⟩
  · obtain ⟨h1, h2, h3⟩ := hs.blk r _ hr
    exact ⟨Lies.of_at h1, h2, h3⟩

theorem ptr_lies {m : Mu} {h : Heap} {w : World} (hs : HSim m h w) {d : D} {v : Value} (hv : Rep m h w d v) {cs : List D} (hc : ptrCells h d = some cs) :
    ∃ b off, v = .pointer (some ⟨b, off, none⟩) ∧ Lies m h w cs b off := by
  unfold ptrCells at hc
  split at hc
  · injection hc with hc; subst hc
    simp only [Rep] at hv
    obtain ⟨a, h1, h2, h3⟩ := hv
    obtain ⟨b, off, spot⟩ := a
    simp only at h2 h3
    subst h2
    exact ⟨b, off, h1, Lies.of_at h3⟩
  · rename_i r off
    simp only [Rep] at hv
    obtain ⟨_, blk, h1, h2⟩ := hv
    rw [h1] at hc
    split at hc
    · rename_i cs' e
      injection e with e; subst e
      injection hc with hc; subst hc
      exact ⟨_, _, h2, by have := (box_lies hs (.inl h1)).drop off; rwa [Nat.zero_add] at this⟩
    · rename_i cs' e
      injection e with e; subst e
      injection hc with hc; subst hc
      exact ⟨_, _, h2, by have := (box_lies hs (.inr h1)).drop off; rwa [Nat.zero_add] at this⟩
    · cases hc
  · rename_i r n off
    simp only [Rep] at hv
    obtain ⟨_, blk, h1, h2⟩ := hv
    rw [h1] at hc
    split at hc
    · rename_i sz cs' len e
      injection e with e; subst e
      split at hc
      · rename_i hn
        injection hc with hc; subst hc
        exact ⟨_, _, h2.2 hn, by have := (grow_lies hs (.inl h1)).1.drop off; rwa [Nat.zero_add] at this⟩
      · cases hc
    · rename_i sz cs' len e
      injection e with e; subst e
      split at hc
      · rename_i hn
        injection hc with hc; subst hc
        exact ⟨_, _, h2.2 hn, by have := (grow_lies hs (.inr h1)).1.drop off; rwa [Nat.zero_add] at this⟩
      · cases hc
    · cases hc
  · cases hc

/-- A slice's cells lie where its header says. -/
def SlAt (m : Mu) (h : Heap) (w : World) (cs : List D) (n sz : Nat) (v : Value) : Prop :=
  cs.length = n * sz ∧ ((v = .slice none 0 0 ∧ n = 0) ∨ (n = 0 ∧ ∃ a cap, v = .slice (some a) 0 cap) ∨ ∃ b off cap, v = .slice (some ⟨b, off, none⟩) n cap ∧ n ≤ cap ∧ Lies m h w cs b off)

theorem sl_lies {m : Mu} {h : Heap} {w : World} (hs : HSim m h w) {d : D} {v : Value} (hv : Rep m h w d v) {cs : List D} {sz n : Nat} (hc : slCells h sz d = some (cs, n)) : SlAt m h w cs n sz v := by
  unfold slCells at hc
  split at hc
  · simp only [Option.some.injEq, Prod.mk.injEq] at hc
    obtain ⟨rfl, rfl⟩ := hc
    simp only [Rep] at hv
    exact ⟨by simp, .inl ⟨hv, rfl⟩⟩
  · rename_i cs' n' full
    split at hc
    · rename_i hle
      simp only [Option.some.injEq, Prod.mk.injEq] at hc
      obtain ⟨rfl, rfl⟩ := hc
      simp only [Rep] at hv
      obtain ⟨a, cap, h1, h2, h3, h4, h5⟩ := hv
      rcases h4 with rfl | h4
      · exact ⟨by simp, .inr (.inl ⟨rfl, a, cap, h1⟩)⟩
      obtain ⟨b, off, spot⟩ := a
      simp only at h4 h5
      subst h4
      exact ⟨by simp; omega, .inr (.inr ⟨b, off, cap, h1, h2, (Lies.of_at h5).take _⟩)⟩
    · cases hc
  · rename_i r n'
    simp only [Rep] at hv
    obtain ⟨_, blk, h1, h2⟩ := hv
    rw [h1] at hc
    split at hc
    · rename_i sz' cs' len e
      injection e with e; subst e
      split at hc
      · rename_i hn
        obtain ⟨rfl, rfl⟩ := hn
        simp only [Option.some.injEq, Prod.mk.injEq] at hc
        obtain ⟨rfl, rfl⟩ := hc
        obtain ⟨g1, g2, g3⟩ := grow_lies hs (.inl h1)
        exact ⟨g2, .inr (.inr ⟨_, _, _, h2.2 rfl, g3, g1⟩)⟩
      · cases hc
    · rename_i sz' cs' len e
      injection e with e; subst e
      split at hc
      · rename_i hn
        obtain ⟨rfl, rfl⟩ := hn
        simp only [Option.some.injEq, Prod.mk.injEq] at hc
        obtain ⟨rfl, rfl⟩ := hc
        obtain ⟨g1, g2, g3⟩ := grow_lies hs (.inr h1)
        exact ⟨g2, .inr (.inr ⟨_, _, _, h2.2 rfl, g3, g1⟩)⟩
      · cases hc
    · cases hc
  · rename_i r n' off k
    simp only [Rep] at hv
    obtain ⟨_, blk, h1, h2⟩ := hv
    rw [h1] at hc
    split at hc
    · rename_i sz' cs' len e
      injection e with e; subst e
      split at hc
      · rename_i hn
        obtain ⟨rfl, rfl, hle⟩ := hn
        simp only [Option.some.injEq, Prod.mk.injEq] at hc
        obtain ⟨rfl, rfl⟩ := hc
        obtain ⟨g1, g2, g3⟩ := grow_lies hs (.inl h1)
        obtain ⟨cap, h4, h5⟩ := h2.2 rfl
        exact ⟨by simp; omega, .inr (.inr ⟨_, _, cap, h5, h4, by have := (g1.drop off).take (k * sz'); rwa [Nat.zero_add] at this⟩)⟩
      · cases hc
    · rename_i sz' cs' len e
      injection e with e; subst e
      split at hc
      · rename_i hn
        obtain ⟨rfl, rfl, hle⟩ := hn
        simp only [Option.some.injEq, Prod.mk.injEq] at hc
        obtain ⟨rfl, rfl⟩ := hc
        obtain ⟨g1, g2, g3⟩ := grow_lies hs (.inr h1)
        obtain ⟨cap, h4, h5⟩ := h2.2 rfl
        exact ⟨by simp; omega, .inr (.inr ⟨_, _, cap, h5, h4, by have := (g1.drop off).take (k * sz'); rwa [Nat.zero_add] at this⟩)⟩
      · cases hc
    · cases hc
  · rename_i r off k
    simp only [Rep] at hv
    obtain ⟨_, blk, h1, h2⟩ := hv
    rw [h1] at hc
    split at hc
    · rename_i cs' e
      injection e with e; subst e
      split at hc
      · rename_i hle
        simp only [Option.some.injEq, Prod.mk.injEq] at hc
        obtain ⟨rfl, rfl⟩ := hc
        have g1 := box_lies hs (.inl h1)
        obtain ⟨cap, h4, h5⟩ := h2
        exact ⟨by simp; omega, .inr (.inr ⟨_, _, cap, h5, h4, by have := (g1.drop off).take (k * sz); rwa [Nat.zero_add] at this⟩)⟩
      · cases hc
    · rename_i cs' e
      injection e with e; subst e
      split at hc
      · rename_i hle
        simp only [Option.some.injEq, Prod.mk.injEq] at hc
        obtain ⟨rfl, rfl⟩ := hc
        have g1 := box_lies hs (.inr h1)
        obtain ⟨cap, h4, h5⟩ := h2
        exact ⟨by simp; omega, .inr (.inr ⟨_, _, cap, h5, h4, by have := (g1.drop off).take (k * sz); rwa [Nat.zero_add] at this⟩)⟩
      · cases hc
    · cases hc
  · cases hc

/-- A slice's length alone. -/
theorem sl_len {m : Mu} {h : Heap} {w : World} {d : D} {v : Value} (hv : Rep m h w d v) {n : Nat} (hc : slLen h d = some n) : ∃ base cap, v = .slice base n cap ∧ (base = none → n = 0) := by
  unfold slLen at hc
  split at hc
  · injection hc with hc; subst hc
    simp only [Rep] at hv
    exact ⟨none, 0, hv, fun _ => rfl⟩
  · injection hc with hc; subst hc
    simp only [Rep] at hv
    obtain ⟨a, cap, h1, _⟩ := hv
    exact ⟨some a, cap, h1, fun e => by cases e⟩
  · simp only [Rep] at hv
    obtain ⟨_, blk, h1, h2⟩ := hv
    rw [h1] at hc
    split at hc
    · rename_i e; injection e with e; subst e
      split at hc
      · rename_i hn; injection hc with hc; subst hc; exact ⟨_, _, h2.2 hn, fun e => by cases e⟩
      · cases hc
    · rename_i e; injection e with e; subst e
      split at hc
      · rename_i hn; injection hc with hc; subst hc; exact ⟨_, _, h2.2 hn, fun e => by cases e⟩
      · cases hc
    · cases hc
  · simp only [Rep] at hv
    obtain ⟨_, blk, h1, h2⟩ := hv
    rw [h1] at hc
    split at hc
    · rename_i e; injection e with e; subst e
      split at hc
      · rename_i hn; injection hc with hc; subst hc; obtain ⟨cap, _, h4⟩ := h2.2 hn; exact ⟨_, _, h4, fun e => by cases e⟩
      · cases hc
    · rename_i e; injection e with e; subst e
      split at hc
      · rename_i hn; injection hc with hc; subst hc; obtain ⟨cap, _, h4⟩ := h2.2 hn; exact ⟨_, _, h4, fun e => by cases e⟩
      · cases hc
    · cases hc
  · simp only [Rep] at hv
    obtain ⟨_, blk, h1, h2⟩ := hv
    rw [h1] at hc
    split at hc
    · rename_i e; injection e with e; subst e
      injection hc with hc; subst hc
      obtain ⟨cap, _, h4⟩ := h2; exact ⟨_, _, h4, fun e => by cases e⟩
    · rename_i e; injection e with e; subst e
      injection hc with hc; subst hc
      obtain ⟨cap, _, h4⟩ := h2; exact ⟨_, _, h4, fun e => by cases e⟩
    · cases hc
  · cases hc

/-! ### sizes and kinds of types -/
def agOf (P : Program) (t : TypeId) : Option (Option Nat) :=
  match P.underlying t, P.info? t with
  | some (.struct _), some i => some (some i.size)
  | some (.array _ _), some i => some (some i.size)
  | some _, some _ => some none
  | _, _ => none
def szOf (P : Program) (t : TypeId) : Option Nat := (P.info? t).map (·.size)
def byOf (P : Program) (t : TypeId) : Option Nat := (P.info? t).map (·.bytes)
def zeroOf (P : Program) (t : TypeId) : Option (List D) := (P.info? t).bind fun i => i.zero.map fun z => z.cells.toList.map dOfV1

theorem run_sizeOf {P : Program} {t n : Nat} (h : szOf P t = some n) (w : World) : (sizeOf t).run P w = .ok n w := by
  unfold szOf at h
  cases hi : P.info? t with
  | none => simp [hi] at h
  | some i => simp [hi] at h; simp [sizeOf, typeInfo, hi, h]

theorem run_under {P : Program} {t : TypeId} {d : TypeDesc} (h : P.underlying t = some d) (w : World) : (underlying t).run P w = .ok d w := by
  simp [underlying, h]

theorem agOf_none {P : Program} {t : TypeId} (h : agOf P t = some none) (w : World) : (isAgg t).run P w = .ok false w := by
  unfold agOf at h
  unfold isAgg
  split at h
  · cases h
  · cases h
  · rename_i d i h1 h2 hn1 hn2
    rw [Sem.run_bind, run_under hn1 w]
    cases d <;> simp_all
  · cases h

theorem agOf_some {P : Program} {t : TypeId} {n : Nat} (h : agOf P t = some (some n)) : (∃ d, P.underlying t = some d ∧ d.isRow = true) ∧ szOf P t = some n := by
  unfold agOf at h
  split at h
  · rename_i fs i h1 h2
    simp only [Option.some.injEq] at h
    exact ⟨⟨_, h1, rfl⟩, by simp [szOf, h2, h]⟩
  · rename_i k e i h1 h2
    simp only [Option.some.injEq] at h
    exact ⟨⟨_, h1, rfl⟩, by simp [szOf, h2, h]⟩
  · simp at h
  · cases h

theorem run_loadVar_D {P : Program} {m : Mu} {h : Heap} {w : World} {t : TypeId} {ag : Option Nat} (ha : agOf P t = some ag) {cs : List D} {b off : Nat} (hl : Lies m h w cs b off) {d : D} (hd : loadCs ag cs = some d) :
    ∃ v, (loadVar t ⟨b, off, none⟩).run P w = .ok v w ∧ Rep m h w d v := by
  cases ag with
  | none =>
    simp only [loadCs] at hd
    obtain ⟨u, h1, h2⟩ := hl 0 d hd
    refine ⟨u, ?_, h2⟩
    simp only [Nat.add_zero] at h1
    simp [loadVar, agOf_none ha w, h1]
  | some n =>
    obtain ⟨⟨dd, h1, h2⟩, h3⟩ := agOf_some ha
    simp only [loadCs] at hd
    split at hd
    · rename_i hle
      injection hd with hd; subst hd
      obtain ⟨vs, g1, g2⟩ := (hl.take n).vals
      have hlen : vs.length = n := by rw [g1.length]; simp; omega
      refine ⟨.agg vs.toArray, run_loadVar_mid w b off t vs dd g2 h1 h2 (by unfold szOf at h3; rw [h3, hlen]), ?_⟩
      simp only [Rep]
      exact ⟨vs, rfl, g1⟩
    · cases hd

section reading
variable {P : Program} {m : Mu} {h : Heap} {w : World}

theorem y_load (hs : HSim m h w) {t : TypeId} {ag : Option Nat} (ha : agOf P t = some ag) {x : D} {v : Value} (hv : Rep m h w x v) {cs : List D} (hc : ptrCells h x = some cs) {d : D} (hd : loadCs ag cs = some d) :
    Yld P (Instr.loadAt t v) m h w d h := by
  obtain ⟨b, off, rfl, hl⟩ := ptr_lies hs hv hc
  obtain ⟨u, h1, h2⟩ := run_loadVar_D ha hl hd
  exact Yld.pure hs (by simp [Instr.loadAt, Instr.sureAddr, h1]) h2

theorem part_D (t : TypeId) {ag : Option Nat} (ha : agOf P t = some ag) {cs : List D} {vs : List Value} (hr : RepL m h w cs vs) {off : Nat} {d : D} (hd : loadCs ag (cs.drop off) = some d) :
    ∃ v, (part t vs.toArray off).run P w = .ok v w ∧ Rep m h w d v := by
  cases ag with
  | none =>
    simp only [loadCs, List.getElem?_drop, Nat.add_zero] at hd
    obtain ⟨u, h1, h2⟩ := hr.get hd
    exact ⟨u, by simp [part, agOf_none ha w, h1], h2⟩
  | some n =>
    obtain ⟨⟨dd, h1, h2⟩, h3⟩ := agOf_some ha
    simp only [loadCs] at hd
    split at hd
    · rename_i hle
      injection hd with hd; subst hd
      have hagg : (isAgg t).run P w = .ok true w := by
        unfold isAgg
        rw [Sem.run_bind, run_under h1 w]
        cases dd <;> simp_all
      refine ⟨.agg (vs.toArray.extract off (off + n)), by simp [part, hagg, run_sizeOf h3 w], ?_⟩
      simp only [Rep]
      refine ⟨(vs.drop off).take n, ?_, (hr.drop off).take n⟩
      apply congrArg
      apply Array.ext'
      simp [List.extract_eq_take_drop]
    · cases hd

theorem y_field (hs : HSim m h w) {t ft : TypeId} {fields : Array Field} (hu : P.underlying t = some (.struct fields)) {f : Nat} {fd : Field} (hf : fields[f]? = some fd) {ag : Option Nat} (ha : agOf P fd.type = some ag)
    {cs : List D} {v : Value} (hv : Rep m h w (.agg cs) v) {d : D} (hd : loadCs ag (cs.drop fd.offset) = some d) : Yld P (Instr.field t v f) m h w d h := by
  simp only [Rep] at hv
  obtain ⟨vs, rfl, hr⟩ := hv
  obtain ⟨u, h1, h2⟩ := part_D fd.type ha hr hd
  exact Yld.pure hs (by simp [Instr.field, run_under hu w, hf, asAgg, h1]) h2

theorem y_index_arr (hs : HSim m h w) {t e : TypeId} {n sz : Nat} (hu : P.underlying t = some (.array n e)) (hz : szOf P e = some sz) {ag : Option Nat} (ha : agOf P e = some ag)
    {cs : List D} {v iv : Value} (hv : Rep m h w (.agg cs) v) {i : D} (hi : Rep m h w i iv) {j : Nat} (hj : idx i n = some j) {d : D} (hd : loadCs ag (cs.drop (j * sz)) = some d) :
    Yld P (Instr.index t v iv) m h w d h := by
  simp only [Rep] at hv
  obtain ⟨vs, rfl, hr⟩ := hv
  unfold idx at hj
  split at hj
  · rename_i k q
    simp only [Rep] at hi
    subst hi
    split at hj
    · rename_i hb
      injection hj with hj; subst hj
      obtain ⟨u, h1, h2⟩ := part_D e ha hr hd
      exact Yld.pure hs (by simp [Instr.index, asIntOf, run_under hu w, hb.1, hb.2, run_sizeOf hz w, h1]) h2
    · cases hj
  · cases hj

theorem y_index_str (hs : HSim m h w) {t : TypeId} (hu : P.underlying t = some .string) {s : ByteArray} {v iv : Value} (hv : Rep m h w (.str s) v) {k : IntKind} {j : Int} (hi : Rep m h w (.int k j) iv) (h0 : 0 ≤ j)
    {b : UInt8} (hb : s.data.toList[j.toNat]? = some b) : Yld P (Instr.index t v iv) m h w (.int .u8 (b.toNat : Int)) h := by
  simp only [Rep] at hv hi
  subst hv; subst hi
  have : s[j.toNat]? = some b := by
    simp only [Array.getElem?_toList] at hb
    obtain ⟨h1, h2⟩ := Array.getElem?_eq_some_iff.1 hb
    rw [getElem?_pos s j.toNat (show j.toNat < s.size from h1)]
    exact congrArg some h2
  exact Yld.pure (v := .int .u8 b.toNat) hs (by simp [Instr.index, asIntOf, run_under hu w, h0, this]) (by simp [Rep])

theorem y_extract (hs : HSim m h w) {vs : List D} {v : Value} (hv : Rep m h w (.tup vs) v) {i : Nat} {d : D} (hd : vs[i]? = some d) : Yld P (Instr.extract v i) m h w d h := by
  simp only [Rep] at hv
  obtain ⟨us, rfl, hr⟩ := hv
  obtain ⟨u, h1, h2⟩ := hr.get hd
  exact Yld.pure hs (by simp [Instr.extract, h1]) h2

end reading

end Go.YtodlpcoffmnmbaaDoor
