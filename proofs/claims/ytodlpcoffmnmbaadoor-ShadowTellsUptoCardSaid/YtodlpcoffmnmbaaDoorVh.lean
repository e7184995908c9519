/-
  Own work. The value machine, part H: addresses, pieces, sums, lengths, conversions.
-/
import Derived.Test.YtodlpcoffmnmbaaDoorVg
import Derived.Laws.BytesString
namespace Go.YtodlpcoffmnmbaaDoor
open Go
set_option linter.unusedVariables false
set_option linter.unusedSimpArgs false

section
variable {P : Program} {m : Mu} {h : Heap} {w : World}

theorem addr_add (b o k : Nat) : (⟨b, o, none⟩ : Addr).add k = ⟨b, o + k, none⟩ := Addr.add_mid b o k

/-- A pointer's field. -/
theorem rep_fieldAddr (hs : HSim m h w) {x d : D} {v : Value} (hv : Rep m h w x v) {off : Nat} (hf : fieldAddr h off x = some d) :
    ∃ b o, v = .pointer (some ⟨b, o, none⟩) ∧ Rep m h w d (.pointer (some ⟨b, o + off, none⟩)) := by
  unfold fieldAddr at hf
  split at hf
  · rename_i r o
    simp only [Rep] at hv
    obtain ⟨_, blk, h1, h2⟩ := hv
    rw [h1] at hf
    split at hf
    · rename_i cs e
      injection e with e; subst e
      injection hf with hf; subst hf
      exact ⟨_, _, h2, by simp only [Rep]; exact ⟨⟨m r, rfl⟩, _, h1, rfl⟩⟩
    · rename_i cs e
      injection e with e; subst e
      injection hf with hf; subst hf
      exact ⟨_, _, h2, by simp only [Rep]; exact ⟨⟨m r, rfl⟩, _, h1, rfl⟩⟩
    · cases hf
  · rename_i r n o
    simp only [Rep] at hv
    obtain ⟨_, blk, h1, h2⟩ := hv
    rw [h1] at hf
    split at hf
    · rename_i sz cs len e
      injection e with e; subst e
      split at hf
      · rename_i hn
        injection hf with hf; subst hf
        exact ⟨_, _, h2.2 hn, by simp only [Rep]; exact ⟨⟨m r, rfl⟩, _, h1, h2.1, fun _ => rfl⟩⟩
      · cases hf
    · rename_i sz cs len e
      injection e with e; subst e
      split at hf
      · rename_i hn
        injection hf with hf; subst hf
        exact ⟨_, _, h2.2 hn, by simp only [Rep]; exact ⟨⟨m r, rfl⟩, _, h1, h2.1, fun _ => rfl⟩⟩
      · cases hf
    · cases hf
  · rename_i cs
    injection hf with hf; subst hf
    simp only [Rep] at hv
    obtain ⟨a, h1, h2, h3⟩ := hv
    obtain ⟨b, o, spot⟩ := a
    simp only at h2 h3
    subst h2
    exact ⟨b, o, h1, by simp only [Rep]; exact ⟨_, rfl, rfl, h3.drop off⟩⟩
  · cases hf

theorem y_fieldAddr (hs : HSim m h w) {t : TypeId} {fields : Array Field} (hu : P.underlying t = some (.struct fields)) {f : Nat} {fd : Field} (hf : fields[f]? = some fd) {sz : Nat} (hz : szOf P fd.type = some sz) (hz0 : ¬ sz = 0)
    {x d : D} {v : Value} (hv : Rep m h w x v) (hd : fieldAddr h fd.offset x = some d) : Yld P (Instr.fieldAt t v f) m h w d h := by
  obtain ⟨b, o, rfl, h2⟩ := rep_fieldAddr hs hv hd
  exact Yld.pure hs (by simp [Instr.fieldAt, Instr.sureAddr, run_under hu w, hf, fieldPlace, run_sizeOf hz w, hz0, addr_add]) h2

theorem y_nilchk {x d : D} {v : Value} (hs : HSim m h w) (hv : Rep m h w x v) (hd : fieldAddr h 0 x = some d) : ∃ a, v = .pointer (some a) := by
  obtain ⟨b, o, rfl, h2⟩ := rep_fieldAddr hs hv hd
  exact ⟨_, rfl⟩

theorem idx_spec {i : D} {iv : Value} (hi : Rep m h w i iv) {n j : Nat} (hj : idx i n = some j) : ∃ k q, iv = .int k q ∧ 0 ≤ q ∧ q < n ∧ j = q.toNat := by
  unfold idx at hj
  split at hj
  · rename_i k q
    simp only [Rep] at hi
    split at hj
    · rename_i hb
      injection hj with hj
      exact ⟨k, q, hi, hb.1, hb.2, hj.symm⟩
    · cases hj
  · cases hj

/-- The address of an array's element. -/
theorem y_ixa (hs : HSim m h w) {t e : TypeId} {n sz : Nat} (hu : P.underlying t = some (.array n e)) (hz : szOf P e = some sz) {x i d : D} {v iv : Value} (hv : Rep m h w x v) (hi : Rep m h w i iv) {j : Nat} (hj : idx i n = some j)
    (hd : fieldAddr h (j * sz) x = some d) : Yld P (Instr.indexAt t v iv) m h w d h := by
  obtain ⟨k, q, rfl, h0, h1, rfl⟩ := idx_spec hi hj
  obtain ⟨b, o, rfl, h2⟩ := rep_fieldAddr hs hv hd
  exact Yld.pure hs (by simp [Instr.indexAt, asIntOf, Instr.sureAddr, run_under hu w, run_sizeOf hz w, h0, h1, addr_add]) h2

theorem run_indexAt_sl {t e : TypeId} {sz : Nat} (hu : P.underlying t = some (.slice e)) (hz : szOf P e = some sz) (b o n cap : Nat) (k : IntKind) (q : Int) (h0 : 0 ≤ q) (h1 : q < n) :
    (Instr.indexAt t (.slice (some ⟨b, o, none⟩) n cap) (.int k q)).run P w = .ok (.pointer (some ⟨b, o + q.toNat * sz, none⟩)) w := by
  simp [Instr.indexAt, asIntOf, run_under hu w, run_sizeOf hz w, h0, h1, addr_add]

/-- The address of a slice's element. -/
theorem y_ixs (hs : HSim m h w) {t e : TypeId} {sz : Nat} (hu : P.underlying t = some (.slice e)) (hz : szOf P e = some sz) {x i d : D} {v iv : Value} (hv : Rep m h w x v) (hi : Rep m h w i iv) (hd : elemAddr h sz x i = some d) :
    Yld P (Instr.indexAt t v iv) m h w d h := by
  unfold elemAddr at hd
  split at hd
  · rename_i cs n full
    split at hd
    · rename_i hle
      simp only [Option.map_eq_some_iff] at hd
      obtain ⟨j, hj, rfl⟩ := hd
      obtain ⟨k, q, rfl, h0, h1, rfl⟩ := idx_spec hi hj
      simp only [Rep] at hv
      obtain ⟨a, cap, rfl, g1, g2, g3, g4⟩ := hv
      have g3 : a.spot = none := by
        rcases g3 with g3 | g3
        · omega
        · exact g3
      obtain ⟨b, o, spot⟩ := a
      simp only at g3 g4
      subst g3
      exact Yld.pure hs (run_indexAt_sl hu hz b o n cap k q h0 h1) (by simp only [Rep]; exact ⟨_, rfl, rfl, g4.drop _⟩)
    · cases hd
  · rename_i r n
    simp only [Rep] at hv
    obtain ⟨_, blk, h1, h2⟩ := hv
    rw [h1] at hd
    split at hd
    · rename_i sz' cs len e'
      injection e' with e'; subst e'
      split at hd
      · rename_i hn
        obtain ⟨rfl, rfl⟩ := hn
        simp only [Option.map_eq_some_iff] at hd
        obtain ⟨j, hj, rfl⟩ := hd
        obtain ⟨k, q, rfl, g0, g1, rfl⟩ := idx_spec hi hj
        have hv := h2.2 rfl
        unfold isOwn at hv
        subst hv
        exact Yld.pure hs (run_indexAt_sl hu hz _ _ _ _ k q g0 g1) (by simp only [Rep]; exact ⟨⟨m r, by simp [isPtr]⟩, _, h1, Nat.le_refl _, fun _ => by simp [isPtr]⟩)
      · cases hd
    · rename_i sz' cs len e'
      injection e' with e'; subst e'
      split at hd
      · rename_i hn
        obtain ⟨rfl, rfl⟩ := hn
        simp only [Option.map_eq_some_iff] at hd
        obtain ⟨j, hj, rfl⟩ := hd
        obtain ⟨k, q, rfl, g0, g1, rfl⟩ := idx_spec hi hj
        have hv := h2.2 rfl
        unfold isOwn at hv
        subst hv
        exact Yld.pure hs (run_indexAt_sl hu hz _ _ _ _ k q g0 g1) (by simp only [Rep]; exact ⟨⟨m r, by simp [isPtr]⟩, _, h1, Nat.le_refl _, fun _ => by simp [isPtr]⟩)
      · cases hd
    · cases hd
  · rename_i r n off kk
    simp only [Rep] at hv
    obtain ⟨_, blk, h1, h2⟩ := hv
    rw [h1] at hd
    split at hd
    · rename_i sz' cs len e'
      injection e' with e'; subst e'
      split at hd
      · rename_i hn
        obtain ⟨rfl, rfl⟩ := hn
        simp only [Option.map_eq_some_iff] at hd
        obtain ⟨j, hj, rfl⟩ := hd
        obtain ⟨k, q, rfl, g0, g1, rfl⟩ := idx_spec hi hj
        obtain ⟨cap, _, hv⟩ := h2.2 rfl
        subst hv
        exact Yld.pure hs (run_indexAt_sl hu hz _ _ _ _ k q g0 g1) (by simp only [Rep]; exact ⟨⟨m r, rfl⟩, _, h1, Nat.le_refl _, fun _ => rfl⟩)
      · cases hd
    · rename_i sz' cs len e'
      injection e' with e'; subst e'
      split at hd
      · rename_i hn
        obtain ⟨rfl, rfl⟩ := hn
        simp only [Option.map_eq_some_iff] at hd
        obtain ⟨j, hj, rfl⟩ := hd
        obtain ⟨k, q, rfl, g0, g1, rfl⟩ := idx_spec hi hj
        obtain ⟨cap, _, hv⟩ := h2.2 rfl
        subst hv
        exact Yld.pure hs (run_indexAt_sl hu hz _ _ _ _ k q g0 g1) (by simp only [Rep]; exact ⟨⟨m r, rfl⟩, _, h1, Nat.le_refl _, fun _ => rfl⟩)
      · cases hd
    · cases hd
  · rename_i r off kk
    simp only [Rep] at hv
    obtain ⟨_, blk, h1, h2⟩ := hv
    rw [h1] at hd
    split at hd
    · rename_i cs e'
      injection e' with e'; subst e'
      simp only [Option.map_eq_some_iff] at hd
      obtain ⟨j, hj, rfl⟩ := hd
      obtain ⟨k, q, rfl, g0, g1, rfl⟩ := idx_spec hi hj
      obtain ⟨cap, _, hv⟩ := h2
      subst hv
      exact Yld.pure hs (run_indexAt_sl hu hz _ _ _ _ k q g0 g1) (by simp only [Rep]; exact ⟨⟨m r, rfl⟩, _, h1, rfl⟩)
    · rename_i cs e'
      injection e' with e'; subst e'
      simp only [Option.map_eq_some_iff] at hd
      obtain ⟨j, hj, rfl⟩ := hd
      obtain ⟨k, q, rfl, g0, g1, rfl⟩ := idx_spec hi hj
      obtain ⟨cap, _, hv⟩ := h2
      subst hv
      exact Yld.pure hs (run_indexAt_sl hu hz _ _ _ _ k q g0 g1) (by simp only [Rep]; exact ⟨⟨m r, rfl⟩, _, h1, rfl⟩)
    · cases hd
  · cases hd

theorem idx_nat {j n r : Nat} (h : idx (.int .i64 (j : Int)) n = some r) : j < n ∧ r = j := by
  simp only [idx] at h
  split at h
  · injection h with h
    exact ⟨by omega, by omega⟩
  · cases h
/-- A slice that has an element, and where it lies. -/
theorem elem_rep (hs : HSim m h w) {sz j : Nat} {x d : D} {v : Value} (hv : Rep m h w x v) (hd : elemAddr h sz x (.int .i64 (j : Int)) = some d) :
    ∃ b o len cap, v = .slice (some ⟨b, o, none⟩) len cap ∧ j < len ∧ Rep m h w d (.pointer (some ⟨b, o + j * sz, none⟩)) := by
  unfold elemAddr at hd
  split at hd
  · rename_i cs n full
    split at hd
    · rename_i hle
      simp only [Option.map_eq_some_iff] at hd
      obtain ⟨j, hj, rfl⟩ := hd
      obtain ⟨h1', rfl⟩ := idx_nat hj
      simp only [Rep] at hv
      obtain ⟨a, cap, rfl, g1, g2, g3, g4⟩ := hv
      have g3 : a.spot = none := by
        rcases g3 with g3 | g3
        · omega
        · exact g3
      obtain ⟨b, o, spot⟩ := a
      simp only at g3 g4
      subst g3
      exact ⟨_, _, _, _, rfl, h1', by simp only [Rep]; exact ⟨_, rfl, rfl, g4.drop _⟩⟩
    · cases hd
  · rename_i r n
    simp only [Rep] at hv
    obtain ⟨_, blk, h1, h2⟩ := hv
    rw [h1] at hd
    split at hd
    · rename_i sz' cs len e'
      injection e' with e'; subst e'
      split at hd
      · rename_i hn
        obtain ⟨rfl, rfl⟩ := hn
        simp only [Option.map_eq_some_iff] at hd
        obtain ⟨j, hj, rfl⟩ := hd
        obtain ⟨h1', rfl⟩ := idx_nat hj
        have hv := h2.2 rfl
        unfold isOwn at hv
        subst hv
        exact ⟨_, _, _, _, rfl, h1', by simp only [Rep]; exact ⟨⟨m r, by simp [isPtr]⟩, _, h1, Nat.le_refl _, fun _ => by simp [isPtr]⟩⟩
      · cases hd
    · rename_i sz' cs len e'
      injection e' with e'; subst e'
      split at hd
      · rename_i hn
        obtain ⟨rfl, rfl⟩ := hn
        simp only [Option.map_eq_some_iff] at hd
        obtain ⟨j, hj, rfl⟩ := hd
        obtain ⟨h1', rfl⟩ := idx_nat hj
        have hv := h2.2 rfl
        unfold isOwn at hv
        subst hv
        exact ⟨_, _, _, _, rfl, h1', by simp only [Rep]; exact ⟨⟨m r, by simp [isPtr]⟩, _, h1, Nat.le_refl _, fun _ => by simp [isPtr]⟩⟩
      · cases hd
    · cases hd
  · rename_i r n off kk
    simp only [Rep] at hv
    obtain ⟨_, blk, h1, h2⟩ := hv
    rw [h1] at hd
    split at hd
    · rename_i sz' cs len e'
      injection e' with e'; subst e'
      split at hd
      · rename_i hn
        obtain ⟨rfl, rfl⟩ := hn
        simp only [Option.map_eq_some_iff] at hd
        obtain ⟨j, hj, rfl⟩ := hd
        obtain ⟨h1', rfl⟩ := idx_nat hj
        obtain ⟨cap, _, hv⟩ := h2.2 rfl
        subst hv
        exact ⟨_, _, _, _, rfl, h1', by simp only [Rep]; exact ⟨⟨m r, rfl⟩, _, h1, Nat.le_refl _, fun _ => rfl⟩⟩
      · cases hd
    · rename_i sz' cs len e'
      injection e' with e'; subst e'
      split at hd
      · rename_i hn
        obtain ⟨rfl, rfl⟩ := hn
        simp only [Option.map_eq_some_iff] at hd
        obtain ⟨j, hj, rfl⟩ := hd
        obtain ⟨h1', rfl⟩ := idx_nat hj
        obtain ⟨cap, _, hv⟩ := h2.2 rfl
        subst hv
        exact ⟨_, _, _, _, rfl, h1', by simp only [Rep]; exact ⟨⟨m r, rfl⟩, _, h1, Nat.le_refl _, fun _ => rfl⟩⟩
      · cases hd
    · cases hd
  · rename_i r off kk
    simp only [Rep] at hv
    obtain ⟨_, blk, h1, h2⟩ := hv
    rw [h1] at hd
    split at hd
    · rename_i cs e'
      injection e' with e'; subst e'
      simp only [Option.map_eq_some_iff] at hd
      obtain ⟨j, hj, rfl⟩ := hd
      obtain ⟨h1', rfl⟩ := idx_nat hj
      obtain ⟨cap, _, hv⟩ := h2
      subst hv
      exact ⟨_, _, _, _, rfl, h1', by simp only [Rep]; exact ⟨⟨m r, rfl⟩, _, h1, rfl⟩⟩
    · rename_i cs e'
      injection e' with e'; subst e'
      simp only [Option.map_eq_some_iff] at hd
      obtain ⟨j, hj, rfl⟩ := hd
      obtain ⟨h1', rfl⟩ := idx_nat hj
      obtain ⟨cap, _, hv⟩ := h2
      subst hv
      exact ⟨_, _, _, _, rfl, h1', by simp only [Rep]; exact ⟨⟨m r, rfl⟩, _, h1, rfl⟩⟩
    · cases hd
  · cases hd
/-- A slice's elements as an array. -/
theorem y_s2a (hs : HSim m h w) {t e : TypeId} {n sz : Nat} (hu : P.underlying t = some (.array n e)) (hn : 1 ≤ n) {x i d : D} {v : Value} (hv : Rep m h w x v) (h1 : elemAddr h sz x (.int .i64 ((n - 1 : Nat) : Int)) = some i) (hd : elemAddr h sz x (.int .i64 0) = some d) :
    Yld P (Instr.arrayAt t v) m h w d h := by
  obtain ⟨b, o, len, cap, rfl, hl, _⟩ := elem_rep hs hv h1
  obtain ⟨b', o', len', cap', e', _, hr⟩ := elem_rep (j := 0) hs hv hd
  injection e' with e1 e2 e3
  injection e1 with e1
  injection e1 with e1 e4
  subst e1; subst e4
  rw [Nat.zero_mul, Nat.add_zero] at hr
  refine Yld.pure hs ?_ hr
  have : ¬ len < n := by omega
  simp [Instr.arrayAt, run_under hu w, this]

/-! ### bounds -/
def BndV (m : Mu) (h : Heap) (w : World) : Option D → Option Value → Prop
  | none, none => True
  | some d, some v => Rep m h w d v
  | _, _ => False

theorem bnd_some {d : D} {v : Value} (hb : Rep m h w d v) {dflt top r : Nat} (hr : bnd (some d) dflt top = some r) : ∃ k q, v = .int k q ∧ 0 ≤ q ∧ q ≤ top ∧ r = q.toNat := by
  unfold bnd at hr
  split at hr
  · rename_i e; cases e
  · rename_i k i e
    injection e with e; subst e
    simp only [Rep] at hb
    split at hr
    · rename_i hc
      injection hr with hr
      exact ⟨k, i, hb, hc.1, hc.2, hr.symm⟩
    · cases hr
  · cases hr

theorem run_bounds (isS : Bool) (len cap : Nat) (hlc : len ≤ cap) {lo hi : Option D} {lov hiv : Option Value} (hl : BndV m h w lo lov) (hh : BndV m h w hi hiv) {a b : Nat} (hb : bnd hi len len = some b) (ha : bnd lo 0 b = some a) :
    (Instr.sliceBounds isS len cap lov hiv none).run P w = .ok (a, b, cap) w ∧ a ≤ b ∧ b ≤ len := by
  have hhi : (hiv = none ∧ b = len) ∨ ∃ k q, hiv = some (.int k q) ∧ 0 ≤ q ∧ q ≤ len ∧ b = q.toNat := by
    cases hi with
    | none =>
      cases hiv with
      | none => simp [bnd] at hb; exact .inl ⟨rfl, hb.symm⟩
      | some v => exact hh.elim
    | some d =>
      cases hiv with
      | none => exact hh.elim
      | some v =>
        obtain ⟨k, q, rfl, g0, g1, rfl⟩ := bnd_some hh hb
        exact .inr ⟨k, q, rfl, g0, g1, rfl⟩
  have hlo : (lov = none ∧ a = 0) ∨ ∃ k q, lov = some (.int k q) ∧ 0 ≤ q ∧ q ≤ b ∧ a = q.toNat := by
    cases lo with
    | none =>
      cases lov with
      | none => simp [bnd] at ha; exact .inl ⟨rfl, ha.symm⟩
      | some v => exact hl.elim
    | some d =>
      cases lov with
      | none => exact hl.elim
      | some v =>
        obtain ⟨k, q, rfl, g0, g1, rfl⟩ := bnd_some hl ha
        exact .inr ⟨k, q, rfl, g0, g1, rfl⟩
  have hble : b ≤ len := by
    rcases hhi with ⟨_, rfl⟩ | ⟨k, q, _, g0, g1, rfl⟩ <;> omega
  have hale : a ≤ b := by
    rcases hlo with ⟨_, rfl⟩ | ⟨k, q, _, g0, g1, rfl⟩ <;> omega
  refine ⟨?_, hale, hble⟩
  rcases hhi with ⟨rfl, rfl⟩ | ⟨k, q, rfl, g0, g1, rfl⟩ <;> rcases hlo with ⟨rfl, rfl⟩ | ⟨k', q', rfl, g2, g3, rfl⟩
  · simp [Instr.sliceBounds]
  · simp [Instr.sliceBounds, Instr.sliceBound, asIntOf, g2, g3]
  · have : q ≤ (cap : Int) := by omega
    simp [Instr.sliceBounds, Instr.sliceBound, asIntOf, g0, this]
  · have : q ≤ (cap : Int) := by omega
    have hq : q' ≤ max q 0 := by omega
    have hq2 : ¬ max q 0 < q' := by omega
    simp [Instr.sliceBounds, Instr.sliceBound, asIntOf, g0, this, g2, hq, hq2]

theorem run_slc {t e : TypeId} {sz : Nat} (hu : P.underlying t = some (.slice e)) (hz : szOf P e = some sz) {lo hi : Option D} {lov hiv : Option Value} (hl : BndV m h w lo lov) (hh : BndV m h w hi hiv) {a b : Nat} {len cap : Nat} (hlc : len ≤ cap)
    (hb : bnd hi len len = some b) (ha : bnd lo 0 b = some a) (base : Option Addr) :
    (Instr.sliceAt t (.slice base len cap) lov hiv none).run P w = .ok (.slice (if cap = a then base else base.map (·.add (a * sz))) (b - a) (cap - a)) w ∧ a ≤ b ∧ b ≤ len := by
  obtain ⟨h1, h2, h3⟩ := run_bounds (P := P) true len cap hlc hl hh hb ha
  refine ⟨?_, h2, h3⟩
  unfold Instr.sliceAt
  simp only [Sem.run_bind, run_under hu w, Result.andThen_ok]
  unfold Instr.slice
  simp only [Sem.run_bind, run_under hu w, Result.andThen_ok, h1, run_sizeOf hz w, Sem.run_pure]

/-- A piece of a slice. -/
theorem y_slc (hs : HSim m h w) {t e : TypeId} {sz : Nat} (hu : P.underlying t = some (.slice e)) (hz : szOf P e = some sz) {x d : D} {v : Value} (hv : Rep m h w x v) {lo hi : Option D} {lov hiv : Option Value} (hl : BndV m h w lo lov) (hh : BndV m h w hi hiv)
    (hd : subSl h sz x lo hi = some d) : Yld P (Instr.sliceAt t v lov hiv none) m h w d h := by
  unfold subSl at hd
  split at hd
  · simp only [Option.bind_eq_some_iff, Option.map_eq_some_iff] at hd
    obtain ⟨b, hb, a, ha, rfl⟩ := hd
    simp only [Rep] at hv
    subst hv
    obtain ⟨g1, g2, g3⟩ := run_slc hu hz hl hh (Nat.le_refl 0) hb ha none
    have e1 : b = 0 := by omega
    have e2 : a = 0 := by omega
    subst e1; subst e2
    exact Yld.pure hs g1 (by simp [Rep])
  · rename_i cs n full
    split at hd
    · rename_i hle
      simp only [Option.bind_eq_some_iff, Option.map_eq_some_iff] at hd
      obtain ⟨b, hb, a, ha, rfl⟩ := hd
      simp only [Rep] at hv
      obtain ⟨ad, cap, rfl, q1, q2, q3, q4⟩ := hv
      obtain ⟨g1, g2, g3⟩ := run_slc hu hz hl hh q1 hb ha (some ad)
      refine Yld.pure hs g1 ?_
      simp only [Rep]
      by_cases hca : cap = a
      · rw [if_pos hca]
        have e0 : b - a = 0 := by omega
        refine ⟨ad, cap - a, rfl, by omega, by simp, .inl e0, ?_⟩
        rw [e0]; simp [RepAt]
      · rw [if_neg hca]
        refine ⟨ad.add (a * sz), cap - a, rfl, by omega, by simp, ?_, ?_⟩
        · rcases q3 with q3 | q3
          · exact .inl (by omega)
          · right; unfold Addr.add; split
            · exact q3
            · rfl
        · by_cases h0 : a * sz = 0
          · have := (q4.drop (a * sz)).take ((b - a) * sz)
            rw [h0] at this ⊢; simpa [Addr.add] using this
          · have e1 : ad.add (a * sz) = ⟨ad.block, ad.off + a * sz, none⟩ := by simp [Addr.add, h0]
            rw [e1]; exact (q4.drop _).take _
    · cases hd
  · rename_i r n
    simp only [Rep] at hv
    obtain ⟨_, blk, h1, h2⟩ := hv
    rw [h1] at hd
    have main : ∀ (len : Nat), n ≤ len → (n = len → isOwn n v (m r)) → n ≤ (m r).2 → (∀ (k : Nat), OwnV m r n (isSub k (k - k) v) blk → True) → n = len → (∀ p : Nat × Nat → Prop, p (m r) → OwnV m r n p blk) →
        ((bnd hi n n).bind fun b => (bnd lo 0 b).bind fun a => if a < n then some (D.osl r n (a * sz) (b - a)) else some (.sl [] 0 false)) = some d → Yld P (Instr.sliceAt t v lov hiv none) m h w d h := by
      intro len _ hown hcap _ hn hmk hd
      simp only [Option.bind_eq_some_iff] at hd
      obtain ⟨b, hb, a, ha, hd⟩ := hd
      have hv := hown hn
      unfold isOwn at hv
      subst hv
      obtain ⟨g1, g2, g3⟩ := run_slc hu hz hl hh hcap hb ha (some ⟨(m r).1, 0, none⟩)
      refine Yld.pure hs g1 ?_
      split at hd
      · rename_i han
        injection hd with hd; subst hd
        rw [if_neg (by omega)]
        simp only [Rep]
        exact ⟨⟨m r, (m r).2 - a, by omega, by simp [addr_add]⟩, blk, h1, hmk _ ⟨(m r).2 - a, by omega, by simp [addr_add]⟩⟩
      · injection hd with hd; subst hd
        have e0 : b - a = 0 := by omega
        rw [e0]
        simp only [Rep]
        split
        · exact ⟨_, _, rfl, by omega, by simp, .inl (by first | rfl | trivial), by simp [RepAt]⟩
        · exact ⟨⟨(m r).1, 0 + a * sz, none⟩, (m r).2 - a, by simp [addr_add], by omega, by simp, .inl (by first | rfl | trivial), by simp [RepAt]⟩
    split at hd
    · rename_i sz' cs len e'
      injection e' with e'; subst e'
      split at hd
      · rename_i hn
        exact main len h2.1 h2.2 (by have := (grow_lies hs (.inl h1)).2.2; omega) (fun _ _ => trivial) hn.1 (fun p hp => ⟨h2.1, fun _ => hp⟩) hd
      · cases hd
    · rename_i sz' cs len e'
      injection e' with e'; subst e'
      split at hd
      · rename_i hn
        exact main len h2.1 h2.2 (by have := (grow_lies hs (.inr h1)).2.2; omega) (fun _ _ => trivial) hn.1 (fun p hp => ⟨h2.1, fun _ => hp⟩) hd
      · cases hd
    · cases hd
  · rename_i r n off k
    simp only [Rep] at hv
    obtain ⟨_, blk, h1, h2⟩ := hv
    rw [h1] at hd
    have main : isSub off k v (m r) → (∀ p : Nat × Nat → Prop, p (m r) → OwnV m r n p blk) →
        ((bnd hi k k).bind fun b => (bnd lo 0 b).bind fun a => if a < k then some (D.osl r n (off + a * sz) (b - a)) else some (.sl [] 0 false)) = some d → Yld P (Instr.sliceAt t v lov hiv none) m h w d h := by
      intro hsub hmk hd
      simp only [Option.bind_eq_some_iff] at hd
      obtain ⟨b, hb, a, ha, hd⟩ := hd
      obtain ⟨cap, hcap, rfl⟩ := hsub
      obtain ⟨g1, g2, g3⟩ := run_slc hu hz hl hh hcap hb ha (some ⟨(m r).1, off, none⟩)
      refine Yld.pure hs g1 ?_
      split at hd
      · rename_i han
        injection hd with hd; subst hd
        rw [if_neg (by omega)]
        simp only [Rep]
        exact ⟨⟨m r, cap - a, by omega, by simp [addr_add]⟩, blk, h1, hmk _ ⟨cap - a, by omega, by simp [addr_add]⟩⟩
      · injection hd with hd; subst hd
        have e0 : b - a = 0 := by omega
        rw [e0]
        simp only [Rep]
        split
        · exact ⟨_, _, rfl, by omega, by simp, .inl (by first | rfl | trivial), by simp [RepAt]⟩
        · exact ⟨⟨(m r).1, off + a * sz, none⟩, cap - a, by simp [addr_add], by omega, by simp, .inl (by first | rfl | trivial), by simp [RepAt]⟩
    split at hd
    · rename_i sz' cs len e'
      injection e' with e'; subst e'
      split at hd
      · rename_i hn
        exact main (h2.2 hn.1) (fun p hp => ⟨h2.1, fun _ => hp⟩) hd
      · cases hd
    · rename_i sz' cs len e'
      injection e' with e'; subst e'
      split at hd
      · rename_i hn
        exact main (h2.2 hn.1) (fun p hp => ⟨h2.1, fun _ => hp⟩) hd
      · cases hd
    · cases hd
  · rename_i r off k
    simp only [Rep] at hv
    obtain ⟨_, blk, h1, h2⟩ := hv
    rw [h1] at hd
    have main : isSub off k v (m r) → (∀ p : Nat × Nat → Prop, p (m r) → RefV m r p blk) →
        ((bnd hi k k).bind fun b => (bnd lo 0 b).bind fun a => if a < k then some (D.bsl r (off + a * sz) (b - a)) else some (.sl [] 0 false)) = some d → Yld P (Instr.sliceAt t v lov hiv none) m h w d h := by
      intro hsub hmk hd
      simp only [Option.bind_eq_some_iff] at hd
      obtain ⟨b, hb, a, ha, hd⟩ := hd
      obtain ⟨cap, hcap, rfl⟩ := hsub
      obtain ⟨g1, g2, g3⟩ := run_slc hu hz hl hh hcap hb ha (some ⟨(m r).1, off, none⟩)
      refine Yld.pure hs g1 ?_
      split at hd
      · rename_i han
        injection hd with hd; subst hd
        rw [if_neg (by omega)]
        simp only [Rep]
        exact ⟨⟨m r, cap - a, by omega, by simp [addr_add]⟩, blk, h1, hmk _ ⟨cap - a, by omega, by simp [addr_add]⟩⟩
      · injection hd with hd; subst hd
        have e0 : b - a = 0 := by omega
        rw [e0]
        simp only [Rep]
        split
        · exact ⟨_, _, rfl, by omega, by simp, .inl (by first | rfl | trivial), by simp [RepAt]⟩
        · exact ⟨⟨(m r).1, off + a * sz, none⟩, cap - a, by simp [addr_add], by omega, by simp, .inl (by first | rfl | trivial), by simp [RepAt]⟩
    split at hd
    · rename_i cs e'
      injection e' with e'; subst e'
      exact main h2 (fun p hp => hp) hd
    · rename_i cs e'
      injection e' with e'; subst e'
      exact main h2 (fun p hp => hp) hd
    · cases hd
  · cases hd

/-- A piece of an array in memory. -/
theorem y_sarr (hs : HSim m h w) {t e : TypeId} {n sz : Nat} (hu : P.underlying t = some (.array n e)) (hz : szOf P e = some sz) {x : D} {v : Value} (hv : Rep m h w x v) {lo hi : Option D} {lov hiv : Option Value} (hl : BndV m h w lo lov) (hh : BndV m h w hi hiv)
    {a b : Nat} (hb : bnd hi n n = some b) (ha : bnd lo 0 b = some a) :
    (∀ r off cs, x = .ref r off → (h[r]? = some (.box cs) ∨ h[r]? = some (.icebox cs)) → Yld P (Instr.sliceAt t v lov hiv none) m h w (if a < n then .bsl r (off + a * sz) (b - a) else .sl [] 0 false) h) ∧
    (∀ cs, x = .fptr cs → Yld P (Instr.sliceAt t v lov hiv none) m h w (.sl ((cs.drop (a * sz)).take ((b - a) * sz)) (b - a) false) h) := by
  obtain ⟨g1, g2, g3⟩ := run_bounds (P := P) false n n (Nat.le_refl _) hl hh hb ha
  have hrun : ∀ bb o, (Instr.sliceAt t (.pointer (some ⟨bb, o, none⟩)) lov hiv none).run P w = .ok (.slice (some (if n = a then ⟨bb, o, none⟩ else ⟨bb, o + a * sz, none⟩)) (b - a) (n - a)) w := by
    intro bb o
    unfold Instr.sliceAt
    simp only [Sem.run_bind, run_under hu w, Result.andThen_ok, Instr.sureAddr, Sem.run_pure, g1, run_sizeOf hz w, addr_add]
  constructor
  · intro r off cs e1 hr
    subst e1
    simp only [Rep] at hv
    obtain ⟨_, blk, h1, h2⟩ := hv
    have hmk : ∀ p : Nat × Nat → Prop, p (m r) → RefV m r p blk := by
      rcases hr with hr | hr <;> (rw [h1] at hr; injection hr with hr; subst hr; exact fun p hp => hp)
    have hvv : isPtr off v (m r) := by
      rcases hr with hr | hr <;> (rw [h1] at hr; injection hr with hr; subst hr; exact h2)
    unfold isPtr at hvv
    subst hvv
    refine Yld.pure hs (hrun _ _) ?_
    split
    · rename_i han
      rw [if_neg (by omega)]
      simp only [Rep]
      exact ⟨⟨m r, n - a, by omega, rfl⟩, blk, h1, hmk _ ⟨n - a, by omega, rfl⟩⟩
    · have e0 : b - a = 0 := by omega
      rw [e0]
      simp only [Rep]
      split
      · exact ⟨_, _, rfl, by omega, by simp, .inl (by first | rfl | trivial), by simp [RepAt]⟩
      · exact ⟨⟨(m r).1, off + a * sz, none⟩, n - a, rfl, by omega, by simp, .inl (by first | rfl | trivial), by simp [RepAt]⟩
  · intro cs e1
    subst e1
    simp only [Rep] at hv
    obtain ⟨ad, h1, h2, h3⟩ := hv
    obtain ⟨bb, o, spot⟩ := ad
    simp only at h2 h3
    subst h2; subst h1
    refine Yld.pure hs (hrun _ _) ?_
    simp only [Rep]
    by_cases hca : n = a
    · rw [if_pos hca]
      have e0 : b - a = 0 := by omega
      refine ⟨⟨bb, o, none⟩, n - a, rfl, by omega, by simp, .inr rfl, ?_⟩
      rw [e0]; simp [RepAt]
    · rw [if_neg hca]
      refine ⟨⟨bb, o + a * sz, none⟩, n - a, rfl, by omega, by simp, .inr rfl, ?_⟩
      exact (h3.drop _).take _

/-- A piece of a text. -/
theorem y_sstr (hs : HSim m h w) {t : TypeId} (hu : P.underlying t = some .string) {s : ByteArray} {v : Value} (hv : Rep m h w (.str s) v) {lo hi : Option D} {lov hiv : Option Value} (hl : BndV m h w lo lov) (hh : BndV m h w hi hiv)
    {a b : Nat} (hb : bnd hi s.size s.size = some b) (ha : bnd lo 0 b = some a) : Yld P (Instr.sliceAt t v lov hiv none) m h w (.str (s.extract a b)) h := by
  obtain ⟨g1, g2, g3⟩ := run_bounds (P := P) false s.size s.size (Nat.le_refl _) hl hh hb ha
  simp only [Rep] at hv
  subst hv
  refine Yld.pure (v := .string (s.extract a b)) hs ?_ (by simp [Rep])
  unfold Instr.sliceAt
  simp only [Sem.run_bind, run_under hu w, Result.andThen_ok]
  unfold Instr.slice
  simp only [Sem.run_bind, run_under hu w, Result.andThen_ok, Option.isSome_none, Bool.false_eq_true, if_false, Sem.run_pure, g1]

/-- 'x[:0:0]'. -/
theorem y_slc0 (hs : HSim m h w) {t e : TypeId} {sz : Nat} (hu : P.underlying t = some (.slice e)) (hz : szOf P e = some sz) {x d : D} {v : Value} (hv : Rep m h w x v) {k1 k2 : IntKind} :
    (x = .nils → Yld P (Instr.sliceAt t v none (some (.int k1 0)) (some (.int k2 0))) m h w .nils h) ∧ (∀ n, slLen h x = some n → x ≠ .nils → Yld P (Instr.sliceAt t v none (some (.int k1 0)) (some (.int k2 0))) m h w (.sl [] 0 true) h) := by
  have hrun : ∀ base n cap, (Instr.sliceAt t (.slice base n cap) none (some (.int k1 0)) (some (.int k2 0))).run P w = .ok (.slice base 0 0) w := by
    intro base n cap
    unfold Instr.sliceAt
    simp only [Sem.run_bind, run_under hu w, Result.andThen_ok]
    unfold Instr.slice
    simp [run_under hu w, Instr.sliceBounds, Instr.sliceBound, asIntOf, run_sizeOf hz w]
  constructor
  · intro e1
    subst e1
    simp only [Rep] at hv
    subst hv
    exact Yld.pure hs (hrun _ _ _) (by simp [Rep])
  · intro n hn hne
    have hb : ∃ a cap, v = .slice (some a) n cap ∧ 0 = 0 := by
      unfold slLen at hn
      split at hn
      · exact absurd rfl hne
      · injection hn with hn; subst hn
        simp only [Rep] at hv
        obtain ⟨a, cap, h1, _, _, h2, _⟩ := hv
        exact ⟨a, cap, h1, rfl⟩
      · simp only [Rep] at hv
        obtain ⟨_, blk, h1, h2⟩ := hv
        rw [h1] at hn
        split at hn
        · rename_i e'; injection e' with e'; subst e'
          split at hn
          · rename_i hq; injection hn with hn; subst hn; exact ⟨_, _, h2.2 hq, rfl⟩
          · cases hn
        · rename_i e'; injection e' with e'; subst e'
          split at hn
          · rename_i hq; injection hn with hn; subst hn; exact ⟨_, _, h2.2 hq, rfl⟩
          · cases hn
        · cases hn
      · simp only [Rep] at hv
        obtain ⟨_, blk, h1, h2⟩ := hv
        rw [h1] at hn
        split at hn
        · rename_i e'; injection e' with e'; subst e'
          split at hn
          · rename_i hq; injection hn with hn; subst hn; obtain ⟨cap, _, h4⟩ := h2.2 hq; exact ⟨_, _, h4, rfl⟩
          · cases hn
        · rename_i e'; injection e' with e'; subst e'
          split at hn
          · rename_i hq; injection hn with hn; subst hn; obtain ⟨cap, _, h4⟩ := h2.2 hq; exact ⟨_, _, h4, rfl⟩
          · cases hn
        · cases hn
      · simp only [Rep] at hv
        obtain ⟨_, blk, h1, h2⟩ := hv
        rw [h1] at hn
        split at hn
        · rename_i e'; injection e' with e'; subst e'
          injection hn with hn; subst hn; obtain ⟨cap, _, h4⟩ := h2; exact ⟨_, _, h4, rfl⟩
        · rename_i e'; injection e' with e'; subst e'
          injection hn with hn; subst hn; obtain ⟨cap, _, h4⟩ := h2; exact ⟨_, _, h4, rfl⟩
        · cases hn
      · cases hn
    obtain ⟨a, cap, rfl, hsp⟩ := hb
    refine Yld.pure hs (hrun _ _ _) ?_
    simp only [Rep]
    exact ⟨a, 0, rfl, Nat.le_refl _, fun _ => rfl, .inl (by first | rfl | trivial), by simp [RepAt]⟩

end
end Go.YtodlpcoffmnmbaaDoor
