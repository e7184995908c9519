/-
  Own work. The value machine, part J: memory made and written.
-/
import Derived.Test.YtodlpcoffmnmbaaDoorVi
import Derived.Deep.AppendSrc
import Derived.Laws.AppendOwn
namespace Go.YtodlpcoffmnmbaaDoor
open Go
set_option linter.unusedVariables false
set_option linter.unusedSimpArgs false

section
variable {P : Program} {m : Mu} {h : Heap} {w : World}

theorem repL_one {ds : List D} (h1 : ds.all D.one = true) : ∀ {vs : List Value}, RepL m h w ds vs → ∀ v ∈ vs, v.oneCell' = true := by
  induction ds with
  | nil => intro vs hr v hv; simp only [RepL] at hr; subst hr; simp at hv
  | cons d ds ih =>
    intro vs hr v hv
    simp only [List.all_cons, Bool.and_eq_true] at h1
    simp only [RepL] at hr
    obtain ⟨u, us, rfl, g1, g2⟩ := hr
    rcases List.mem_cons.1 hv with rfl | hv
    · have hd := h1.1
      cases d <;> simp [D.one] at hd <;> simp only [Rep] at g1
      case bool => subst g1; rfl
      case int => subst g1; rfl
      case str => subst g1; rfl
      case nilp => subst g1; rfl
      case fptr => obtain ⟨a, rfl, _⟩ := g1; rfl
      case ref => obtain ⟨⟨x, rfl⟩, _⟩ := g1; rfl
      case nils => subst g1; rfl
      case sl => obtain ⟨a, c, rfl, _⟩ := g1; rfl
      case own => obtain ⟨⟨x, rfl⟩, _⟩ := g1; rfl
      case eref => obtain ⟨⟨x, rfl⟩, _⟩ := g1; rfl
      case osl => obtain ⟨⟨x, _, _, rfl⟩, _⟩ := g1; rfl
      case bsl => obtain ⟨⟨x, _, _, rfl⟩, _⟩ := g1; rfl
      case fn => obtain ⟨a, c, rfl, _⟩ := g1; rfl
      case nilf => subst g1; rfl
      case iface => obtain ⟨a, rfl, _⟩ := g1; rfl
      case nili => subst g1; rfl
      case yv => obtain ⟨⟨x, rfl⟩, _⟩ := g1; rfl
      case mref => obtain ⟨⟨x, rfl⟩, _⟩ := g1; rfl
      case nilm => subst g1; rfl
    · exact ih h1.2 g2 v hv
theorem cells_of_one {v : Value} (hv : v.oneCell' = true) : v.cells = #[v] := by
  cases v <;> first | rfl | simp [Value.oneCell'] at hv

theorem rep_vcells {d : D} {v : Value} (hr : Rep m h w d v) (hl : laid d = true) : RepL m h w (vcells d) v.cells.toList ∧ ∀ u ∈ v.cells.toList, u.oneCell' = true := by
  by_cases ha : ∃ cs, d = .agg cs
  · obtain ⟨cs, rfl⟩ := ha
    simp only [Rep] at hr
    obtain ⟨vs, rfl, hr⟩ := hr
    simp only [laid] at hl
    simp only [vcells, Value.cells]
    exact ⟨hr, repL_one hl hr⟩
  · have h1 : d.one = true := by
      unfold laid at hl
      split at hl
      · exact absurd ⟨_, rfl⟩ ha
      · exact hl
    have h2 : vcells d = [d] := by
      unfold vcells
      split
      · exact absurd ⟨_, rfl⟩ ha
      · rfl
    have h3 : RepL m h w [d] [v] := by simp only [RepL]; exact ⟨v, [], rfl, hr, rfl⟩
    have h4 := repL_one (ds := [d]) (by simp [h1]) h3 v (by simp)
    rw [h2, cells_of_one h4]
    exact ⟨h3, fun u hu => by simp at hu; subst hu; exact h4⟩

/-- A new block. -/
theorem new_block (hs : HSim m h w) {w' : World} (b : Blk) (arr : Array Value) (e : TypeId) (fz : Nat × Nat) (cap : Nat) (hh : w'.heap = w.heap.push (.cells arr e fz)) (h1 : w'.os = w.os) (h2 : w'.tape = w.tape) (h3 : w'.output = w.output)
    (hb : Evo m h w (muSet m h.length (w.heap.size, cap)) (h ++ [b]) w' → BlkOk (muSet m h.length (w.heap.size, cap)) (h ++ [b]) w' h.length b) :
    HSim (muSet m h.length (w.heap.size, cap)) (h ++ [b]) w' ∧ Evo m h w (muSet m h.length (w.heap.size, cap)) (h ++ [b]) w' := by
  have h4 : w.heap.size ≤ w'.heap.size := by rw [hh]; simp
  have h5 : ∀ k, k < w.heap.size → w'.heap[k]? = w.heap[k]? := fun k hk => by
    rw [hh, Array.getElem?_push, if_neg (by omega)]
  have he := evo_new hs b (w.heap.size, cap) (Nat.le_refl _) h1 h2 h3 h4 h5
  exact ⟨hsim_new hs b (w.heap.size, cap) (Nat.le_refl _) h1 h2 h3 h4 h5 (hb he), he⟩

theorem get_new (h : Heap) (b : Blk) : (h ++ [b])[h.length]? = some b := by simp

theorem new_box (hs : HSim m h w) {w' : World} (cs : List D) (vs : List Value) (hr : RepL m h w cs vs) (e : TypeId) (hh : w'.heap = w.heap.push (.cells vs.toArray e)) (h1 : w'.os = w.os) (h2 : w'.tape = w.tape) (h3 : w'.output = w.output) :
    ∃ m', Rep m' (h ++ [.box cs]) w' (.ref h.length 0) (.pointer (some ⟨w.heap.size, 0, none⟩)) ∧ HSim m' (h ++ [.box cs]) w' ∧ Evo m h w m' (h ++ [.box cs]) w' := by
  obtain ⟨g1, g2⟩ := new_block hs (.box cs) vs.toArray e (0, 0) 0 hh h1 h2 h3 fun he => by
    refine ⟨vs.toArray, e, (0, 0), ?_, by simp, by simpa using hr.evo he⟩
    rw [muSet_same, hh]
    simp
  refine ⟨_, ?_, g1, g2⟩
  simp only [Rep]
  exact ⟨⟨(w.heap.size, 0), rfl⟩, _, get_new h _, by simp [RefV, isPtr, muSet_same]⟩

theorem new_grow (hs : HSim m h w) {w' : World} (sz : Nat) (cs : List D) (n cap : Nat) (vs rest : List Value) (arr : Array Value) (ha : arr.toList = vs ++ rest) (hr : RepL m h w cs vs) (hl : cs.length = n * sz) (hn : n ≤ cap) (hsz : arr.size = cap * sz) (e : TypeId) (fz : Nat × Nat)
    (hfz : ∀ i, i < arr.size → ¬ (fz.1 ≤ i ∧ i < fz.2)) (hh : w'.heap = w.heap.push (.cells arr e fz)) (h1 : w'.os = w.os) (h2 : w'.tape = w.tape) (h3 : w'.output = w.output) :
    ∃ m', Rep m' (h ++ [.grow sz cs n]) w' (.own h.length n) (.slice (some ⟨w.heap.size, 0, none⟩) n cap) ∧ HSim m' (h ++ [.grow sz cs n]) w' ∧ Evo m h w m' (h ++ [.grow sz cs n]) w' := by
  obtain ⟨g1, g2⟩ := new_block hs (.grow sz cs n) arr e fz cap hh h1 h2 h3 fun he => by
    refine ⟨arr, e, fz, rest, vs, ?_, hfz, ha, hr.evo he, hl, by rw [muSet_same]; exact hn, by rw [muSet_same]; exact hsz⟩
    rw [muSet_same, hh]
    simp
  refine ⟨_, ?_, g1, g2⟩
  simp only [Rep]
  exact ⟨⟨(w.heap.size, cap), rfl⟩, _, get_new h _, by simp [OwnV, isOwn, muSet_same]⟩

theorem run_zeroValue {t : TypeId} {zs : List D} (hz : zeroOf P t = some zs) : ∃ z : Value, (zeroValue t).run P w = .ok z w ∧ zs = z.cells.toList.map dOfV1 := by
  simp only [zeroOf, Option.bind_eq_some_iff, Option.map_eq_some_iff] at hz
  obtain ⟨i, hi, z, hz, rfl⟩ := hz
  exact ⟨z, by simp [zeroValue, typeInfo, hi, hz], rfl⟩

theorem y_alloc (hs : HSim m h w) {t : TypeId} {zs : List D} (hz : zeroOf P t = some zs) : Yld P (Instr.alloc t true (.tuple #[])) m h w (.ref h.length 0) (h ++ [.box zs]) := by
  obtain ⟨z, h1, rfl⟩ := run_zeroValue (P := P) (w := w) hz
  obtain ⟨m', g1, g2, g3⟩ := new_box (w' := w.alloc (.cells z.cells t)) hs _ z.cells.toList (repL_dOfV1 m h w _) t (by simp [World.alloc, -World.alloc_eq]) rfl rfl rfl
  exact ⟨_, m', _, by simp [Instr.alloc, h1, newVar, newRow], g1, g2, g3⟩

theorem y_box (hs : HSim m h w) {t : TypeId} {x : D} {v : Value} (hx : Rep m h w x v) (hl : laid x = true) : Yld P (Instr.box t v) m h w (.ref h.length 0) (h ++ [.box (vcells x)]) := by
  obtain ⟨g0, _⟩ := rep_vcells hx hl
  obtain ⟨m', g1, g2, g3⟩ := new_box (w' := w.alloc (.cells v.cells t)) hs _ v.cells.toList g0 t (by simp [World.alloc, -World.alloc_eq]) rfl rfl rfl
  exact ⟨_, m', _, by simp [Instr.box, newVar, newRow], g1, g2, g3⟩

/-! ### values that are built -/
theorem foldl_set (vs : List Value) : ∀ (cs : Array Value) (off k : Nat), off + k + vs.length ≤ cs.size →
    ((vs.zipIdx k).foldl (fun cs (p : Value × Nat) => cs.setIfInBounds (off + p.2) p.1) cs).toList = cs.toList.take (off + k) ++ vs ++ cs.toList.drop (off + k + vs.length) := by
  induction vs with
  | nil => intro cs off k _; simp
  | cons v vs ih =>
    intro cs off k hle
    simp only [List.length_cons] at hle
    simp only [List.zipIdx_cons, List.foldl_cons]
    rw [ih _ off (k + 1) (by simp; omega)]
    simp only [Array.toList_setIfInBounds]
    apply List.ext_getElem?
    intro i
    simp only [List.getElem?_append, List.length_append, List.length_take, List.length_set, Array.length_toList, List.getElem?_take, List.getElem?_drop, List.getElem?_set, List.length_cons, List.getElem?_cons]
    grind

/-- The parts of a value that is built: places and what stands there. -/
def PartsV (m : Mu) (h : Heap) (w : World) (place : Nat → Option (Nat × Nat)) : List (Nat × Nat × D) → List (Nat × Value) → Prop
  | [], [] => True
  | (off, size, x) :: ds, (i, v) :: vs => place i = some (off, size) ∧ Rep m h w x v ∧ PartsV m h w place ds vs
  | _, _ => False

theorem fill_D (place : Nat → Option (Nat × Nat)) : ∀ (ds : List (Nat × Nat × D)) (vs : List (Nat × Value)) (cs cs' : List D) (arr : Array Value), PartsV m h w place ds vs → RepL m h w cs arr.toList → fillD cs ds = some cs' →
    ∃ arr', Instr.fill place arr vs = some arr' ∧ RepL m h w cs' arr'.toList
  | [], [], cs, cs', arr, _, hr, hf => by
    simp only [fillD, Option.some.injEq] at hf
    subst hf
    exact ⟨arr, rfl, hr⟩
  | [], _ :: _, _, _, _, hp, _, _ => hp.elim
  | _ :: _, [], _, _, _, hp, _, _ => hp.elim
  | (off, size, x) :: ds, (i, v) :: vs, cs, cs', arr, hp, hr, hf => by
    obtain ⟨h1, h2, h3⟩ := hp
    simp only [fillD] at hf
    split at hf
    · rename_i hc
      obtain ⟨c1, c2, c3⟩ := hc
      obtain ⟨g1, g2⟩ := rep_vcells h2 c1
      have hvs : v.cells.size = size := by rw [← c2, ← g1.length]; simp
      have hcs : arr.size = cs.length := by rw [← hr.length]; simp
      have hs2 : (vcells x).length = v.cells.toList.length := by rw [g1.length]
      simp only [Instr.fill, h1]
      have hn : ¬ (v.cells.size ≠ size || off + v.cells.size > arr.size) = true := by
        simp [hvs]; omega
      rw [if_neg hn]
      rw [splice_eq cs off _ (by omega)] at hf
      have hfold := foldl_set v.cells.toList arr off 0 (by simp; omega)
      refine fill_D place ds vs _ cs' _ h3 ?_ hf
      have := hr.splice g1 off
      rw [← Array.foldl_toList, Array.toList_zipIdx]
      simp only [Nat.add_zero] at hfold
      rw [hfold]
      exact this
    · cases hf

theorem y_build (hs : HSim m h w) {t : TypeId} {zs : List D} (hz : zeroOf P t = some zs) {ds : List (Nat × Nat × D)} {vs : Array (Nat × Value)} {cs : List D} (hf : fillD zs ds = some cs)
    (hp : (∃ fields places, P.underlying t = some (.struct fields) ∧ (fields.mapM fun f => (do pure (f.offset, ← sizeOf f.type) : Sem (Nat × Nat))).run P w = .ok places w ∧ PartsV m h w (fun i => places[i]?) ds vs.toList) ∨
      (∃ n e sz, P.underlying t = some (.array n e) ∧ szOf P e = some sz ∧ PartsV m h w (fun i => some (i * sz, sz)) ds vs.toList)) : Yld P (Instr.build t vs) m h w (.agg cs) h := by
  obtain ⟨z, h1, rfl⟩ := run_zeroValue (P := P) (w := w) hz
  rcases hp with ⟨fields, places, hu, hpl, hp⟩ | ⟨n, e, sz, hu, hsz, hp⟩
  · obtain ⟨arr', g1, g2⟩ := fill_D _ ds vs.toList _ cs z.cells hp (repL_dOfV1 m h w _) hf
    refine Yld.pure (v := .agg arr') hs ?_ (by simp only [Rep]; exact ⟨arr'.toList, by simp, g2⟩)
    unfold Instr.build
    simp only [Sem.run_bind, h1, Result.andThen_ok, run_under hu w, hpl, g1, Sem.run_pure]
  · obtain ⟨arr', g1, g2⟩ := fill_D _ ds vs.toList _ cs z.cells hp (repL_dOfV1 m h w _) hf
    refine Yld.pure (v := .agg arr') hs ?_ (by simp only [Rep]; exact ⟨arr'.toList, by simp, g2⟩)
    unfold Instr.build
    simp only [Sem.run_bind, h1, Result.andThen_ok, run_under hu w, run_sizeOf hsz w, g1, Sem.run_pure]

theorem flat_get {α : Type} (l : List α) : ∀ (n i : Nat), i < n * l.length → (List.replicate n l).flatten[i]? = l[i % l.length]?
  | 0, i, h => by simp at h
  | n + 1, i, h => by
    have h' : i < n * l.length + l.length := by rw [Nat.succ_mul] at h; exact h
    rw [List.replicate_succ, List.flatten_cons]
    by_cases hi : i < l.length
    · rw [List.getElem?_append_left hi, Nat.mod_eq_of_lt hi]
    · rw [List.getElem?_append_right (by omega), flat_get l n (i - l.length) (by omega), Nat.mod_eq_sub_mod (show i ≥ l.length by omega)]

theorem flat_len {α : Type} (l : List α) (n : Nat) : (List.replicate n l).flatten.length = n * l.length := by
  induction n with
  | zero => simp
  | succ n ih => rw [List.replicate_succ, List.flatten_cons, List.length_append, ih, Nat.add_mul]; omega

theorem repL_flat {zs : List D} {vs : List Value} (hr : RepL m h w zs vs) : ∀ n, RepL m h w (List.replicate n zs).flatten (List.replicate n vs).flatten
  | 0 => by simp [RepL]
  | n + 1 => by rw [List.replicate_succ, List.flatten_cons, List.replicate_succ, List.flatten_cons]; exact RepL.append hr (repL_flat hr n)

/-- A row of zeros, as the machine makes it. -/
theorem zero_row (zero : Array Value) (n : Nat) : ((Array.range (n * zero.size)).map (fun i => zero[i % zero.size]!)).toList = (List.replicate n zero.toList).flatten := by
  apply List.ext_getElem?
  intro i
  by_cases hi : i < n * zero.size
  · rw [flat_get _ _ _ (by simpa using hi)]
    have h0 : 0 < zero.size := by
      rcases Nat.eq_zero_or_pos zero.size with e | e
      · rw [e] at hi; simp at hi
      · exact e
    have hm : i % zero.size < zero.size := Nat.mod_lt _ h0
    simp [hi, hm]
  · rw [List.getElem?_eq_none (by simpa using hi), List.getElem?_eq_none (by rw [flat_len]; simpa using hi)]

theorem y_bslice (hs : HSim m h w) {t e : TypeId} {sz : Nat} (hu : P.underlying t = some (.slice e)) (hz : szOf P e = some sz) {zs : List D} (hzs : zeroOf P e = some zs) (hzl : zs.length = sz) {len : Nat} (hle : len * sz ≤ 16777216) {ds : List (Nat × Nat × D)} {vs : Array (Nat × Value)} {cs : List D}
    (hf : fillD (List.replicate len zs).flatten ds = some cs) (hcl : cs.length = len * sz) (hp : PartsV m h w (fun i => some (i * sz, sz)) ds vs.toList) :
    Yld P (Instr.buildSlice t len vs) m h w (.own h.length len) (h ++ [.grow sz cs len]) := by
  obtain ⟨z, h1, hzz⟩ := run_zeroValue (P := P) (w := w) hzs
  have hsz : z.cells.size = sz := by rw [← hzl, hzz]; simp
  have main : ∀ zero : Array Value, (zero = z.cells ∨ len * sz = 0) → ∃ arr', Instr.fill (fun i => some (i * sz, sz)) ((Array.range (len * sz)).map (fun x => zero[x % zero.size]!)) vs.toList = some arr' ∧ RepL m h w cs arr'.toList := by
    intro zero hzero
    refine fill_D _ ds vs.toList _ cs _ hp ?_ hf
    by_cases h0 : len * sz = 0
    · rw [h0]
      have e1 : (List.replicate len zs).flatten = [] := List.length_eq_zero_iff.1 (by rw [flat_len, hzl]; exact h0)
      rw [e1]
      simp [RepL]
    · rcases hzero with rfl | hzero
      · have := zero_row z.cells len
        rw [hsz] at this
        rw [hsz, this, hzz]
        exact repL_flat (repL_dOfV1 m h w _) len
      · exact absurd hzero h0
  have go : ∀ (arr' : Array Value), RepL m h w cs arr'.toList → ∃ m', Rep m' (h ++ [.grow sz cs len]) (w.alloc (.cells arr' e)) (.own h.length len) (.slice (some ⟨w.heap.size, 0, none⟩) len len) ∧ HSim m' (h ++ [.grow sz cs len]) (w.alloc (.cells arr' e)) ∧
      Evo m h w m' (h ++ [.grow sz cs len]) (w.alloc (.cells arr' e)) := by
    intro arr' hr
    exact new_grow (w' := w.alloc (.cells arr' e)) hs sz cs len len arr'.toList [] arr' (by simp) hr hcl (Nat.le_refl _) (by rw [← hcl, ← hr.length]; simp) e (0, 0) (by simp) (by simp [World.alloc, -World.alloc_eq]) rfl rfl rfl
  have hle' : ¬ 16777216 < len * sz := by omega
  by_cases h0 : len * sz = 0
  · obtain ⟨arr', g1, g2⟩ := main #[] (.inr h0)
    obtain ⟨m', q⟩ := go arr' g2
    refine ⟨_, m', _, ?_, q⟩
    unfold Instr.buildSlice
    simp only [Sem.run_bind, run_under hu w, Result.andThen_ok, run_sizeOf hz w, Sem.run_ite, Nat.reducePow, gt_iff_lt, hle', h0, if_true, if_false, Sem.run_pure, newRow, run_newObj]
    rw [h0] at g1
    simp only [g1, Sem.run_pure, Sem.run_bind, run_newObj, Result.andThen_ok, newRow]
    rfl
  · obtain ⟨arr', g1, g2⟩ := main z.cells (.inl rfl)
    obtain ⟨m', q⟩ := go arr' g2
    refine ⟨_, m', _, ?_, q⟩
    unfold Instr.buildSlice
    simp only [Sem.run_bind, run_under hu w, Result.andThen_ok, run_sizeOf hz w, Sem.run_ite, Nat.reducePow, gt_iff_lt, hle', h0, if_true, if_false, Sem.run_pure, h1, g1, newRow, run_newObj]
    rfl

theorem wrap_i64 (n : Int) (h0 : 0 ≤ n) (h1 : n < 9223372036854775808) : IntKind.i64.wrap n = n := by
  simp [IntKind.wrap, IntKind.bits, IntKind.signed]
  omega

theorem y_mks (hs : HSim m h w) {t e : TypeId} {sz by_ : Nat} (hu : P.underlying t = some (.slice e)) (hz : szOf P e = some sz) (hby : byOf P e = some by_) {zs : List D} (hzs : zeroOf P e = some zs) (hzl : zs.length = sz) {i j : Int} {vl vc : Value} (hl : Rep m h w (.int .i64 i) vl) (hc : Rep m h w (.int .i64 j) vc)
    (h0 : 0 ≤ i) (hij : i ≤ j) (hj : j ≤ 1073741824) (hb : by_ ≤ 65536) : Yld P (Instr.makeSlice t vl vc) m h w (.own h.length i.toNat) (h ++ [.grow sz (List.replicate i.toNat zs).flatten i.toNat]) := by
  simp only [Rep] at hl hc
  subst hl; subst hc
  obtain ⟨z, h1, hzz⟩ := run_zeroValue (P := P) (w := w) hzs
  have hsz : z.cells.size = sz := by rw [← hzl, hzz]; simp
  obtain ⟨inf, hinf, hinfb⟩ : ∃ inf, P.info? e = some inf ∧ inf.bytes = by_ := by
    simp only [byOf, Option.map_eq_some_iff] at hby; exact hby
  have wl := wrap_i64 i h0 (by omega)
  have wc := wrap_i64 j (by omega) (by omega)
  have hmul : (by_ : Int) * j ≤ 65536 * 1073741824 := Int.mul_le_mul (by omega) hj (by omega) (by omega)
  have hto : ¬ ((decide (j < 0) || decide ((by_ : Int) * j > 2 ^ 48)) = true ∨ i < 0 ∨ i > j) := by
    simp only [Bool.or_eq_true, decide_eq_true_eq]
    omega
  let arr : Array Value := (Array.range (j.toNat * sz)).map (fun x => (if j.toNat * sz = 0 then #[] else z.cells)[x % (if j.toNat * sz = 0 then #[] else z.cells : Array Value).size]!)
  have harr : arr.toList = (List.replicate j.toNat z.cells.toList).flatten := by
    show ((Array.range (j.toNat * sz)).map _).toList = _
    by_cases hj0 : j.toNat * sz = 0
    · rw [hj0]
      have : (List.replicate j.toNat z.cells.toList).flatten = [] := List.length_eq_zero_iff.1 (by rw [flat_len]; simpa [hsz] using hj0)
      rw [this]; simp
    · simp only [if_neg hj0]
      have := zero_row z.cells j.toNat
      rw [hsz] at this
      rw [hsz]; exact this
  have hsplit : arr.toList = (List.replicate i.toNat z.cells.toList).flatten ++ (List.replicate (j.toNat - i.toNat) z.cells.toList).flatten := by
    rw [harr, ← List.flatten_append, List.replicate_append_replicate]
    congr 2; omega
  obtain ⟨m', g1, g2, g3⟩ := new_grow (w' := w.alloc (.cells arr e)) hs sz (List.replicate i.toNat zs).flatten i.toNat j.toNat _ _ arr hsplit (by rw [hzz]; exact repL_flat (repL_dOfV1 m h w _) _) (by rw [flat_len, hzl]) (by omega)
    (by show ((Array.range (j.toNat * sz)).map _).size = _; simp) e (0, 0) (by simp) (by simp [World.alloc, -World.alloc_eq]) rfl rfl rfl
  refine ⟨_, m', _, ?_, g1, g2, g3⟩
  unfold Instr.makeSlice
  have tinf : (typeInfo e).run P w = .ok inf w := by simp [typeInfo, hinf]
  simp only [Sem.run_bind, run_under hu w, Result.andThen_ok, asInt, asIntOf, Sem.run_pure, tinf, hinfb, wl, wc]
  have hbool : (((decide (j < 0) || decide ((by_ : Int) * j > 2 ^ 48)) || decide (i < 0)) || decide (i > j)) = false := by
    simp only [Bool.or_eq_false_iff, decide_eq_false_iff_not]
    refine ⟨⟨⟨by omega, by omega⟩, by omega⟩, by omega⟩
  rw [hbool]
  simp only [Bool.false_eq_true, if_false, Sem.run_bind, run_askRoom, Result.andThen_ok, run_sizeOf hz w]
  by_cases hj0 : j.toNat * sz = 0
  · simp [hj0, arr, newRow]
  · simp [hj0, h1, arr, newRow]

theorem y_s2b (hs : HSim m h w) {src dst e : TypeId} (hu : P.underlying src = some .string) (hd : P.underlying dst = some (.slice e)) (he : P.underlying e = some (.int .u8)) {s : ByteArray} {v : Value} (hv : Rep m h w (.str s) v) :
    Yld P (convert src dst v) m h w (.own h.length s.size) (h ++ [.grow 1 (ofBytes s.data.toList) s.size]) := by
  simp only [Rep] at hv
  subst hv
  have hrun := Lib.run_convert_string_bytes (P := P) w src dst e s hu hd he
  have hcap : s.size ≤ grownCap w s.size 0 e := by simp [grownCap, Question.cut]
  have hrep : ∀ l : List UInt8, RepL m h w (ofBytes l) (l.map fun b => Value.int .u8 b.toNat) := by
    intro l
    induction l with
    | nil => simp [ofBytes, RepL]
    | cons b l ih => simp only [ofBytes, List.map_cons, RepL]; exact ⟨_, _, rfl, by simp [Rep], ih⟩
  obtain ⟨m', g1, g2, g3⟩ := new_grow (w' := Lib.bytesWorld w e s) hs 1 (ofBytes s.data.toList) s.size (grownCap w s.size 0 e) (s.data.toList.map fun b => Value.int .u8 b.toNat) (List.replicate (grownCap w s.size 0 e - s.size) (.int .u8 0)) (Lib.bytesCells w e s)
    (by simp [Lib.bytesCells]) (hrep _) (by simp [ofBytes]) hcap (by simp [Lib.bytesCells]; omega) e ((Lib.bytesCells w e s).size, (Lib.bytesCells w e s).size + 1) (by intro i hi; omega)
    (by
      apply Array.ext_getElem?
      intro i
      by_cases hi : i < w.heap.size
      · rw [Lib.bytesWorld_at_old w e s i hi, Array.getElem?_push, if_neg (by omega)]
      · by_cases hi2 : i = w.heap.size
        · subst hi2; rw [Lib.bytesWorld_at_new]; simp
        · rw [Array.getElem?_eq_none (by rw [Lib.bytesWorld_size]; omega), Array.getElem?_eq_none (by simp; omega)])
    (by simp [Lib.bytesWorld, World.freeze]; rfl) (by simp [Lib.bytesWorld, World.freeze]) (by simp [Lib.bytesWorld, World.freeze]; rfl)
  exact ⟨_, m', _, hrun, g1, g2, g3⟩

end
end Go.YtodlpcoffmnmbaaDoor
