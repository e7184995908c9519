import Derived.Test.YtodlpcoffmnmbaaVz
/-
  Own work. Calls that leave the blocks as they were.
-/
namespace Go.Proofs
open Go Go.Ytodlpcoffmnmbaa
set_option linter.unusedVariables false
set_option linter.unusedSimpArgs false
set_option maxRecDepth 10000

/-- Nothing but what was there. -/
theorem xfc_same {P : Program} {i : FuncId} {args : List D} {h : Heap} {d : D} {rest : List AStm} {t : List D} {dst : Option Nat} {S : List Fr} {Q : Exit → St → Prop} (hc : FC P i args h fun d' h' => d' = d ∧ h' = h)
    (hk : gs P rest S Q ⟨setD t dst d, h⟩) : xfc P i args h rest t dst S Q := by
  refine xfc_of hc ?_
  rintro d' h' ⟨rfl, rfl⟩
  exact ⟨⟨[], (List.append_nil _).symm⟩, hk⟩
theorem gfc_same {P : Program} {i : FuncId} {args : List D} {h : Heap} {d : D} {rest : List AStm} {t : List D} {dst : Option Nat} {S : List Fr} {Q : Exit → St → Prop} (hc : FC P i args h fun d' h' => d' = d ∧ h' = h)
    (hk : gs P rest S Q ⟨setD t dst d, h⟩) : gfc P i args h rest t dst S Q := by
  refine gfc_of hc ?_
  rintro d' h' ⟨rfl, rfl⟩
  exact hk
theorem bool_same (b : Bool) : (b == b) = true := by simp
end Go.Proofs

/-
  Own work. What stands in memory leads to blocks that are there; a function that writes one block, and drops its own.
-/
namespace Go.Proofs
open Go Go.Ytodlpcoffmnmbaa
set_option linter.unusedVariables false
set_option linter.unusedSimpArgs false
set_option maxRecDepth 10000

theorem lt_of_some {ah : Heap} {r : Nat} {b : Blk} (h : ah[r]? = some b) : decide (r < ah.length) = true := decide_eq_true (List.getElem?_eq_some_iff.1 h).1
 mutual
theorem rep_under {m : Mu} {ah : Heap} {w : World} : ∀ {d : D} {v : Value}, Rep m ah w d v → underD ah.length d = true
  | .any, _, _ => rfl
  | .bool _, _, _ => rfl
  | .int _ _, _, _ => rfl
  | .str _, _, _ => rfl
  | .nilp, _, _ => rfl
  | .nils, _, _ => rfl
  | .nilf, _, _ => rfl
  | .nili, _, _ => rfl
  | .nilm, _, _ => rfl
  | .fptr cs, v, h => by
    simp only [Rep] at h; obtain ⟨a, _, _, h⟩ := h
    simp only [underD]; exact repAt_under h
  | .sl cs n full, v, h => by
    simp only [Rep] at h; obtain ⟨a, cap, _, _, _, _, h⟩ := h
    simp only [underD]; exact repAt_under h
  | .ref r off, v, h => by simp only [Rep] at h; obtain ⟨_, blk, h, _⟩ := h; simp only [underD]; exact lt_of_some h
  | .own r n, v, h => by simp only [Rep] at h; obtain ⟨_, blk, h, _⟩ := h; simp only [underD]; exact lt_of_some h
  | .eref r n off, v, h => by simp only [Rep] at h; obtain ⟨_, blk, h, _⟩ := h; simp only [underD]; exact lt_of_some h
  | .osl r n off k, v, h => by simp only [Rep] at h; obtain ⟨_, blk, h, _⟩ := h; simp only [underD]; exact lt_of_some h
  | .bsl r off k, v, h => by simp only [Rep] at h; obtain ⟨_, blk, h, _⟩ := h; simp only [underD]; exact lt_of_some h
  | .yv r, v, h => by simp only [Rep] at h; obtain ⟨_, blk, h, _⟩ := h; simp only [underD]; exact lt_of_some h
  | .mref r, v, h => by simp only [Rep] at h; obtain ⟨_, blk, h, _⟩ := h; simp only [underD]; exact lt_of_some h
  | .agg cs, v, h => by simp only [Rep] at h; obtain ⟨vs, _, h⟩ := h; simp only [underD]; exact repL_under h
  | .tup cs, v, h => by simp only [Rep] at h; obtain ⟨vs, _, h⟩ := h; simp only [underD]; exact repL_under h
  | .fn f a b, v, h => by
    simp only [Rep] at h; obtain ⟨vs, us, _, h1, h2⟩ := h
    simp only [underD, Bool.and_eq_true]; exact ⟨repL_under h1, repL_under h2⟩
  | .iface t d, v, h => by simp only [Rep] at h; obtain ⟨u, _, h⟩ := h; simp only [underD]; exact rep_under h
theorem repAt_under {m : Mu} {ah : Heap} {w : World} : ∀ {ds : List D} {b off : Nat}, RepAt m ah w ds b off → underL ah.length ds = true
  | [], _, _, _ => rfl
  | d :: ds, b, off, h => by
    simp only [RepAt] at h; obtain ⟨_, ⟨u, _, h1⟩, h2⟩ := h
    simp only [underL, Bool.and_eq_true]; exact ⟨rep_under h1, repAt_under h2⟩
theorem repL_under {m : Mu} {ah : Heap} {w : World} : ∀ {ds : List D} {vs : List Value}, RepL m ah w ds vs → underL ah.length ds = true
  | [], _, _ => rfl
  | d :: ds, vs, h => by
    simp only [RepL] at h; obtain ⟨u, us, _, h1, h2⟩ := h
    simp only [underL, Bool.and_eq_true]; exact ⟨rep_under h1, repL_under h2⟩
 end
theorem blkOk_under {m : Mu} {ah : Heap} {w : World} {r : Nat} : ∀ {b : Blk}, BlkOk m ah w r b → underB ah.length b = true
  | .free, _ | .dead, _ => rfl
  | .box cs, h => by simp only [BlkOk] at h; obtain ⟨_, _, _, _, _, h⟩ := h; simp only [underB]; exact repL_under h
  | .grow sz cs n, h => by simp only [BlkOk] at h; obtain ⟨_, _, _, _, _, _, _, _, h, _⟩ := h; simp only [underB]; exact repL_under h
  | .ice sz cs n, h => by simp only [BlkOk] at h; simp only [underB]; exact repAt_under h.1
  | .icebox cs, h => by simp only [BlkOk] at h; simp only [underB]; exact repAt_under h
  | .recb _ _ _ _ _ _, h => by simp only [BlkOk] at h; obtain ⟨_, _, _, _, h⟩ := h; simp only [underB]; exact repL_under h
  | .mapb es, h => by
    simp only [BlkOk] at h; obtain ⟨_, _, _, h1, h2⟩ := h
    simp only [underB, Bool.and_eq_true]; exact ⟨repL_under h1, repL_under h2⟩
theorem hsim_under {m : Mu} {ah : Heap} {w : World} (hs : HSim m ah w) : ∀ b ∈ ah, underB ah.length b = true := by
  intro b hb
  obtain ⟨r, hr⟩ := List.mem_iff_getElem?.1 hb
  exact blkOk_under (hs.blk r b hr)

/-- Nothing new is handed back; what was written leads to nothing new. -/
theorem FinOk.wrote {h0 h' loc : Heap} {ds : List D} {R : D → Heap → Prop} (hl : h'.length = h0.length) (hk : ∀ b ∈ h', b ∈ h0 ∨ underB h'.length b = true) (hu : underL h'.length ds = true) (h : R (packD ds) h') : FinOk h0 (h' ++ loc) ds R := by
  intro m0 m w0 w vs h1
  refine FinOk.drop (.inr ⟨hl, fun b hb => ?_⟩) hu h m0 m w0 w vs h1
  rcases hk b hb with h2 | h2
  · rw [hl]; exact hsim_under h1 b h2
  · exact h2
theorem FinOk.set {h0 loc : Heap} {r : Nat} {b : Blk} {ds : List D} {R : D → Heap → Prop} (hb : underB h0.length b = true) (hu : underL h0.length ds = true) (h : R (packD ds) (h0.set r b)) : FinOk h0 (h0.set r b ++ loc) ds R := by
  refine FinOk.wrote List.length_set (fun x hx => ?_) (by rw [List.length_set]; exact hu) h
  rcases List.mem_or_eq_of_mem_set hx with hx | rfl
  · exact .inl hx
  · exact .inr (by rw [List.length_set]; exact hb)
end Go.Proofs

/-
  Own work. A walk cut in two: what holds after the first part, and the second part from there.
-/
namespace Go.Proofs
open Go Go.Ytodlpcoffmnmbaa
set_option linter.unusedVariables false
set_option linter.unusedSimpArgs false

theorem guardK_mono {t : List D} {g : Option (Nat × Bool)} {y n y' n' : Prop} (hy : y → y') (hn : n → n') (h : guardK t g y n) : guardK t g y' n' := guardK_congr (fun _ _ _ => rfl) hy hn h
theorem callK_mono {P : Program} {f : D} {args : List D} {h : Heap} {R R' : D → Heap → Prop} (hr : ∀ d h', R d h' → R' d h') (hc : CallK P f args h R) : CallK P f args h R' := by
  unfold CallK at hc ⊢
  split at hc
  · exact hc.mono hr
  · exact YC.mono hc hr
  · cases hc
theorem aregs_mono {P : Program} {K K' : St → Prop} (hk : ∀ st, K st → K' st) : ∀ {ss : List AStm} {st : St}, aregs P ss st K → aregs P ss st K'
  | [], st, h => hk _ h
  | .op dst g o :: rest, st, h => by
    simp only [aregs] at h ⊢
    exact guardK_mono (fun h => holds_mono (fun p hp => aregs_mono hk hp) h) (fun h => aregs_mono hk h) h
  | .call dst g f args :: rest, st, h => by
    simp only [aregs] at h ⊢
    exact guardK_mono (fun h => callK_mono (fun _ _ hp => aregs_mono hk hp) h) (fun h => aregs_mono hk h) h
  | .callG dst g f args :: rest, st, h => by
    simp only [aregs] at h ⊢
    exact guardK_mono (fun h => callK_mono (fun _ _ hp => ⟨hp.1, aregs_mono hk hp.2⟩) h) (fun h => aregs_mono hk h) h
  | .callL .. :: _, _, h => by simp only [aregs] at h
  | .callW .. :: _, _, h => by simp only [aregs] at h
  | .chk .. :: _, _, h => by simp only [aregs] at h
theorem aheads_mono {P : Program} {K K' : St → Prop} (hk : ∀ st, K st → K' st) : ∀ {ss : List AStm} {st : St}, aheads P ss st K → aheads P ss st K'
  | [], st, h => hk _ h
  | .op dst g o :: rest, st, h => by
    simp only [aheads] at h ⊢
    exact guardK_mono (fun h => holds_mono (fun p hp => aheads_mono hk hp) h) (fun h => aheads_mono hk h) h
  | .call dst g f args :: rest, st, h => by
    simp only [aheads] at h ⊢
    exact guardK_mono (fun ⟨d, h1, h2⟩ => ⟨d, h1, aheads_mono hk h2⟩) (fun h => aheads_mono hk h) h
  | .callL dst g f args :: rest, st, h => by
    simp only [aheads] at h ⊢
    exact guardK_mono (fun ⟨d, h1, h2⟩ => ⟨d, h1, aheads_mono hk h2⟩) (fun h => aheads_mono hk h) h
  | .callW dst f args :: rest, st, h => by
    simp only [aheads] at h ⊢
    obtain ⟨d, h2, h3, h4, h5⟩ := h
    exact ⟨d, h2, h3, h4, aheads_mono hk h5⟩
  | .callG .. :: _, _, h => by simp only [aheads] at h
  | .chk dst g o :: rest, st, h => by
    simp only [aheads] at h ⊢
    exact ⟨h.1, aheads_mono hk h.2⟩
theorem rangeQ_mono {r : Nat} {T : List D} {ps : List Nat} {xs bd : Code} {Q Q' : Exit → St → Prop} (hq : ∀ e st, Q e st → Q' e st) {h : Heap} (hr : rangeQ r T ps xs bd Q h) : rangeQ r T ps xs bd Q' h := by
  obtain ⟨s, pe, h1, h2, h3⟩ := hr
  refine ⟨s, pe, h1, h2, ?_⟩
  split at h3
  · exact hq _ _ h3
  · exact hq _ _ h3
  · exact hq _ _ h3
  · cases h3
theorem rangeK_mono {P : Program} {f : D} {r : Nat} {h : Heap} {R R' : D → Heap → Prop} (hr : ∀ d h', R d h' → R' d h') (hc : RangeK P f r h R) : RangeK P f r h R' := by
  unfold RangeK at hc ⊢
  split at hc
  · exact hc.mono hr
  · cases hc
theorem W_mono {P : Program} : ∀ {c : AC} {Q Q' : Exit → St → Prop} {st : St}, (∀ e st, Q e st → Q' e st) → W P c Q st → W P c Q' st
  | .skip, _, _, _, hq, h => hq _ _ h
  | .reg _, _, _, _, hq, h => aregs_mono (fun _ h => hq _ _ h) h
  | .dreg _ _, _, _, _, hq, h => ⟨h.1, aheads_mono (fun _ h => aregs_mono (fun _ h => hq _ _ h) h) h.2⟩
  | .seq x y, Q, Q', _, hq, h => by
    simp only [W] at h ⊢
    refine W_mono ?_ h
    intro e st he
    cases e with
    | normal => exact W_mono hq he
    | _ => exact hq _ _ he
  | .cond c x y, Q, Q', st, hq, h => by
    simp only [W] at h ⊢
    cases hd : ev st.t c with
    | bool b =>
      rw [hd] at h
      cases b with
      | true => exact W_mono hq h
      | false => exact W_mono hq h
    | _ => rw [hd] at h; cases h
  | .block _ x, Q, Q', _, hq, h => by
    simp only [W] at h ⊢
    refine W_mono ?_ h
    intro e st he
    cases e with
    | exit id' =>
      simp only [blockQ] at he ⊢
      split
      · rename_i hi; rw [if_pos hi] at he; exact hq _ _ he
      · rename_i hi; rw [if_neg hi] at he; exact hq _ _ he
    | _ => exact hq _ _ he
  | .loop _, _, _, _, hq, h => by simp only [W] at h ⊢; exact h.mono hq
  | .scope x, Q, Q', _, hq, h => by
    simp only [W] at h ⊢
    refine W_mono ?_ h
    intro e st he
    cases e with
    | goto l => exact he
    | _ => exact hq _ _ he
  | .exit _, _, _, _, hq, h => hq _ _ h
  | .bad, _, _, _, _, h => h
  | .ret, _, _, _, hq, h => hq _ _ h
  | .rfunc f ps a b, _, _, _, hq, h => by
    simp only [W] at h ⊢
    obtain ⟨nf, h⟩ := h
    exact ⟨nf, fun xs bd h1 h2 => rangeK_mono (fun _ _ hp => rangeQ_mono hq hp) (h xs bd h1 h2)⟩
/-- What holds between two parts. -/
theorem go_cut {P : Program} {x y : AC} {S : List Fr} {Q : Exit → St → Prop} {st : St} (I : St → Prop) (h1 : go P x (.k I :: S) Q st) (h2 : ∀ st', I st' → go P y S Q st') : go P (.seq x y) S Q st := by
  unfold go at h1 ⊢
  simp only [W]
  refine W_mono ?_ h1
  intro e st' he
  cases e with
  | normal => exact h2 st' he
  | _ => exact he
theorem gc_cut {P : Program} {d : D} {x y z : AC} {S : List Fr} {Q : Exit → St → Prop} {st : St} (I : St → Prop) (h1 : gc d P x y (.k I :: S) Q st) (h2 : ∀ st', I st' → go P z S Q st') : gc d P x y (.seq z :: S) Q st := by
  have hm : ∀ c, go P c (.k I :: S) Q st → go P c (.seq z :: S) Q st := by
    intro c hc
    refine W_mono ?_ hc
    intro e st' he
    cases e with
    | normal => exact h2 st' he
    | _ => exact he
  cases d with
  | bool b => cases b <;> exact hm _ h1
  | _ => exact h1
/-! Calls under a guard, for whatever further blocks. -/
def kgcallL (x : D) (b : Bool) (f : AO) (args : List AO) (P : Program) (rest : List AStm) (t : List D) (h : Heap) (dst : Option Nat) (S : List Fr) (Q : Exit → St → Prop) : Prop :=
  match x with
  | .bool c => (c = b → kcallL (ev t f) (args.map (ev t)) h P rest t dst S Q) ∧ (¬ c = b → gq P rest S Q ⟨setD t dst (.tup []), h⟩)
  | .tup [] => gq P rest S Q ⟨setD t dst (.tup []), h⟩
  | _ => False
section
variable {P : Program} {Q : Exit → St → Prop} {S : List Fr} {t : List D} {h : Heap} {rest : List AStm} {dst : Option Nat} {f : AO} {args : List AO} {s : Nat} {b : Bool}
theorem gq_callLg : gq P (.callL dst (some (s, b)) f args :: rest) S Q ⟨t, h⟩ = kgcallL (t.getD s .any) b f args P rest t h dst S Q := by
  simp only [gq, aheads, guardK, kgcallL]
  rfl
theorem kgcallL_TT : kgcallL (.bool true) true f args P rest t h dst S Q = kcallL (ev t f) (args.map (ev t)) h P rest t dst S Q := by simp [kgcallL]
theorem kgcallL_FF : kgcallL (.bool false) false f args P rest t h dst S Q = kcallL (ev t f) (args.map (ev t)) h P rest t dst S Q := by simp [kgcallL]
theorem kgcallL_TF : kgcallL (.bool true) false f args P rest t h dst S Q = gq P rest S Q ⟨setD t dst (.tup []), h⟩ := by simp [kgcallL]
theorem kgcallL_FT : kgcallL (.bool false) true f args P rest t h dst S Q = gq P rest S Q ⟨setD t dst (.tup []), h⟩ := by simp [kgcallL]
theorem kgcallL_tup : kgcallL (.tup []) b f args P rest t h dst S Q = gq P rest S Q ⟨setD t dst (.tup []), h⟩ := nr rfl
end
attribute [go_sem ↓] gq_callLg
attribute [go_sem] kgcallL_TT kgcallL_FF kgcallL_TF kgcallL_FT kgcallL_tup
theorem gq_cut {P : Program} {l tl : List AStm} {z : AC} {S : List Fr} {Q : Exit → St → Prop} {st : St} (I : St → Prop) (h1 : gq P l (.tail tl :: .k I :: S) Q st) (h2 : ∀ st', I st' → go P z S Q st') : gq P l (.tail tl :: .seq z :: S) Q st := by
  unfold gq at h1 ⊢
  exact aheads_mono (fun st' h => aregs_mono (fun st'' h => h2 st'' h) h) h1
theorem gs_cut {P : Program} {l : List AStm} {z : AC} {S : List Fr} {Q : Exit → St → Prop} {st : St} (I : St → Prop) (h1 : gs P l (.k I :: S) Q st) (h2 : ∀ st', I st' → go P z S Q st') : gs P l (.seq z :: S) Q st := by
  unfold gs at h1 ⊢
  exact aregs_mono (fun st' h => h2 st' h) h1
end Go.Proofs

/-
  Own work. Plain laws of addresses: bits, the first ones, one that is set.
-/
namespace Go.Proofs
open Go Go.Ytodlpcoffmnmbaa
set_option linter.unusedVariables false
set_option linter.unusedSimpArgs false
set_option maxRecDepth 10000

/-- A bit of an address, the highest one of its first byte first. -/
def abit (a : List UInt8) (i : Nat) : Bool := (a.getD (i / 8) 0).toNat.testBit (7 - i % 8)
theorem byte_hi (b : UInt8) {j : Nat} (h : 8 ≤ j) : b.toNat.testBit j = false := by
  have h1 := b.toNat_lt
  have h2 : 2 ^ 8 ≤ 2 ^ j := Nat.pow_le_pow_right (by omega) h
  exact Nat.testBit_lt_two_pow (by omega)
theorem addr_ext {a b : List UInt8} {n : Nat} (ha : a.length = n) (hb : b.length = n) (h : ∀ i < 8 * n, abit a i = abit b i) : a = b := by
  apply List.ext_getElem (by rw [ha, hb])
  intro k h1 h2
  have e1 : a[k] = a.getD k 0 := by simp [List.getD_eq_getElem?_getD, List.getElem?_eq_getElem h1]
  have e2 : b[k] = b.getD k 0 := by simp [List.getD_eq_getElem?_getD, List.getElem?_eq_getElem h2]
  rw [e1, e2]
  apply UInt8.toNat_inj.1
  apply Nat.eq_of_testBit_eq
  intro j
  by_cases hj : j < 8
  · have := h (8 * k + (7 - j)) (by omega)
    unfold abit at this
    rw [show (8 * k + (7 - j)) / 8 = k by omega, show 7 - (8 * k + (7 - j)) % 8 = j by omega] at this
    exact this
  · rw [byte_hi _ (by omega), byte_hi _ (by omega)]
theorem getD_set8 (a : List UInt8) (i : Nat) (x : UInt8) (j : Nat) : (a.set i x).getD j 0 = if i = j ∧ j < a.length then x else a.getD j 0 := by
  rw [List.getD_eq_getElem?_getD, List.getD_eq_getElem?_getD, List.getElem?_set]
  by_cases h : i = j
  · subst h
    by_cases h2 : i < a.length
    · simp [h2]
    · simp [h2]
  · simp [h]
/-- With a bit set. -/
def setA (a : List UInt8) (i : Nat) : List UInt8 := a.set (i / 8) (UInt8.ofNat ((a.getD (i / 8) 0).toNat ||| 2 ^ (7 - i % 8)))
theorem setA_length (a : List UInt8) (i : Nat) : (setA a i).length = a.length := by simp [setA]
theorem or_lt (b : UInt8) {s : Nat} (h : s < 8) : b.toNat ||| 2 ^ s < 256 := by
  have h1 := b.toNat_lt
  have h2 : 2 ^ s < 2 ^ 8 := Nat.pow_lt_pow_right (by omega) h
  exact Nat.or_lt_two_pow (n := 8) (by omega) h2
theorem setA_bit {a : List UInt8} {i : Nat} (h : i / 8 < a.length) (j : Nat) : abit (setA a i) j = (decide (j = i) || abit a j) := by
  unfold abit setA
  rw [getD_set8]
  by_cases e : i / 8 = j / 8
  · rw [if_pos ⟨e, by omega⟩, UInt8.toNat_ofNat_of_lt' (by exact or_lt _ (by omega)), Nat.testBit_or, Nat.testBit_two_pow, e, Bool.or_comm]
    congr 1
    rw [decide_eq_decide]; omega
  · rw [if_neg (by omega)]
    have : ¬ j = i := by omega
    simp [this]
def zeros (n : Nat) : List UInt8 := List.replicate n 0
theorem zeros_bit (n i : Nat) : abit (zeros n) i = false := by
  have : (zeros n).getD (i / 8) 0 = 0 := by
    rw [zeros, List.getD_eq_getElem?_getD, List.getElem?_replicate]; split <;> rfl
  unfold abit
  rw [this]; simp
/-- The first bits, all others 0. -/
def frontTo (a : List UInt8) : Nat → List UInt8
  | 0 => zeros 16
  | n + 1 => if abit a n then setA (frontTo a n) n else frontTo a n
theorem frontTo_length (a : List UInt8) : ∀ n, (frontTo a n).length = 16
  | 0 => by simp [frontTo, zeros]
  | n + 1 => by
    rw [frontTo]; split
    · rw [setA_length, frontTo_length a n]
    · exact frontTo_length a n
theorem frontTo_bit (a : List UInt8) : ∀ n, n ≤ 128 → ∀ j, abit (frontTo a n) j = (decide (j < n) && abit a j)
  | 0, _, j => by rw [frontTo, zeros_bit]; simp
  | n + 1, h, j => by
    have ih := frontTo_bit a n (by omega) j
    rw [frontTo]
    by_cases hn : abit a n = true
    · rw [if_pos hn, setA_bit (by rw [frontTo_length]; omega), ih]
      by_cases e : j = n
      · subst e; simp [hn]
      · have : (j < n + 1) ↔ j < n := by omega
        simp [e, this]
    · rw [if_neg hn, ih]
      by_cases e : j = n
      · subst e
        have : abit a j = false := by simpa using hn
        simp [this]
      · have : (j < n + 1) ↔ j < n := by omega
        simp [this]
/-- What is left of a byte. -/
def maskB (b : UInt8) (left : Nat) : UInt8 := if left = 0 then 0 else if left < 8 then UInt8.ofNat (b.toNat &&& ((255 <<< (8 - left)) % 256)) else b
theorem maskB_lt (b : UInt8) (s : Nat) : b.toNat &&& ((255 <<< s) % 256) < 256 := Nat.lt_of_le_of_lt Nat.and_le_left b.toNat_lt
theorem maskB_bit (b : UInt8) (left j : Nat) (hj : j < 8) : (maskB b left).toNat.testBit (7 - j) = (decide (j < left) && b.toNat.testBit (7 - j)) := by
  unfold maskB
  by_cases h0 : left = 0
  · rw [if_pos h0, h0]; simp
  · rw [if_neg h0]
    by_cases h8 : left < 8
    · rw [if_pos h8, UInt8.toNat_ofNat_of_lt' (by exact maskB_lt _ _), Nat.testBit_and, show (256 : Nat) = 2 ^ 8 by rfl, Nat.testBit_mod_two_pow, Nat.testBit_shiftLeft, show (255 : Nat) = 2 ^ 8 - 1 by rfl, Nat.testBit_two_pow_sub_one, Bool.and_comm]
      congr 1
      have e1 : decide (7 - j < 8) = true := decide_eq_true (by omega)
      have e2 : decide (7 - j - (8 - left) < 8) = true := decide_eq_true (by omega)
      rw [e1, e2, Bool.true_and, Bool.and_true, decide_eq_decide]
      omega
    · rw [if_neg h8]
      have : j < left := by omega
      simp [this]
/-- The first k bytes masked. -/
def maskTo (a : List UInt8) (n k : Nat) : List UInt8 := (List.range 16).map fun i => if i < k then maskB (a.getD i 0) (n - 8 * i) else a.getD i 0
theorem maskTo_length (a : List UInt8) (n k : Nat) : (maskTo a n k).length = 16 := by simp [maskTo]
theorem maskTo_getD (a : List UInt8) (n k i : Nat) (h : i < 16) : (maskTo a n k).getD i 0 = if i < k then maskB (a.getD i 0) (n - 8 * i) else a.getD i 0 := by
  rw [List.getD_eq_getElem?_getD, maskTo, List.getElem?_map, List.getElem?_range h]; rfl
theorem bytes_ext {a b : List UInt8} (hl : a.length = b.length) (h : ∀ i < a.length, a.getD i 0 = b.getD i 0) : a = b := by
  apply List.ext_getElem hl
  intro k h1 h2
  have := h k h1
  rwa [List.getD_eq_getElem?_getD, List.getD_eq_getElem?_getD, List.getElem?_eq_getElem h1, List.getElem?_eq_getElem h2] at this
theorem maskTo_zero {a : List UInt8} (ha : a.length = 16) (n : Nat) : maskTo a n 0 = a := by
  refine bytes_ext (by rw [maskTo_length, ha]) fun i hi => ?_
  rw [maskTo_length] at hi
  rw [maskTo_getD _ _ _ _ hi, if_neg (by omega)]
theorem maskTo_set (a : List UInt8) (n k : Nat) (h : k < 16) : (maskTo a n k).set k (maskB (a.getD k 0) (n - 8 * k)) = maskTo a n (k + 1) := by
  refine bytes_ext (by rw [List.length_set, maskTo_length, maskTo_length]) fun i hi => ?_
  rw [List.length_set, maskTo_length] at hi
  rw [getD_set8, maskTo_length, maskTo_getD _ _ _ _ hi, maskTo_getD _ _ _ _ hi]
  by_cases e : k = i
  · subst e
    rw [if_pos ⟨rfl, h⟩, if_pos (by omega)]
  · rw [if_neg (by omega)]
    have : (i < k + 1) ↔ i < k := by omega
    simp only [this]
theorem mask_front {a : List UInt8} {n : Nat} (hn : n ≤ 128) : maskTo a n 16 = frontTo a n := by
  refine addr_ext (maskTo_length _ _ _) (frontTo_length _ _) fun i hi => ?_
  rw [frontTo_bit _ _ hn]
  unfold abit
  rw [maskTo_getD _ _ _ _ (by omega), if_pos (by omega), maskB_bit _ _ _ (by omega)]
  congr 1
  rw [decide_eq_decide]; omega
theorem frontTo_eq {a b : List UInt8} {n : Nat} (hn : n ≤ 128) (hb : b.length = 16) : frontTo a n = b ↔ (∀ i < n, abit a i = abit b i) ∧ ∀ i, n ≤ i → i < 128 → abit b i = false := by
  constructor
  · rintro rfl
    refine ⟨fun i hi => ?_, fun i h1 h2 => ?_⟩
    · rw [frontTo_bit _ _ hn]; simp [hi]
    · rw [frontTo_bit _ _ hn]
      have : ¬ i < n := by omega
      simp [this]
  · rintro ⟨h1, h2⟩
    refine addr_ext (frontTo_length _ _) hb fun i hi => ?_
    rw [frontTo_bit _ _ hn]
    by_cases h : i < n
    · simp [h, h1 i h]
    · rw [h2 i (by omega) (by omega)]; simp [h]

/-! ### Prefixes -/
def mostF (v : Int) : Option Nat := if v = 4 then some 32 else if v = 6 then some 128 else none
/-- What is wrong with a prefix: the sort of fault, 0 where there is none. -/
def fitsF (v n : Int) : Int := match mostF v with
  | none => 4
  | some m => if n < 0 ∨ (m : Int) < n then 1 else 0
def checkF (v : Int) (a : List UInt8) (n : Int) : Int := if fitsF v n ≠ 0 then fitsF v n else if frontTo a n.toNat = a then 0 else 5
end Go.Proofs

/-
  Own work. The walks of prefix: most, fits, mask, Check, right, Has.
-/
namespace Go.Proofs
open Go Go.Ytodlpcoffmnmbaa
set_option linter.unusedVariables false
set_option linter.unusedSimpArgs false
set_option maxRecDepth 10000

/-! ### weighbridge/prefix.most, params 1 -/
def c60r0 : List AStm := [.op (some 2) none (.mv (.c (.int .i64 0))),
    .op (some 3) none (.mv (.c (.bool false)))]
def c60r1 : List AStm := [.op (some 4) none (.mv (.t 0))]
def c60r2 : List AStm := [.op (some 6) none (.bin .eql (.t 4) (.c (.int .i64 4))),
    .op (some 5) none (.mv (.t 6))]
def c60r3 : List AStm := [.op (some 2) none (.mv (.c (.int .i64 32))),
    .op (some 3) none (.mv (.c (.bool true)))]
def c60r4 : List AStm := [.op (some 8) none (.bin .eql (.t 4) (.c (.int .i64 6))),
    .op (some 7) none (.mv (.t 8))]
def c60r5 : List AStm := [.op (some 2) none (.mv (.c (.int .i64 128))),
    .op (some 3) none (.mv (.c (.bool true)))]
def c60r6 : List AStm := [.op (some 2) none (.mv (.c (.int .i64 0))),
    .op (some 3) none (.mv (.c (.bool false)))]
def c60 : CF := ⟨.seq (.reg c60r0) (.seq (.seq (.reg c60r1) (.block 0 (.seq (.reg c60r2) (.cond (.t 5) (.seq (.reg c60r3) (.ret)) (.seq (.reg c60r4) (.cond (.t 7) (.seq (.reg c60r5) (.ret)) (.skip))))))) (.seq (.reg c60r6) (.ret))), [.tmp 2, .tmp 3], 9⟩
theorem cf60 : cfun Try.prog 60 = some c60 := by kernel_rfl

/-! ### weighbridge/prefix.fits, params 2 -/
def c56r0 : List AStm := [.op (some 4) none (.mv (.c (.int .i64 0)))]
def c56r1 : List AStm := [.op (some 8) none (.mv (.t 0)),
    .call (some 9) none (.c (.fn (.func 60) [] [])) [(.t 8)],
    .op (some 7) none (.mv (.t 9)),
    .op (some 10) none (.ext (.t 7) 0),
    .op (some 11) none (.ext (.t 7) 1),
    .op (some 5) none (.mv (.t 10)),
    .op (some 6) none (.mv (.t 11))]
def c56r2 : List AStm := [.op (some 13) none (.mv (.t 6)),
    .op (some 14) none (.un .not (.t 13)),
    .op (some 12) none (.mv (.t 14))]
def c56r3 : List AStm := [.op (some 4) none (.mv (.c (.int .i64 4)))]
def c56r4 : List AStm := [.op (some 16) none (.mv (.t 1)),
    .op (some 17) none (.bin .lss (.t 16) (.c (.int .i64 0))),
    .op (some 18) none (.mv (.t 17)),
    .op (some 19) (some (18, false)) (.mv (.t 1)),
    .op (some 20) (some (18, false)) (.mv (.t 5)),
    .op (some 21) (some (18, false)) (.bin .gtr (.t 19) (.t 20)),
    .op (some 22) none (.pick (.t 18) (.c (.bool true)) (.t 21)),
    .op (some 15) none (.mv (.t 22))]
def c56r5 : List AStm := [.op (some 4) none (.mv (.c (.int .i64 1)))]
def c56r6 : List AStm := [.op (some 4) none (.mv (.c (.int .i64 0)))]
def c56 : CF := ⟨.seq (.reg c56r0) (.seq (.reg c56r1) (.seq (.block 0 (.seq (.reg c56r2) (.cond (.t 12) (.seq (.reg c56r3) (.ret)) (.seq (.reg c56r4) (.cond (.t 15) (.seq (.reg c56r5) (.ret)) (.skip)))))) (.seq (.reg c56r6) (.ret)))), [.tmp 4], 23⟩
theorem cf56 : cfun Try.prog 56 = some c56 := by kernel_rfl

/-! ### weighbridge/prefix.mask, params 2 -/
def c57r0 : List AStm := [.op (some 2) none (.box (.t 0)),
    .op (some 4) none (.alloc (List.replicate 16 (.int .u8 0)))]
def c57r1 : List AStm := [.op (some 7) none (.mv (.c (.int .i64 0)))]
def c57r2 : List AStm := [.op (some 8) none (.bin .lss (.t 7) (.c (.int .i64 16)))]
def c57r3 : List AStm := [.op (some 9) none (.mv (.t 7)),
    .op (some 5) none (.mv (.t 9))]
def c57r4 : List AStm := [.op (some 10) none (.mv (.t 1)),
    .op (some 11) none (.mv (.t 5)),
    .op (some 12) none (.bin .mul (.c (.int .i64 8)) (.t 11)),
    .op (some 13) none (.bin .sub (.t 10) (.t 12)),
    .op (some 6) none (.mv (.t 13))]
def c57r5 : List AStm := [.op (some 15) none (.mv (.t 6)),
    .op (some 16) none (.bin .leq (.t 15) (.c (.int .i64 0))),
    .op (some 14) none (.mv (.t 16))]
def c57r6 : List AStm := [.op (some 17) none (.mv (.t 5)),
    .op (some 18) none (.ixa 16 1 (.t 2) (.t 17)),
    .op none none (.store 1 (.t 18) (.c (.int .u8 0)))]
def c57r7 : List AStm := [.op (some 20) none (.mv (.t 6)),
    .op (some 21) none (.bin .lss (.t 20) (.c (.int .i64 8))),
    .op (some 19) none (.mv (.t 21))]
def c57r8 : List AStm := [.op (some 22) none (.mv (.t 5)),
    .op (some 23) none (.ixa 16 1 (.t 2) (.t 22)),
    .op (some 24) none (.load none (.t 23)),
    .op (some 25) none (.mv (.t 6)),
    .op (some 26) none (.bin .sub (.c (.int .i64 8)) (.t 25)),
    .op (some 27) none (.conv .u64 (.t 26)),
    .op (some 28) none (.bin .shl (.c (.int .u8 255)) (.t 27)),
    .op (some 29) none (.bin .and (.t 24) (.t 28)),
    .op (some 30) none (.ixa 16 1 (.t 2) (.t 22)),
    .op none none (.store 1 (.t 30) (.t 29))]
def c57r9 : List AStm := [.op (some 31) none (.bin .add (.t 7) (.c (.int .i64 1))),
    .op (some 7) none (.mv (.t 31))]
def c57l10 : AC := .seq (.reg c57r2) (.seq (.cond (.t 8) (.skip) (.exit 0)) (.seq (.block 1 (.seq (.reg c57r3) (.seq (.reg c57r4) (.block 2 (.seq (.reg c57r5) (.cond (.t 14) (.reg c57r6) (.seq (.reg c57r7) (.cond (.t 19) (.reg c57r8) (.skip))))))))) (.reg c57r9)))
def c57r11 : List AStm := [.op (some 32) none (.load (some 16) (.t 2)),
    .op none none (.store 16 (.t 4) (.t 32))]
def c57 : CF := ⟨.seq (.reg c57r0) (.seq (.seq (.reg c57r1) (.block 0 (.loop c57l10))) (.seq (.reg c57r11) (.ret))), [.cell 4 (some 16)], 33⟩
theorem cf57 : cfun Try.prog 57 = some c57 := by kernel_rfl

/-! ### weighbridge/prefix.Check, params 1 -/
def c22r0 : List AStm := [.op (some 1) none (.box (.t 0)),
    .op (some 2) none (.mv (.c (.int .i64 0)))]
def c22r1 : List AStm := [.op (some 4) none (.faddr 0 (.t 1)),
    .op (some 5) none (.load none (.t 4)),
    .op (some 6) none (.faddr 17 (.t 1)),
    .op (some 7) none (.load none (.t 6)),
    .call (some 8) none (.c (.fn (.func 56) [] [])) [(.t 5), (.t 7)],
    .op (some 3) none (.mv (.t 8))]
def c22r2 : List AStm := [.op (some 9) none (.mv (.t 3)),
    .op (some 10) none (.bin .neq (.t 9) (.c (.int .i64 0)))]
def c22r3 : List AStm := [.op (some 11) none (.mv (.t 3)),
    .op (some 2) none (.mv (.t 11))]
def c22r4 : List AStm := []
def c22r5 : List AStm := [.op (some 12) none (.faddr 1 (.t 1)),
    .op (some 13) none (.load (some 16) (.t 12)),
    .op (some 14) none (.faddr 17 (.t 1)),
    .op (some 15) none (.load none (.t 14)),
    .op (some 17) none (.faddr 1 (.t 1)),
    .op (some 18) none (.load (some 16) (.t 17)),
    .callG (some 16) none (.c (.fn (.func 57) [] [])) [(.t 13), (.t 15)],
    .op (some 19) none (.eqa true (List.replicate 16 .ki) (.t 16) (.t 18))]
def c22r6 : List AStm := [.op (some 2) none (.mv (.c (.int .i64 5)))]
def c22r7 : List AStm := [.op (some 2) none (.mv (.c (.int .i64 0)))]
def c22 : CF := ⟨.seq (.reg c22r0) (.seq (.seq (.reg c22r1) (.seq (.reg c22r2) (.cond (.t 10) (.seq (.reg c22r3) (.ret)) (.skip)))) (.seq (.seq (.dreg c22r4 c22r5) (.cond (.t 19) (.seq (.reg c22r6) (.ret)) (.skip))) (.seq (.reg c22r7) (.ret)))), [.tmp 2], 20⟩
theorem cf22 : cfun Try.prog 22 = some c22 := by kernel_rfl

/-! ### weighbridge/prefix.right, params 1 -/
def c61r0 : List AStm := [.op (some 1) none (.box (.t 0)),
    .op (some 2) none (.mv (.c (.bool false)))]
def c61r1 : List AStm := [.op (some 3) none (.load (some 18) (.t 1)),
    .call (some 4) none (.c (.fn (.func 22) [] [])) [(.t 3)],
    .op (some 5) none (.bin .eql (.t 4) (.c (.int .i64 0))),
    .op (some 2) none (.mv (.t 5))]
def c61 : CF := ⟨.seq (.reg c61r0) (.seq (.reg c61r1) (.ret)), [.tmp 2], 6⟩
theorem cf61 : cfun Try.prog 61 = some c61 := by kernel_rfl

/-! ### weighbridge/prefix.Has, params 3 -/
def c27r0 : List AStm := [.op (some 3) none (.box (.t 0)),
    .op (some 5) none (.box (.t 2)),
    .op (some 6) none (.mv (.c (.bool false)))]
def c27r1 : List AStm := []
def c27r2 : List AStm := [.op (some 7) none (.load (some 18) (.t 3)),
    .callG (some 8) none (.c (.fn (.func 61) [] [])) [(.t 7)],
    .op (some 9) none (.mv (.t 8)),
    .op (some 10) (some (9, true)) (.mv (.t 1)),
    .op (some 11) (some (9, true)) (.faddr 0 (.t 3)),
    .op (some 12) (some (9, true)) (.load none (.t 11)),
    .op (some 13) (some (9, true)) (.bin .eql (.t 10) (.t 12)),
    .op (some 14) none (.pick (.t 9) (.t 13) (.c (.bool false))),
    .op (some 15) none (.mv (.t 14)),
    .op (some 16) (some (15, true)) (.load (some 16) (.t 5)),
    .op (some 17) (some (15, true)) (.faddr 17 (.t 3)),
    .op (some 18) (some (15, true)) (.load none (.t 17)),
    .op (some 20) (some (15, true)) (.faddr 1 (.t 3)),
    .op (some 21) (some (15, true)) (.load (some 16) (.t 20)),
    .callG (some 19) (some (15, true)) (.c (.fn (.func 57) [] [])) [(.t 16), (.t 18)],
    .op (some 22) (some (15, true)) (.eqa false (List.replicate 16 .ki) (.t 19) (.t 21)),
    .op (some 23) none (.pick (.t 15) (.t 22) (.c (.bool false))),
    .op (some 6) none (.mv (.t 23))]
def c27 : CF := ⟨.seq (.reg c27r0) (.seq (.dreg c27r1 c27r2) (.ret)), [.tmp 6], 24⟩
theorem cf27 : cfun Try.prog 27 = some c27 := by kernel_rfl



def prefD (v : Int) (a : List UInt8) (n : Int) : D := .agg (.int .i64 v :: (ofBytes a ++ [.int .i64 n]))
theorem pr_take {a : List UInt8} (ha : a.length = 16) (x : List D) : (ofBytes a ++ x).take 16 = ofBytes a := by
  have : (ofBytes a).length = 16 := by rw [ofBytes_length, ha]
  rw [List.take_append_of_le_length (by omega), List.take_of_length_le (by omega)]
theorem pr_drop {a : List UInt8} (ha : a.length = 16) (x : List D) : (ofBytes a ++ x).drop 16 = x := by
  have : (ofBytes a).length = 16 := by rw [ofBytes_length, ha]
  rw [List.drop_append_of_le_length (by omega), List.drop_eq_nil_of_le (by omega)]; rfl
theorem under_bytes (k : Nat) : ∀ l : List UInt8, underL k (ofBytes l) = true
  | [] => rfl
  | b :: l => by
    have := under_bytes k l
    simp only [ofBytes] at this ⊢
    simp [underL, underD, this]
theorem under_app (k : Nat) : ∀ a b : List D, underL k (a ++ b) = (underL k a && underL k b)
  | [], b => by simp [underL]
  | x :: a, b => by
    have := under_app k a b
    simp only [List.cons_append, underL, this, Bool.and_assoc]
theorem pr_one (a : List UInt8) (n : Int) : (ofBytes a ++ [D.int .i64 n]).all D.one = true := by
  rw [List.all_append, ofBytes_one]; rfl
theorem pr_len {a : List UInt8} (ha : a.length = 16) (x : D) : (ofBytes a ++ [x]).length = 17 := by
  rw [List.length_append, ofBytes_length, ha]; rfl
theorem ofBytes_put (l : List UInt8) (k : Nat) (b : UInt8) : ofBytes (l.set k b) = (ofBytes l).set k (.int .u8 (b.toNat : Int)) := by
  simp [ofBytes, List.map_set]

theorem wrap8 (x : Nat) : IntKind.u8.wrap (x : Int) = ((x % 256 : Nat) : Int) := by
  simp [IntKind.wrap, IntKind.bits, IntKind.signed]
def mostN (v : Int) : Int := match mostF v with | some m => (m : Int) | none => 0
theorem pmost_fc (h : Heap) (v : Int) : FC Try.prog 60 [.int .i64 v] h fun d h' => d = .tup [.int .i64 (mostN v), .bool (mostF v).isSome] ∧ h' = h := by
  refine FC.goes cf60 ?_; simp only [c60]; simp only [List.length_cons, List.length_nil, Nat.reduceAdd, Nat.reduceSub, List.replicate_succ, List.replicate_zero, List.cons_append, List.nil_append]
  by_cases h4 : v = 4
  · subst h4
    simp (disch := first | omega | (simp only [List.length_append, List.length_cons, List.length_nil]; omega)) only [c60r0, c60r1, c60r2, c60r3, c60r4, c60r5, c60r6, go_sem, fill_c, ↓reduceIte, reduceCtorEq, Nat.reduceAdd, Nat.reduceSub, Nat.reducePow, Nat.reduceMul, Nat.reduceEqDiff, Nat.reduceLT, Nat.reduceLeDiff, Int.reduceToNat, Int.reduceLT, Int.reduceLE, Int.reduceEq, Int.reduceNeg, Int.reduceAdd, Int.reduceSub, Int.reduceMul]
    exact FinOk.all ⟨rfl, rfl⟩
  · by_cases h6 : v = 6
    · subst h6
      simp (disch := first | omega | (simp only [List.length_append, List.length_cons, List.length_nil]; omega)) only [c60r0, c60r1, c60r2, c60r3, c60r4, c60r5, c60r6, go_sem, fill_c, ↓reduceIte, reduceCtorEq, Nat.reduceAdd, Nat.reduceSub, Nat.reducePow, Nat.reduceMul, Nat.reduceEqDiff, Nat.reduceLT, Nat.reduceLeDiff, Int.reduceToNat, Int.reduceLT, Int.reduceLE, Int.reduceEq, Int.reduceNeg, Int.reduceAdd, Int.reduceSub, Int.reduceMul]
      exact FinOk.all ⟨rfl, rfl⟩
    · have e1 : mostF v = none := by simp [mostF, h4, h6]
      have e2 : mostN v = 0 := by rw [mostN, e1]
      rw [e1, e2]
      simp (disch := first | omega | (simp only [List.length_append, List.length_cons, List.length_nil]; omega)) only [c60r0, c60r1, c60r2, c60r3, c60r4, c60r5, c60r6, h4, h6, go_sem, fill_c, ↓reduceIte, reduceCtorEq, Nat.reduceAdd, Nat.reduceSub, Nat.reducePow, Nat.reduceMul, Nat.reduceEqDiff, Nat.reduceLT, Nat.reduceLeDiff, Int.reduceToNat, Int.reduceLT, Int.reduceLE, Int.reduceEq, Int.reduceNeg, Int.reduceAdd, Int.reduceSub, Int.reduceMul]
      exact FinOk.all ⟨rfl, rfl⟩
theorem mostF_le {v : Int} {m : Nat} (h : mostF v = some m) : m ≤ 128 := by
  unfold mostF at h
  split at h
  · injection h with h; omega
  · split at h
    · injection h with h; omega
    · cases h
theorem fits_fc (h : Heap) (v n : Int) : FC Try.prog 56 [.int .i64 v, .int .i64 n] h fun d h' => d = .int .i64 (fitsF v n) ∧ h' = h := by
  refine FC.goes cf56 ?_; simp only [c56]; simp only [List.length_cons, List.length_nil, Nat.reduceAdd, Nat.reduceSub, List.replicate_succ, List.replicate_zero, List.cons_append, List.nil_append]
  simp (disch := first | omega | (simp only [List.length_append, List.length_cons, List.length_nil]; omega)) only [c56r0, c56r1, c56r2, c56r3, c56r4, c56r5, c56r6, go_sem, fill_c, ↓reduceIte, reduceCtorEq, Nat.reduceAdd, Nat.reduceSub, Nat.reducePow, Nat.reduceMul, Nat.reduceEqDiff, Nat.reduceLT, Nat.reduceLeDiff, Int.reduceToNat, Int.reduceLT, Int.reduceLE, Int.reduceEq, Int.reduceNeg, Int.reduceAdd, Int.reduceSub, Int.reduceMul]
  refine gfc_of (pmost_fc _ v) ?_
  rintro d h' ⟨rfl, e⟩
  rw [e]
  cases hm : mostF v with
  | none =>
    have hf : fitsF v n = 4 := by simp [fitsF, hm]
    rw [hf]
    simp (disch := first | omega | (simp only [List.length_append, List.length_cons, List.length_nil]; omega)) only [Option.isSome_none, go_sem, fill_c, ↓reduceIte, reduceCtorEq, Nat.reduceAdd, Nat.reduceSub, Nat.reducePow, Nat.reduceMul, Nat.reduceEqDiff, Nat.reduceLT, Nat.reduceLeDiff, Int.reduceToNat, Int.reduceLT, Int.reduceLE, Int.reduceEq, Int.reduceNeg, Int.reduceAdd, Int.reduceSub, Int.reduceMul]
    exact FinOk.all ⟨rfl, rfl⟩
  | some m =>
    have e1 : mostN v = (m : Int) := by rw [mostN, hm]
    rw [e1]
    by_cases h0 : n < 0
    · have hf : fitsF v n = 1 := by simp [fitsF, hm, h0]
      rw [hf]
      simp (disch := first | omega | (simp only [List.length_append, List.length_cons, List.length_nil]; omega)) only [Option.isSome_some, h0, go_sem, fill_c, ↓reduceIte, reduceCtorEq, Nat.reduceAdd, Nat.reduceSub, Nat.reducePow, Nat.reduceMul, Nat.reduceEqDiff, Nat.reduceLT, Nat.reduceLeDiff, Int.reduceToNat, Int.reduceLT, Int.reduceLE, Int.reduceEq, Int.reduceNeg, Int.reduceAdd, Int.reduceSub, Int.reduceMul]
      exact FinOk.all ⟨rfl, rfl⟩
    · by_cases h1 : (m : Int) < n
      · have hf : fitsF v n = 1 := by simp [fitsF, hm, h1]
        rw [hf]
        simp (disch := first | omega | (simp only [List.length_append, List.length_cons, List.length_nil]; omega)) only [Option.isSome_some, h0, h1, go_sem, fill_c, ↓reduceIte, reduceCtorEq, Nat.reduceAdd, Nat.reduceSub, Nat.reducePow, Nat.reduceMul, Nat.reduceEqDiff, Nat.reduceLT, Nat.reduceLeDiff, Int.reduceToNat, Int.reduceLT, Int.reduceLE, Int.reduceEq, Int.reduceNeg, Int.reduceAdd, Int.reduceSub, Int.reduceMul]
        exact FinOk.all ⟨rfl, rfl⟩
      · have hf : fitsF v n = 0 := by simp [fitsF, hm, h0, h1]
        rw [hf]
        simp (disch := first | omega | (simp only [List.length_append, List.length_cons, List.length_nil]; omega)) only [Option.isSome_some, h0, h1, go_sem, fill_c, ↓reduceIte, reduceCtorEq, Nat.reduceAdd, Nat.reduceSub, Nat.reducePow, Nat.reduceMul, Nat.reduceEqDiff, Nat.reduceLT, Nat.reduceLeDiff, Int.reduceToNat, Int.reduceLT, Int.reduceLE, Int.reduceEq, Int.reduceNeg, Int.reduceAdd, Int.reduceSub, Int.reduceMul]
        exact FinOk.all ⟨rfl, rfl⟩
theorem mask_fc (h : Heap) (a : List UInt8) (ha : a.length = 16) (n : Nat) (hn : n ≤ 128) : FC Try.prog 57 [.agg (ofBytes a), .int .i64 (n : Int)] h fun d h' => d = .agg (ofBytes (frontTo a n)) ∧ h' = h := by
  refine FC.goes cf57 ?_; simp only [c57]; simp only [List.length_cons, List.length_nil, Nat.reduceAdd, Nat.reduceSub, List.replicate_succ, List.replicate_zero, List.cons_append, List.nil_append]
  simp (disch := first | omega | (simp only [List.length_append, List.length_cons, List.length_nil]; omega)) only [c57r0, c57r1, c57r2, c57r3, c57r4, c57r5, c57r6, c57r7, c57r8, c57r9, c57l10, c57r11, go_sem, fill_c, ↓reduceIte, reduceCtorEq, Nat.reduceAdd, Nat.reduceSub, Nat.reducePow, Nat.reduceMul, Nat.reduceEqDiff, Nat.reduceLT, Nat.reduceLeDiff, Int.reduceToNat, Int.reduceLT, Int.reduceLE, Int.reduceEq, Int.reduceNeg, Int.reduceAdd, Int.reduceSub, Int.reduceMul]
  refine loop_to 16 (fun k st => ∃ (j : Nat → D), st = ⟨(j 0 :: .int .i64 (n : Int) :: .ref h.length 0 :: j 3 :: .ref (h.length + 1) 0 :: j 5 :: j 6 :: .int .i64 (k : Int) :: j 8 :: j 9 :: j 10 :: j 11 :: j 12 :: j 13 :: j 14 :: j 15 :: j 16 :: j 17 :: j 18 :: j 19 :: j 20 :: j 21 :: j 22 :: j 23 :: j 24 :: j 25 :: j 26 :: j 27 :: j 28 :: j 29 :: j 30 :: j 31 :: j 32 :: []), h ++ [.box (ofBytes (maskTo a n k)), .box (List.replicate 16 (.int .u8 0))]⟩) (by rw [maskTo_zero ha]; exact junk rfl) ?_
  rintro k st hk ⟨j, rfl⟩
  have hbl : (ofBytes (maskTo a n k)).length = 16 := by rw [ofBytes_length, maskTo_length]
  by_cases hk16 : k < 16
  · have hk' : (k : Int) < 16 := by omega
    have e1 : IntKind.i64.wrap (8 * (k : Int)) = ((8 * k : Nat) : Int) := by rw [w_i64 (by omega) (by omega)]; omega
    have e2 : IntKind.i64.wrap ((n : Int) - ((8 * k : Nat) : Int)) = (n : Int) - ((8 * k : Nat) : Int) := w_i64 (by omega) (by omega)
    have e5 : IntKind.i64.wrap ((k : Int) + 1) = ((k + 1 : Nat) : Int) := by rw [w_i64 (by omega) (by omega)]; omega
    have hset := maskTo_set a n k hk16
    by_cases h0 : (n : Int) - ((8 * k : Nat) : Int) ≤ 0
    · have hb : maskB (a.getD k 0) (n - 8 * k) = 0 := by
        have : n - 8 * k = 0 := by omega
        simp [maskB, this]
      simp (disch := first | omega | (simp only [List.length_append, List.length_cons, List.length_nil]; omega)) only [c57r0, c57r1, c57r2, c57r3, c57r4, c57r5, c57r6, c57r7, c57r8, c57r9, c57l10, c57r11, hk', e1, e2, h0, e5, hbl, go_sem, fill_c, ↓reduceIte, reduceCtorEq, Nat.reduceAdd, Nat.reduceSub, Nat.reducePow, Nat.reduceMul, Nat.reduceEqDiff, Nat.reduceLT, Nat.reduceLeDiff, Int.reduceToNat, Int.reduceLT, Int.reduceLE, Int.reduceEq, Int.reduceNeg, Int.reduceAdd, Int.reduceSub, Int.reduceMul]
      refine ⟨hk16, ?_⟩
      rw [← hset, hb, ofBytes_put]
      exact junk rfl
    · by_cases h8 : (n : Int) - ((8 * k : Nat) : Int) < 8
      · obtain ⟨left, hl⟩ : ∃ left : Nat, n = 8 * k + left := ⟨n - 8 * k, by omega⟩
        have hl2 : n - 8 * k = left := by omega
        have hl3 : (n : Int) - ((8 * k : Nat) : Int) = (left : Int) := by omega
        rw [hl2] at hset
        rw [hl3] at e2 h0 h8
        have e2' : IntKind.i64.wrap ((n : Int) - ((8 * k : Nat) : Int)) = (left : Int) := by rw [hl3]; exact e2
        have e6 : IntKind.i64.wrap (8 - (left : Int)) = ((8 - left : Nat) : Int) := by rw [w_i64 (by omega) (by omega)]; omega
        have e7 : IntKind.u64.wrap ((8 - left : Nat) : Int) = ((8 - left : Nat) : Int) := w_u64 (by omega) (by omega)
        have hg : (List.drop k (ofBytes (maskTo a n k)))[0]? = some (.int .u8 ((a.getD k 0).toNat : Int)) := by
          rw [List.getElem?_drop, Nat.add_zero, ofBytes_get, getB (by rw [maskTo_length]; omega), maskTo_getD _ _ _ _ hk16, if_neg (by omega)]; rfl
        have a1 : arith .shl (.int .u8 255) (.int .u64 ((8 - left : Nat) : Int)) = some (.int .u8 (((255 <<< (8 - left)) % 256 : Nat) : Int)) := by
          have := shl_u8 (x := 255) (k' := .u64) (b := ((8 - left : Nat) : Int)) (by omega) (by omega)
          rw [Int.toNat_natCast, wrap8, ← Nat.shiftLeft_eq] at this
          exact this
        have a2 : arith .and (.int .u8 ((a.getD k 0).toNat : Int)) (.int .u8 (((255 <<< (8 - left)) % 256 : Nat) : Int)) = some (.int .u8 (((a.getD k 0).toNat &&& ((255 <<< (8 - left)) % 256) : Nat) : Int)) := and_u8 (a.getD k 0).toNat_lt (Nat.mod_lt _ (by omega))
        have hb : maskB (a.getD k 0) left = UInt8.ofNat ((a.getD k 0).toNat &&& ((255 <<< (8 - left)) % 256)) := by
          have h1 : ¬ left = 0 := by omega
          have h2 : left < 8 := by omega
          simp [maskB, h1, h2]
        have hbt : (UInt8.ofNat ((a.getD k 0).toNat &&& ((255 <<< (8 - left)) % 256))).toNat = (a.getD k 0).toNat &&& ((255 <<< (8 - left)) % 256) := UInt8.toNat_ofNat_of_lt' (by exact maskB_lt _ _)
        simp (disch := first | omega | (simp only [List.length_append, List.length_cons, List.length_nil]; omega)) only [c57r0, c57r1, c57r2, c57r3, c57r4, c57r5, c57r6, c57r7, c57r8, c57r9, c57l10, c57r11, hk', e1, e2', h0, h8, e5, e6, e7, hbl, hg, a1, a2, go_sem, fill_c, ↓reduceIte, reduceCtorEq, Nat.reduceAdd, Nat.reduceSub, Nat.reducePow, Nat.reduceMul, Nat.reduceEqDiff, Nat.reduceLT, Nat.reduceLeDiff, Int.reduceToNat, Int.reduceLT, Int.reduceLE, Int.reduceEq, Int.reduceNeg, Int.reduceAdd, Int.reduceSub, Int.reduceMul]
        refine ⟨hk16, ?_⟩
        rw [← hset, hb, ofBytes_put, hbt]
        exact junk rfl
      · have hb : maskB (a.getD k 0) (n - 8 * k) = a.getD k 0 := by
          have h1 : ¬ n - 8 * k = 0 := by omega
          have h2 : ¬ n - 8 * k < 8 := by omega
          unfold maskB
          rw [if_neg h1, if_neg h2]
        have hsame : maskTo a n (k + 1) = maskTo a n k := by
          rw [← hset, hb]
          refine bytes_ext (by simp) fun i hi => ?_
          rw [List.length_set, maskTo_length] at hi
          rw [getD_set8, maskTo_length]
          split
          · rename_i hc
            obtain ⟨rfl, _⟩ := hc
            rw [maskTo_getD _ _ _ _ hi, if_neg (by omega)]
          · rfl
        simp (disch := first | omega | (simp only [List.length_append, List.length_cons, List.length_nil]; omega)) only [c57r0, c57r1, c57r2, c57r3, c57r4, c57r5, c57r6, c57r7, c57r8, c57r9, c57l10, c57r11, hk', e1, e2, h0, h8, e5, go_sem, fill_c, ↓reduceIte, reduceCtorEq, Nat.reduceAdd, Nat.reduceSub, Nat.reducePow, Nat.reduceMul, Nat.reduceEqDiff, Nat.reduceLT, Nat.reduceLeDiff, Int.reduceToNat, Int.reduceLT, Int.reduceLE, Int.reduceEq, Int.reduceNeg, Int.reduceAdd, Int.reduceSub, Int.reduceMul]
        refine ⟨hk16, ?_⟩
        rw [hsame]
        exact junk rfl
  · have hk' : ¬ (k : Int) < 16 := by omega
    have : k = 16 := by omega
    subst this
    rw [mask_front hn] at hbl ⊢
    have htk : List.take 16 (ofBytes (frontTo a n)) = ofBytes (frontTo a n) := List.take_of_length_le (by omega)
    simp (disch := first | omega | (simp only [List.length_append, List.length_cons, List.length_nil]; omega)) only [c57r0, c57r1, c57r2, c57r3, c57r4, c57r5, c57r6, c57r7, c57r8, c57r9, c57l10, c57r11, hk', hbl, htk, go_sem, fill_c, ↓reduceIte, reduceCtorEq, Nat.reduceAdd, Nat.reduceSub, Nat.reducePow, Nat.reduceMul, Nat.reduceEqDiff, Nat.reduceLT, Nat.reduceLeDiff, Int.reduceToNat, Int.reduceLT, Int.reduceLE, Int.reduceEq, Int.reduceNeg, Int.reduceAdd, Int.reduceSub, Int.reduceMul]
    exact FinOk.drop (.inl rfl) (by simp [underL, underD, under_bytes]) ⟨rfl, rfl⟩

theorem checkF_le {v n : Int} (h : fitsF v n = 0) : 0 ≤ n ∧ n ≤ 128 := by
  unfold fitsF at h
  split at h
  · cases h
  · rename_i m hm
    have := mostF_le hm
    split at h
    · cases h
    · omega
theorem pcheck_fc (h : Heap) (v n : Int) (a : List UInt8) (ha : a.length = 16) : FC Try.prog 22 [prefD v a n] h fun d h' => d = .int .i64 (checkF v a n) ∧ h' = h := by
  have p1 := pr_take ha [.int .i64 n]
  have p2 := pr_drop ha [.int .i64 n]
  have p3 := pr_len ha (.int .i64 n)
  have p4 := pr_one a n
  refine FC.goes cf22 ?_; simp only [c22]; simp only [List.length_cons, List.length_nil, Nat.reduceAdd, Nat.reduceSub, List.replicate_succ, List.replicate_zero, List.cons_append, List.nil_append]
  simp (disch := first | omega | (simp only [List.length_append, List.length_cons, List.length_nil]; omega)) only [c22r0, c22r1, c22r2, c22r3, c22r4, c22r5, c22r6, c22r7, prefD, p2, p3, p4, go_sem, fill_c, ↓reduceIte, reduceCtorEq, Nat.reduceAdd, Nat.reduceSub, Nat.reducePow, Nat.reduceMul, Nat.reduceEqDiff, Nat.reduceLT, Nat.reduceLeDiff, Int.reduceToNat, Int.reduceLT, Int.reduceLE, Int.reduceEq, Int.reduceNeg, Int.reduceAdd, Int.reduceSub, Int.reduceMul]
  refine gfc_of (fits_fc _ v n) ?_
  rintro d h' ⟨rfl, e⟩
  rw [e]
  by_cases hf : fitsF v n = 0
  · have hc : checkF v a n = if frontTo a n.toNat = a then 0 else 5 := by simp [checkF, hf]
    obtain ⟨h0, h1⟩ := checkF_le hf
    obtain ⟨k, rfl⟩ := Int.eq_ofNat_of_zero_le h0
    rw [show ((k : Int)).toNat = k from rfl] at hc
    rw [hf, hc]
    simp (disch := first | omega | (simp only [List.length_append, List.length_cons, List.length_nil]; omega)) only [p1, p2, p3, go_sem, fill_c, ↓reduceIte, reduceCtorEq, Nat.reduceAdd, Nat.reduceSub, Nat.reducePow, Nat.reduceMul, Nat.reduceEqDiff, Nat.reduceLT, Nat.reduceLeDiff, Int.reduceToNat, Int.reduceLT, Int.reduceLE, Int.reduceEq, Int.reduceNeg, Int.reduceAdd, Int.reduceSub, Int.reduceMul]
    refine xfc_of (mask_fc _ a ha k (by omega)) ?_
    rintro d h' ⟨rfl, e⟩
    refine ⟨⟨[], by rw [e, List.append_nil]⟩, ?_⟩
    rw [e]
    have hfl := frontTo_length a k
    by_cases he : frontTo a k = a
    · rw [he]
      simp (disch := first | omega | (simp only [List.length_append, List.length_cons, List.length_nil]; omega)) only [ha, go_sem, fill_c, ↓reduceIte, reduceCtorEq, Nat.reduceAdd, Nat.reduceSub, Nat.reducePow, Nat.reduceMul, Nat.reduceEqDiff, Nat.reduceLT, Nat.reduceLeDiff, Int.reduceToNat, Int.reduceLT, Int.reduceLE, Int.reduceEq, Int.reduceNeg, Int.reduceAdd, Int.reduceSub, Int.reduceMul]
      exact FinOk.drop (.inl rfl) (by simp [underL, underD]) ⟨rfl, rfl⟩
    · simp (disch := first | omega | (simp only [List.length_append, List.length_cons, List.length_nil]; omega)) only [he, hfl, ha, go_sem, fill_c, ↓reduceIte, reduceCtorEq, Nat.reduceAdd, Nat.reduceSub, Nat.reducePow, Nat.reduceMul, Nat.reduceEqDiff, Nat.reduceLT, Nat.reduceLeDiff, Int.reduceToNat, Int.reduceLT, Int.reduceLE, Int.reduceEq, Int.reduceNeg, Int.reduceAdd, Int.reduceSub, Int.reduceMul]
      exact FinOk.drop (.inl rfl) (by simp [underL, underD]) ⟨rfl, rfl⟩
  · have hc : checkF v a n = fitsF v n := by simp [checkF, hf]
    rw [hc]
    simp (disch := first | omega | (simp only [List.length_append, List.length_cons, List.length_nil]; omega)) only [hf, go_sem, fill_c, ↓reduceIte, reduceCtorEq, Nat.reduceAdd, Nat.reduceSub, Nat.reducePow, Nat.reduceMul, Nat.reduceEqDiff, Nat.reduceLT, Nat.reduceLeDiff, Int.reduceToNat, Int.reduceLT, Int.reduceLE, Int.reduceEq, Int.reduceNeg, Int.reduceAdd, Int.reduceSub, Int.reduceMul]
    exact FinOk.drop (.inl rfl) (by simp [underL, underD]) ⟨rfl, rfl⟩

theorem pr_all {a : List UInt8} (ha : a.length = 16) (v n : Int) : (D.int .i64 v :: (ofBytes a ++ [.int .i64 n])).take 18 = D.int .i64 v :: (ofBytes a ++ [.int .i64 n]) := by
  have := pr_len ha (.int .i64 n)
  exact List.take_of_length_le (by rw [List.length_cons]; omega)
theorem right_fc (h : Heap) (v n : Int) (a : List UInt8) (ha : a.length = 16) : FC Try.prog 61 [prefD v a n] h fun d h' => d = .bool (decide (checkF v a n = 0)) ∧ h' = h := by
  have p2 := pr_drop ha [.int .i64 n]
  have p3 := pr_len ha (.int .i64 n)
  have p4 := pr_one a n
  have p5 := pr_all ha v n
  refine FC.goes cf61 ?_; simp only [c61]; simp only [List.length_cons, List.length_nil, Nat.reduceAdd, Nat.reduceSub, List.replicate_succ, List.replicate_zero, List.cons_append, List.nil_append]
  simp (disch := first | omega | (simp only [List.length_append, List.length_cons, List.length_nil]; omega)) only [c61r0, c61r1, prefD, p2, p3, p4, p5, go_sem, fill_c, ↓reduceIte, reduceCtorEq, Nat.reduceAdd, Nat.reduceSub, Nat.reducePow, Nat.reduceMul, Nat.reduceEqDiff, Nat.reduceLT, Nat.reduceLeDiff, Int.reduceToNat, Int.reduceLT, Int.reduceLE, Int.reduceEq, Int.reduceNeg, Int.reduceAdd, Int.reduceSub, Int.reduceMul]
  have e := pcheck_fc
  unfold prefD at e
  have p6 : List.take 17 (ofBytes a ++ [D.int .i64 n]) = ofBytes a ++ [D.int .i64 n] := List.take_of_length_le (by omega)
  try rw [p6]
  refine gfc_of (e _ v n a ha) ?_
  rintro d h' ⟨rfl, e⟩
  rw [e]
  simp (disch := first | omega | (simp only [List.length_append, List.length_cons, List.length_nil]; omega)) only [go_sem, fill_c, ↓reduceIte, reduceCtorEq, Nat.reduceAdd, Nat.reduceSub, Nat.reducePow, Nat.reduceMul, Nat.reduceEqDiff, Nat.reduceLT, Nat.reduceLeDiff, Int.reduceToNat, Int.reduceLT, Int.reduceLE, Int.reduceEq, Int.reduceNeg, Int.reduceAdd, Int.reduceSub, Int.reduceMul]
  exact FinOk.drop (.inl rfl) (by simp [underL, underD]) ⟨rfl, rfl⟩

/-- Has an address a prefix? -/
def hasF (p : Int) (a : List UInt8) (n v : Int) (b : List UInt8) : Bool := decide (checkF p a n = 0) && (decide (v = p) && decide (frontTo b n.toNat = a))
theorem phas_fc (h : Heap) (p n v : Int) (a b : List UInt8) (ha : a.length = 16) (hb : b.length = 16) : FC Try.prog 27 [prefD p a n, .int .i64 v, .agg (ofBytes b)] h fun d h' => d = .bool (hasF p a n v b) ∧ h' = h := by
  have p1 := pr_take ha [.int .i64 n]
  have p2 := pr_drop ha [.int .i64 n]
  have p3 := pr_len ha (.int .i64 n)
  have p4 := pr_one a n
  have p6 : List.take 17 (ofBytes a ++ [D.int .i64 n]) = ofBytes a ++ [D.int .i64 n] := List.take_of_length_le (by omega)
  have hbl : (ofBytes b).length = 16 := by rw [ofBytes_length, hb]
  have p7 : List.take 16 (ofBytes b) = ofBytes b := List.take_of_length_le (by omega)
  have er := right_fc
  unfold prefD at er
  refine FC.goes cf27 ?_; simp only [c27]; simp only [List.length_cons, List.length_nil, Nat.reduceAdd, Nat.reduceSub, List.replicate_succ, List.replicate_zero, List.cons_append, List.nil_append]
  simp (disch := first | omega | (simp only [List.length_append, List.length_cons, List.length_nil]; omega)) only [c27r0, c27r1, c27r2, prefD, p2, p3, p4, p6, go_sem, fill_c, ↓reduceIte, reduceCtorEq, Nat.reduceAdd, Nat.reduceSub, Nat.reducePow, Nat.reduceMul, Nat.reduceEqDiff, Nat.reduceLT, Nat.reduceLeDiff, Int.reduceToNat, Int.reduceLT, Int.reduceLE, Int.reduceEq, Int.reduceNeg, Int.reduceAdd, Int.reduceSub, Int.reduceMul]
  refine xfc_of (er _ p n a ha) ?_
  rintro d h' ⟨rfl, e⟩
  refine ⟨⟨[], by rw [e, List.append_nil]⟩, ?_⟩
  rw [e]
  by_cases hc : checkF p a n = 0
  · have hf : fitsF p n = 0 := by
      unfold checkF at hc
      split at hc
      · rename_i h1; exact absurd hc h1
      · rename_i h1; simpa using h1
    obtain ⟨h0, h1⟩ := checkF_le hf
    obtain ⟨k, rfl⟩ := Int.eq_ofNat_of_zero_le h0
    by_cases hv : v = p
    · subst hv
      simp (disch := first | omega | (simp only [List.length_append, List.length_cons, List.length_nil]; omega)) only [hc, p1, p2, p3, p7, hbl, go_sem, fill_c, ↓reduceIte, reduceCtorEq, Nat.reduceAdd, Nat.reduceSub, Nat.reducePow, Nat.reduceMul, Nat.reduceEqDiff, Nat.reduceLT, Nat.reduceLeDiff, Int.reduceToNat, Int.reduceLT, Int.reduceLE, Int.reduceEq, Int.reduceNeg, Int.reduceAdd, Int.reduceSub, Int.reduceMul]
      refine xfc_of (mask_fc _ b hb k (by omega)) ?_
      rintro d h' ⟨rfl, e⟩
      refine ⟨⟨[], by rw [e, List.append_nil]⟩, ?_⟩
      rw [e]
      have hfl := frontTo_length b k
      have hh : hasF v a (k : Int) v b = decide (frontTo b k = a) := by simp [hasF, hc]
      rw [hh]
      simp (disch := first | omega | (simp only [List.length_append, List.length_cons, List.length_nil]; omega)) only [hfl, ha, go_sem, fill_c, ↓reduceIte, reduceCtorEq, Nat.reduceAdd, Nat.reduceSub, Nat.reducePow, Nat.reduceMul, Nat.reduceEqDiff, Nat.reduceLT, Nat.reduceLeDiff, Int.reduceToNat, Int.reduceLT, Int.reduceLE, Int.reduceEq, Int.reduceNeg, Int.reduceAdd, Int.reduceSub, Int.reduceMul]
      exact FinOk.drop (.inl rfl) (by simp [underL, underD]) ⟨rfl, rfl⟩
    · have hh : hasF p a (k : Int) v b = false := by simp [hasF, hv]
      rw [hh]
      simp (disch := first | omega | (simp only [List.length_append, List.length_cons, List.length_nil]; omega)) only [hc, p2, hv, go_sem, fill_c, ↓reduceIte, reduceCtorEq, Nat.reduceAdd, Nat.reduceSub, Nat.reducePow, Nat.reduceMul, Nat.reduceEqDiff, Nat.reduceLT, Nat.reduceLeDiff, Int.reduceToNat, Int.reduceLT, Int.reduceLE, Int.reduceEq, Int.reduceNeg, Int.reduceAdd, Int.reduceSub, Int.reduceMul]
      exact FinOk.drop (.inl rfl) (by simp [underL, underD]) ⟨rfl, rfl⟩
  · have hh : hasF p a n v b = false := by simp [hasF, hc]
    rw [hh]
    simp (disch := first | omega | (simp only [List.length_append, List.length_cons, List.length_nil]; omega)) only [hc, go_sem, fill_c, ↓reduceIte, reduceCtorEq, Nat.reduceAdd, Nat.reduceSub, Nat.reducePow, Nat.reduceMul, Nat.reduceEqDiff, Nat.reduceLT, Nat.reduceLeDiff, Int.reduceToNat, Int.reduceLT, Int.reduceLE, Int.reduceEq, Int.reduceNeg, Int.reduceAdd, Int.reduceSub, Int.reduceMul]
    exact FinOk.drop (.inl rfl) (by simp [underL, underD]) ⟨rfl, rfl⟩
end Go.Proofs

/-
  Own work. The walks of the document's prefixes: Most, Bit, set, front, Check, Has, Make.
-/
namespace Go.Proofs
open Go Go.Ytodlpcoffmnmbaa
set_option linter.unusedVariables false
set_option linter.unusedSimpArgs false
set_option maxRecDepth 10000

/-! ### weighbridge/weighbridgeref07.Most, params 1 -/
def c58r0 : List AStm := [.op (some 2) none (.mv (.c (.int .i64 0)))]
def c58r1 : List AStm := [.op (some 3) none (.mv (.t 0)),
    .op (some 4) none (.bin .eql (.t 3) (.c (.int .i64 4)))]
def c58r2 : List AStm := [.op (some 2) none (.mv (.c (.int .i64 32)))]
def c58r3 : List AStm := [.op (some 5) none (.mv (.t 0)),
    .op (some 6) none (.bin .eql (.t 5) (.c (.int .i64 6)))]
def c58r4 : List AStm := [.op (some 2) none (.mv (.c (.int .i64 128)))]
def c58r5 : List AStm := [.op (some 2) none (.mv (.c (.int .i64 (-1))))]
def c58 : CF := ⟨.seq (.reg c58r0) (.seq (.seq (.reg c58r1) (.cond (.t 4) (.seq (.reg c58r2) (.ret)) (.skip))) (.seq (.seq (.reg c58r3) (.cond (.t 6) (.seq (.reg c58r4) (.ret)) (.skip))) (.seq (.reg c58r5) (.ret)))), [.tmp 2], 7⟩
theorem cf58 : cfun Try.prog 58 = some c58 := by kernel_rfl

/-! ### weighbridge/weighbridgeref07.Bit, params 2 -/
def c83r0 : List AStm := [.op (some 2) none (.box (.t 0)),
    .op (some 4) none (.mv (.c (.int .i64 0)))]
def c83r1 : List AStm := [.op (some 7) none (.mv (.t 1)),
    .op (some 8) none (.bin .quo (.t 7) (.c (.int .i64 8))),
    .op (some 9) none (.ixa 16 1 (.t 2) (.t 8)),
    .op (some 10) none (.load none (.t 9)),
    .op (some 11) none (.conv .i64 (.t 10)),
    .op (some 5) none (.mv (.t 11))]
def c83r2 : List AStm := [.op (some 12) none (.mv (.t 1)),
    .op (some 13) none (.bin .rem (.t 12) (.c (.int .i64 8))),
    .op (some 14) none (.bin .sub (.c (.int .i64 7)) (.t 13)),
    .op (some 6) none (.mv (.t 14))]
def c83r3 : List AStm := [.op (some 15) none (.mv (.t 6)),
    .op (some 16) none (.bin .gtr (.t 15) (.c (.int .i64 0)))]
def c83r4 : List AStm := [.op (some 19) none (.mv (.t 5)),
    .op (some 20) none (.bin .quo (.t 19) (.c (.int .i64 2))),
    .op (some 5) none (.mv (.t 20))]
def c83r5 : List AStm := [.op (some 17) none (.mv (.t 6)),
    .op (some 18) none (.bin .sub (.t 17) (.c (.int .i64 1))),
    .op (some 6) none (.mv (.t 18))]
def c83l6 : AC := .seq (.seq (.reg c83r3) (.cond (.t 16) (.skip) (.exit 0))) (.seq (.block 1 (.reg c83r4)) (.reg c83r5))
def c83r7 : List AStm := [.op (some 21) none (.mv (.t 5)),
    .op (some 22) none (.bin .rem (.t 21) (.c (.int .i64 2))),
    .op (some 4) none (.mv (.t 22))]
def c83 : CF := ⟨.seq (.reg c83r0) (.seq (.reg c83r1) (.seq (.seq (.reg c83r2) (.block 0 (.loop c83l6))) (.seq (.reg c83r7) (.ret)))), [.tmp 4], 23⟩
theorem cf83 : cfun Try.prog 83 = some c83 := by kernel_rfl

/-! ### weighbridge/weighbridgeref07.set, params 2 -/
def c62r0 : List AStm := [.op (some 2) none (.box (.t 0)),
    .op (some 4) none (.alloc (List.replicate 16 (.int .u8 0)))]
def c62r1 : List AStm := [.op (some 7) none (.load (some 16) (.t 2)),
    .op (some 8) none (.mv (.t 1)),
    .call (some 9) none (.c (.fn (.func 83) [] [])) [(.t 7), (.t 8)],
    .op (some 10) none (.bin .eql (.t 9) (.c (.int .i64 1)))]
def c62r2 : List AStm := [.op (some 11) none (.load (some 16) (.t 2)),
    .op none none (.store 16 (.t 4) (.t 11))]
def c62r3 : List AStm := [.op (some 5) none (.mv (.c (.int .i64 1)))]
def c62r4 : List AStm := [.op (some 12) none (.mv (.t 1)),
    .op (some 13) none (.bin .rem (.t 12) (.c (.int .i64 8))),
    .op (some 14) none (.bin .sub (.c (.int .i64 7)) (.t 13)),
    .op (some 6) none (.mv (.t 14))]
def c62r5 : List AStm := [.op (some 15) none (.mv (.t 6)),
    .op (some 16) none (.bin .gtr (.t 15) (.c (.int .i64 0)))]
def c62r6 : List AStm := [.op (some 19) none (.mv (.t 5)),
    .op (some 20) none (.bin .mul (.t 19) (.c (.int .i64 2))),
    .op (some 5) none (.mv (.t 20))]
def c62r7 : List AStm := [.op (some 17) none (.mv (.t 6)),
    .op (some 18) none (.bin .sub (.t 17) (.c (.int .i64 1))),
    .op (some 6) none (.mv (.t 18))]
def c62l8 : AC := .seq (.seq (.reg c62r5) (.cond (.t 16) (.skip) (.exit 0))) (.seq (.block 1 (.reg c62r6)) (.reg c62r7))
def c62r9 : List AStm := [.op (some 21) none (.mv (.t 1)),
    .op (some 22) none (.bin .quo (.t 21) (.c (.int .i64 8))),
    .op (some 23) none (.mv (.t 1)),
    .op (some 24) none (.bin .quo (.t 23) (.c (.int .i64 8))),
    .op (some 25) none (.ixa 16 1 (.t 2) (.t 24)),
    .op (some 26) none (.load none (.t 25)),
    .op (some 27) none (.conv .i64 (.t 26)),
    .op (some 28) none (.mv (.t 5)),
    .op (some 29) none (.bin .add (.t 27) (.t 28)),
    .op (some 30) none (.conv .u8 (.t 29)),
    .op (some 31) none (.ixa 16 1 (.t 2) (.t 22)),
    .op none none (.store 1 (.t 31) (.t 30))]
def c62r10 : List AStm := [.op (some 32) none (.load (some 16) (.t 2)),
    .op none none (.store 16 (.t 4) (.t 32))]
def c62 : CF := ⟨.seq (.reg c62r0) (.seq (.seq (.reg c62r1) (.cond (.t 10) (.seq (.reg c62r2) (.ret)) (.skip))) (.seq (.reg c62r3) (.seq (.seq (.reg c62r4) (.block 0 (.loop c62l8))) (.seq (.reg c62r9) (.seq (.reg c62r10) (.ret)))))), [.cell 4 (some 16)], 33⟩
theorem cf62 : cfun Try.prog 62 = some c62 := by kernel_rfl

/-! ### weighbridge/weighbridgeref07.front, params 2 -/
def c59r0 : List AStm := [.op (some 2) none (.box (.t 0)),
    .op (some 4) none (.alloc (List.replicate 16 (.int .u8 0)))]
def c59r1 : List AStm := [.op (some 5) none (.alloc (List.replicate 16 (.int .u8 0)))]
def c59r2 : List AStm := [.op (some 6) none (.mv (.c (.int .i64 0)))]
def c59r3 : List AStm := [.op (some 7) none (.mv (.t 6)),
    .op (some 8) none (.mv (.t 1)),
    .op (some 9) none (.bin .lss (.t 7) (.t 8))]
def c59r4 : List AStm := [.op (some 12) none (.load (some 16) (.t 2)),
    .op (some 13) none (.mv (.t 6)),
    .call (some 14) none (.c (.fn (.func 83) [] [])) [(.t 12), (.t 13)],
    .op (some 15) none (.bin .eql (.t 14) (.c (.int .i64 1)))]
def c59r5 : List AStm := [.op (some 16) none (.load (some 16) (.t 5)),
    .op (some 17) none (.mv (.t 6)),
    .call (some 18) none (.c (.fn (.func 62) [] [])) [(.t 16), (.t 17)],
    .op none none (.store 16 (.t 5) (.t 18))]
def c59r6 : List AStm := [.op (some 10) none (.mv (.t 6)),
    .op (some 11) none (.bin .add (.t 10) (.c (.int .i64 1))),
    .op (some 6) none (.mv (.t 11))]
def c59l7 : AC := .seq (.seq (.reg c59r3) (.cond (.t 9) (.skip) (.exit 0))) (.seq (.block 1 (.seq (.reg c59r4) (.cond (.t 15) (.reg c59r5) (.skip)))) (.reg c59r6))
def c59r8 : List AStm := [.op (some 19) none (.load (some 16) (.t 5)),
    .op none none (.store 16 (.t 4) (.t 19))]
def c59 : CF := ⟨.seq (.reg c59r0) (.seq (.reg c59r1) (.seq (.seq (.reg c59r2) (.block 0 (.loop c59l7))) (.seq (.reg c59r8) (.ret)))), [.cell 4 (some 16)], 20⟩
theorem cf59 : cfun Try.prog 59 = some c59 := by kernel_rfl

/-! ### weighbridge/weighbridgeref07.Check, params 1 -/
def c23r0 : List AStm := [.op (some 1) none (.box (.t 0)),
    .op (some 2) none (.mv (.c (.int .i64 0)))]
def c23r1 : List AStm := [.op (some 3) none (.faddr 0 (.t 1)),
    .op (some 4) none (.load none (.t 3)),
    .call (some 5) none (.c (.fn (.func 58) [] [])) [(.t 4)],
    .op (some 6) none (.bin .lss (.t 5) (.c (.int .i64 0)))]
def c23r2 : List AStm := [.op (some 2) none (.mv (.c (.int .i64 4)))]
def c23r3 : List AStm := []
def c23r4 : List AStm := [.op (some 7) none (.faddr 17 (.t 1)),
    .op (some 8) none (.load none (.t 7)),
    .op (some 9) none (.bin .lss (.t 8) (.c (.int .i64 0))),
    .op (some 10) none (.mv (.t 9)),
    .op (some 11) (some (10, false)) (.faddr 17 (.t 1)),
    .op (some 12) (some (10, false)) (.load none (.t 11)),
    .op (some 13) (some (10, false)) (.faddr 0 (.t 1)),
    .op (some 14) (some (10, false)) (.load none (.t 13)),
    .callG (some 15) (some (10, false)) (.c (.fn (.func 58) [] [])) [(.t 14)],
    .op (some 16) (some (10, false)) (.bin .gtr (.t 12) (.t 15)),
    .op (some 17) none (.pick (.t 10) (.c (.bool true)) (.t 16))]
def c23r5 : List AStm := [.op (some 2) none (.mv (.c (.int .i64 1)))]
def c23r6 : List AStm := []
def c23r7 : List AStm := [.op (some 18) none (.faddr 1 (.t 1)),
    .op (some 19) none (.load (some 16) (.t 18)),
    .op (some 20) none (.faddr 17 (.t 1)),
    .op (some 21) none (.load none (.t 20)),
    .op (some 23) none (.faddr 1 (.t 1)),
    .op (some 24) none (.load (some 16) (.t 23)),
    .callG (some 22) none (.c (.fn (.func 59) [] [])) [(.t 19), (.t 21)],
    .op (some 25) none (.eqa true (List.replicate 16 .ki) (.t 22) (.t 24))]
def c23r8 : List AStm := [.op (some 2) none (.mv (.c (.int .i64 5)))]
def c23r9 : List AStm := [.op (some 2) none (.mv (.c (.int .i64 0)))]
def c23 : CF := ⟨.seq (.reg c23r0) (.seq (.seq (.reg c23r1) (.cond (.t 6) (.seq (.reg c23r2) (.ret)) (.skip))) (.seq (.seq (.dreg c23r3 c23r4) (.cond (.t 17) (.seq (.reg c23r5) (.ret)) (.skip))) (.seq (.seq (.dreg c23r6 c23r7) (.cond (.t 25) (.seq (.reg c23r8) (.ret)) (.skip))) (.seq (.reg c23r9) (.ret))))), [.tmp 2], 26⟩
theorem cf23 : cfun Try.prog 23 = some c23 := by kernel_rfl

/-! ### weighbridge/weighbridgeref07.Has, params 3 -/
def c28r0 : List AStm := [.op (some 3) none (.box (.t 0)),
    .op (some 5) none (.box (.t 2)),
    .op (some 6) none (.mv (.c (.bool false)))]
def c28r1 : List AStm := []
def c28r2 : List AStm := [.op (some 7) none (.load (some 18) (.t 3)),
    .callG (some 8) none (.c (.fn (.func 23) [] [])) [(.t 7)],
    .op (some 9) none (.bin .eql (.t 8) (.c (.int .i64 0))),
    .op (some 10) none (.mv (.t 9)),
    .op (some 11) (some (10, true)) (.mv (.t 1)),
    .op (some 12) (some (10, true)) (.faddr 0 (.t 3)),
    .op (some 13) (some (10, true)) (.load none (.t 12)),
    .op (some 14) (some (10, true)) (.bin .eql (.t 11) (.t 13)),
    .op (some 15) none (.pick (.t 10) (.t 14) (.c (.bool false))),
    .op (some 16) none (.mv (.t 15)),
    .op (some 17) (some (16, true)) (.load (some 16) (.t 5)),
    .op (some 18) (some (16, true)) (.faddr 17 (.t 3)),
    .op (some 19) (some (16, true)) (.load none (.t 18)),
    .op (some 21) (some (16, true)) (.faddr 1 (.t 3)),
    .op (some 22) (some (16, true)) (.load (some 16) (.t 21)),
    .callG (some 20) (some (16, true)) (.c (.fn (.func 59) [] [])) [(.t 17), (.t 19)],
    .op (some 23) (some (16, true)) (.eqa false (List.replicate 16 .ki) (.t 20) (.t 22)),
    .op (some 24) none (.pick (.t 16) (.t 23) (.c (.bool false))),
    .op (some 6) none (.mv (.t 24))]
def c28 : CF := ⟨.seq (.reg c28r0) (.seq (.dreg c28r1 c28r2) (.ret)), [.tmp 6], 25⟩
theorem cf28 : cfun Try.prog 28 = some c28 := by kernel_rfl

/-! ### weighbridge/weighbridgeref07.Make, params 3 -/
def c18r0 : List AStm := [.op (some 4) none (.box (.t 1)),
    .op (some 6) none (.alloc [(.int .i64 0), (.int .u8 0), (.int .u8 0), (.int .u8 0), (.int .u8 0), (.int .u8 0), (.int .u8 0), (.int .u8 0), (.int .u8 0), (.int .u8 0), (.int .u8 0), (.int .u8 0), (.int .u8 0), (.int .u8 0), (.int .u8 0), (.int .u8 0), (.int .u8 0), (.int .i64 0)]),
    .op (some 7) none (.mv (.c (.int .i64 0)))]
def c18r1 : List AStm := [.op (some 8) none (.mv (.t 0)),
    .call (some 9) none (.c (.fn (.func 58) [] [])) [(.t 8)],
    .op (some 10) none (.bin .lss (.t 9) (.c (.int .i64 0)))]
def c18r2 : List AStm := [.op (some 11) none (.build [(.int .i64 0), (.int .u8 0), (.int .u8 0), (.int .u8 0), (.int .u8 0), (.int .u8 0), (.int .u8 0), (.int .u8 0), (.int .u8 0), (.int .u8 0), (.int .u8 0), (.int .u8 0), (.int .u8 0), (.int .u8 0), (.int .u8 0), (.int .u8 0), (.int .u8 0), (.int .i64 0)] []),
    .op none none (.store 18 (.t 6) (.t 11)),
    .op (some 7) none (.mv (.c (.int .i64 4)))]
def c18r3 : List AStm := [.op (some 12) none (.mv (.t 2)),
    .op (some 13) none (.bin .lss (.t 12) (.c (.int .i64 0))),
    .op (some 14) none (.mv (.t 13)),
    .op (some 15) (some (14, false)) (.mv (.t 2)),
    .op (some 16) (some (14, false)) (.mv (.t 0)),
    .call (some 17) (some (14, false)) (.c (.fn (.func 58) [] [])) [(.t 16)],
    .op (some 18) (some (14, false)) (.bin .gtr (.t 15) (.t 17)),
    .op (some 19) none (.pick (.t 14) (.c (.bool true)) (.t 18))]
def c18r4 : List AStm := [.op (some 20) none (.build [(.int .i64 0), (.int .u8 0), (.int .u8 0), (.int .u8 0), (.int .u8 0), (.int .u8 0), (.int .u8 0), (.int .u8 0), (.int .u8 0), (.int .u8 0), (.int .u8 0), (.int .u8 0), (.int .u8 0), (.int .u8 0), (.int .u8 0), (.int .u8 0), (.int .u8 0), (.int .i64 0)] []),
    .op none none (.store 18 (.t 6) (.t 20)),
    .op (some 7) none (.mv (.c (.int .i64 1)))]
def c18r5 : List AStm := [.op (some 21) none (.mv (.t 0)),
    .op (some 22) none (.load (some 16) (.t 4)),
    .op (some 23) none (.mv (.t 2)),
    .call (some 24) none (.c (.fn (.func 59) [] [])) [(.t 22), (.t 23)],
    .op (some 25) none (.mv (.t 2)),
    .op (some 26) none (.build [(.int .i64 0), (.int .u8 0), (.int .u8 0), (.int .u8 0), (.int .u8 0), (.int .u8 0), (.int .u8 0), (.int .u8 0), (.int .u8 0), (.int .u8 0), (.int .u8 0), (.int .u8 0), (.int .u8 0), (.int .u8 0), (.int .u8 0), (.int .u8 0), (.int .u8 0), (.int .i64 0)] [(0, 1, (.t 21)), (1, 16, (.t 24)), (17, 1, (.t 25))]),
    .op none none (.store 18 (.t 6) (.t 26)),
    .op (some 7) none (.mv (.c (.int .i64 0)))]
def c18 : CF := ⟨.seq (.reg c18r0) (.seq (.seq (.reg c18r1) (.cond (.t 10) (.seq (.reg c18r2) (.ret)) (.skip))) (.seq (.seq (.reg c18r3) (.cond (.t 19) (.seq (.reg c18r4) (.ret)) (.skip))) (.seq (.reg c18r5) (.ret)))), [.cell 6 (some 18), .tmp 7], 27⟩
theorem cf18 : cfun Try.prog 18 = some c18 := by kernel_rfl



def mostR (v : Int) : Int := match mostF v with | some m => (m : Int) | none => -1
theorem rmost_fc (h : Heap) (v : Int) : FC Try.prog 58 [.int .i64 v] h fun d h' => d = .int .i64 (mostR v) ∧ h' = h := by
  refine FC.goes cf58 ?_; simp only [c58]; simp only [List.length_cons, List.length_nil, Nat.reduceAdd, Nat.reduceSub, List.replicate_succ, List.replicate_zero, List.cons_append, List.nil_append]
  by_cases h4 : v = 4
  · subst h4
    simp (disch := first | omega | (simp only [List.length_append, List.length_cons, List.length_nil]; omega)) only [c58r0, c58r1, c58r2, c58r3, c58r4, c58r5, go_sem, fill_c, ↓reduceIte, reduceCtorEq, Nat.reduceAdd, Nat.reduceSub, Nat.reducePow, Nat.reduceMul, Nat.reduceEqDiff, Nat.reduceLT, Nat.reduceLeDiff, Int.reduceToNat, Int.reduceLT, Int.reduceLE, Int.reduceEq, Int.reduceNeg, Int.reduceAdd, Int.reduceSub, Int.reduceMul]
    exact FinOk.all ⟨rfl, rfl⟩
  · by_cases h6 : v = 6
    · subst h6
      simp (disch := first | omega | (simp only [List.length_append, List.length_cons, List.length_nil]; omega)) only [c58r0, c58r1, c58r2, c58r3, c58r4, c58r5, go_sem, fill_c, ↓reduceIte, reduceCtorEq, Nat.reduceAdd, Nat.reduceSub, Nat.reducePow, Nat.reduceMul, Nat.reduceEqDiff, Nat.reduceLT, Nat.reduceLeDiff, Int.reduceToNat, Int.reduceLT, Int.reduceLE, Int.reduceEq, Int.reduceNeg, Int.reduceAdd, Int.reduceSub, Int.reduceMul]
      exact FinOk.all ⟨rfl, rfl⟩
    · have e1 : mostF v = none := by simp [mostF, h4, h6]
      have e2 : mostR v = -1 := by rw [mostR, e1]
      rw [e2]
      simp (disch := first | omega | (simp only [List.length_append, List.length_cons, List.length_nil]; omega)) only [c58r0, c58r1, c58r2, c58r3, c58r4, c58r5, h4, h6, go_sem, fill_c, ↓reduceIte, reduceCtorEq, Nat.reduceAdd, Nat.reduceSub, Nat.reducePow, Nat.reduceMul, Nat.reduceEqDiff, Nat.reduceLT, Nat.reduceLeDiff, Int.reduceToNat, Int.reduceLT, Int.reduceLE, Int.reduceEq, Int.reduceNeg, Int.reduceAdd, Int.reduceSub, Int.reduceMul]
      exact FinOk.all ⟨rfl, rfl⟩

def bitN (a : List UInt8) (i : Nat) : Nat := (a.getD (i / 8) 0).toNat / 2 ^ (7 - i % 8) % 2
theorem bitN_eq (a : List UInt8) (i : Nat) : bitN a i = if abit a i then 1 else 0 := by
  unfold bitN abit
  rw [Nat.testBit_eq_decide_div_mod_eq]
  have h := Nat.mod_two_eq_zero_or_one ((a.getD (i / 8) 0).toNat / 2 ^ (7 - i % 8))
  generalize (a.getD (i / 8) 0).toNat / 2 ^ (7 - i % 8) % 2 = q at *
  rcases h with rfl | rfl <;> rfl
theorem byte_at {a : List UInt8} (ha : a.length = 16) {k : Nat} (hk : k < 16) : (List.drop k (ofBytes a))[0]? = some (.int .u8 ((a.getD k 0).toNat : Int)) := by
  rw [List.getElem?_drop, Nat.add_zero, ofBytes_get, getB (by omega)]; rfl
theorem rbit_fc (h : Heap) (a : List UInt8) (ha : a.length = 16) (i : Nat) (hi : i < 128) : FC Try.prog 83 [.agg (ofBytes a), .int .i64 (i : Int)] h fun d h' => d = .int .i64 ((bitN a i : Nat) : Int) ∧ h' = h := by
  refine FC.goes cf83 ?_; simp only [c83]; simp only [List.length_cons, List.length_nil, Nat.reduceAdd, Nat.reduceSub, List.replicate_succ, List.replicate_zero, List.cons_append, List.nil_append]
  have e1 : IntKind.i64.wrap ((i / 8 : Nat) : Int) = ((i / 8 : Nat) : Int) := w_i64 (by omega) (by omega)
  have e2 : IntKind.i64.wrap ((i % 8 : Nat) : Int) = ((i % 8 : Nat) : Int) := w_i64 (by omega) (by omega)
  have e3 : IntKind.i64.wrap (7 - ((i % 8 : Nat) : Int)) = ((7 - i % 8 : Nat) : Int) := by rw [w_i64 (by omega) (by omega)]; omega
  have hi8 : i / 8 < 16 := by omega
  have hg := byte_at ha hi8
  have hb := (a.getD (i / 8) 0).toNat_lt
  have hbn : bitN a i = (a.getD (i / 8) 0).toNat / 2 ^ (7 - i % 8) % 2 := rfl
  have hal : (ofBytes a).length = 16 := by rw [ofBytes_length, ha]
  rw [hbn]
  generalize a.getD (i / 8) 0 = b at *
  have e4 : IntKind.i64.wrap (b.toNat : Int) = (b.toNat : Int) := w_i64 (by omega) (by omega)
  simp (disch := first | omega | (simp only [List.length_append, List.length_cons, List.length_nil]; omega)) only [c83r0, c83r1, c83r2, c83r3, c83r4, c83r5, c83l6, c83r7, e1, e2, e3, e4, hg, hal, go_sem, fill_c, ↓reduceIte, reduceCtorEq, Nat.reduceAdd, Nat.reduceSub, Nat.reducePow, Nat.reduceMul, Nat.reduceEqDiff, Nat.reduceLT, Nat.reduceLeDiff, Int.reduceToNat, Int.reduceLT, Int.reduceLE, Int.reduceEq, Int.reduceNeg, Int.reduceAdd, Int.reduceSub, Int.reduceMul]
  have hs : 7 - i % 8 ≤ 7 := by omega
  generalize 7 - i % 8 = s at *
  refine loop_to s (fun k st => ∃ (v q : Nat), v = b.toNat / 2 ^ k ∧ q + k = s ∧ ∃ (j : Nat → D), st = ⟨(j 0 :: j 1 :: j 2 :: j 3 :: j 4 :: .int .i64 (v : Int) :: .int .i64 (q : Int) :: j 7 :: j 8 :: j 9 :: j 10 :: j 11 :: j 12 :: j 13 :: j 14 :: j 15 :: j 16 :: j 17 :: j 18 :: j 19 :: j 20 :: j 21 :: j 22 :: []), h ++ [.box (ofBytes a)]⟩) ⟨_, s, by simp, by omega, junk rfl⟩ ?_
  rintro k st hk ⟨v, q, hv, hq, j, rfl⟩
  have hvl : v ≤ b.toNat := by rw [hv]; exact Nat.div_le_self _ _
  by_cases hks : k < s
  · have h0 : (0 : Int) < q := by omega
    have f1 : IntKind.i64.wrap ((v / 2 : Nat) : Int) = ((v / 2 : Nat) : Int) := w_i64 (by omega) (by omega)
    have f2 : IntKind.i64.wrap ((q : Int) - 1) = ((q - 1 : Nat) : Int) := by rw [w_i64 (by omega) (by omega)]; omega
    simp (disch := first | omega | (simp only [List.length_append, List.length_cons, List.length_nil]; omega)) only [c83r0, c83r1, c83r2, c83r3, c83r4, c83r5, c83l6, c83r7, h0, f1, f2, go_sem, fill_c, ↓reduceIte, reduceCtorEq, Nat.reduceAdd, Nat.reduceSub, Nat.reducePow, Nat.reduceMul, Nat.reduceEqDiff, Nat.reduceLT, Nat.reduceLeDiff, Int.reduceToNat, Int.reduceLT, Int.reduceLE, Int.reduceEq, Int.reduceNeg, Int.reduceAdd, Int.reduceSub, Int.reduceMul]
    refine ⟨hks, v / 2, q - 1, ?_, by omega, junk rfl⟩
    rw [hv, Nat.pow_succ, Nat.div_div_eq_div_mul]
  · have h0 : ¬ (0 : Int) < q := by omega
    have : k = s := by omega
    subst this
    have f1 : IntKind.i64.wrap ((v % 2 : Nat) : Int) = ((v % 2 : Nat) : Int) := w_i64 (by omega) (by omega)
    simp (disch := first | omega | (simp only [List.length_append, List.length_cons, List.length_nil]; omega)) only [c83r0, c83r1, c83r2, c83r3, c83r4, c83r5, c83l6, c83r7, h0, f1, go_sem, fill_c, ↓reduceIte, reduceCtorEq, Nat.reduceAdd, Nat.reduceSub, Nat.reducePow, Nat.reduceMul, Nat.reduceEqDiff, Nat.reduceLT, Nat.reduceLeDiff, Int.reduceToNat, Int.reduceLT, Int.reduceLE, Int.reduceEq, Int.reduceNeg, Int.reduceAdd, Int.reduceSub, Int.reduceMul]
    rw [hv]
    exact FinOk.drop (.inl rfl) (by simp [underL, underD]) ⟨rfl, rfl⟩

theorem or_add8 : ∀ (x : Fin 256) (s : Fin 8), x.val / 2 ^ s.val % 2 = 0 → x.val + 2 ^ s.val = x.val ||| 2 ^ s.val := by decide +kernel
theorem or_same8 : ∀ (x : Fin 256) (s : Fin 8), ¬ x.val / 2 ^ s.val % 2 = 0 → x.val ||| 2 ^ s.val = x.val := by decide +kernel
theorem setA_same {a : List UInt8} {i : Nat} (h : bitN a i = 1) : setA a i = a := by
  have hb := (a.getD (i / 8) 0).toNat_lt
  have h1 : (a.getD (i / 8) 0).toNat / 2 ^ (7 - i % 8) % 2 = 1 := h
  have h2 := or_same8 ⟨(a.getD (i / 8) 0).toNat, hb⟩ ⟨7 - i % 8, by omega⟩ (by simp only; omega)
  simp only at h2
  unfold setA
  rw [h2]
  refine bytes_ext (by simp) fun k hk => ?_
  rw [getD_set8]
  split
  · rename_i hc
    obtain ⟨rfl, _⟩ := hc
    apply UInt8.toNat_inj.1
    exact UInt8.toNat_ofNat_of_lt' hb
  · rfl
theorem set_fcR (h : Heap) (a : List UInt8) (ha : a.length = 16) (i : Nat) (hi : i < 128) : FC Try.prog 62 [.agg (ofBytes a), .int .i64 (i : Int)] h fun d h' => d = .agg (ofBytes (setA a i)) ∧ h' = h := by
  have hal : (ofBytes a).length = 16 := by rw [ofBytes_length, ha]
  have p7 : List.take 16 (ofBytes a) = ofBytes a := List.take_of_length_le (by omega)
  refine FC.goes cf62 ?_; simp only [c62]; simp only [List.length_cons, List.length_nil, Nat.reduceAdd, Nat.reduceSub, List.replicate_succ, List.replicate_zero, List.cons_append, List.nil_append]
  simp (disch := first | omega | (simp only [List.length_append, List.length_cons, List.length_nil]; omega)) only [c62r0, c62r1, c62r2, c62r3, c62r4, c62r5, c62r6, c62r7, c62l8, c62r9, c62r10, p7, hal, go_sem, fill_c, ↓reduceIte, reduceCtorEq, Nat.reduceAdd, Nat.reduceSub, Nat.reducePow, Nat.reduceMul, Nat.reduceEqDiff, Nat.reduceLT, Nat.reduceLeDiff, Int.reduceToNat, Int.reduceLT, Int.reduceLE, Int.reduceEq, Int.reduceNeg, Int.reduceAdd, Int.reduceSub, Int.reduceMul]
  refine gfc_of (rbit_fc _ a ha i hi) ?_
  rintro d h' ⟨rfl, e⟩
  rw [e]
  by_cases hb1 : bitN a i = 1
  · rw [hb1, setA_same hb1]
    simp (disch := first | omega | (simp only [List.length_append, List.length_cons, List.length_nil]; omega)) only [p7, hal, go_sem, fill_c, ↓reduceIte, reduceCtorEq, Nat.reduceAdd, Nat.reduceSub, Nat.reducePow, Nat.reduceMul, Nat.reduceEqDiff, Nat.reduceLT, Nat.reduceLeDiff, Int.reduceToNat, Int.reduceLT, Int.reduceLE, Int.reduceEq, Int.reduceNeg, Int.reduceAdd, Int.reduceSub, Int.reduceMul]
    exact FinOk.drop (.inl rfl) (by simp [underL, underD, under_bytes]) ⟨rfl, rfl⟩
  · have hb1' : ¬ ((bitN a i : Nat) : Int) = 1 := by omega
    have e1 : IntKind.i64.wrap ((i / 8 : Nat) : Int) = ((i / 8 : Nat) : Int) := w_i64 (by omega) (by omega)
    have e2 : IntKind.i64.wrap ((i % 8 : Nat) : Int) = ((i % 8 : Nat) : Int) := w_i64 (by omega) (by omega)
    have e3 : IntKind.i64.wrap (7 - ((i % 8 : Nat) : Int)) = ((7 - i % 8 : Nat) : Int) := by rw [w_i64 (by omega) (by omega)]; omega
    simp (disch := first | omega | (simp only [List.length_append, List.length_cons, List.length_nil]; omega)) only [hb1', e1, e2, e3, go_sem, fill_c, ↓reduceIte, reduceCtorEq, Nat.reduceAdd, Nat.reduceSub, Nat.reducePow, Nat.reduceMul, Nat.reduceEqDiff, Nat.reduceLT, Nat.reduceLeDiff, Int.reduceToNat, Int.reduceLT, Int.reduceLE, Int.reduceEq, Int.reduceNeg, Int.reduceAdd, Int.reduceSub, Int.reduceMul]
    have hi8 : i / 8 < 16 := by omega
    have hg := byte_at ha hi8
    have hb := (a.getD (i / 8) 0).toNat_lt
    have hbn : bitN a i = (a.getD (i / 8) 0).toNat / 2 ^ (7 - i % 8) % 2 := rfl
    have h2 := or_add8 ⟨(a.getD (i / 8) 0).toNat, hb⟩ ⟨7 - i % 8, by omega⟩ (by simp only; omega)
    simp only at h2
    have hsA : setA a i = a.set (i / 8) (UInt8.ofNat ((a.getD (i / 8) 0).toNat ||| 2 ^ (7 - i % 8))) := rfl
    have hol := or_lt (a.getD (i / 8) 0) (s := 7 - i % 8) (by omega)
    have hbt : (UInt8.ofNat ((a.getD (i / 8) 0).toNat ||| 2 ^ (7 - i % 8))).toNat = (a.getD (i / 8) 0).toNat ||| 2 ^ (7 - i % 8) := UInt8.toNat_ofNat_of_lt' hol
    have hs : 7 - i % 8 ≤ 7 := by omega
    generalize 7 - i % 8 = s at *
    generalize a.getD (i / 8) 0 = b at *
    refine loop_to s (fun k st => ∃ (q : Nat), q + k = s ∧ ∃ (j : Nat → D), st = ⟨(j 0 :: .int .i64 (i : Int) :: .ref h.length 0 :: j 3 :: .ref (h.length + 1) 0 :: .int .i64 ((2 ^ k : Nat) : Int) :: .int .i64 (q : Int) :: j 7 :: j 8 :: j 9 :: j 10 :: j 11 :: j 12 :: j 13 :: j 14 :: j 15 :: j 16 :: j 17 :: j 18 :: j 19 :: j 20 :: j 21 :: j 22 :: j 23 :: j 24 :: j 25 :: j 26 :: j 27 :: j 28 :: j 29 :: j 30 :: j 31 :: j 32 :: []), h ++ [.box (ofBytes a), .box (List.replicate 16 (.int .u8 0))]⟩) ⟨s, by omega, junk rfl⟩ ?_
    rintro k st hk ⟨q, hq, j, rfl⟩
    have hpk : 2 ^ k ≤ 128 := Nat.le_trans (Nat.pow_le_pow_right (n := 2) (by omega) (by omega : k ≤ 7)) (by decide)
    by_cases hks : k < s
    · have h0 : (0 : Int) < q := by omega
      have f1 : IntKind.i64.wrap (((2 ^ k : Nat) : Int) * 2) = ((2 ^ (k + 1) : Nat) : Int) := by
        rw [Nat.pow_succ]
        generalize 2 ^ k = x at hpk ⊢
        rw [w_i64 (by omega) (by omega)]; omega
      have f2 : IntKind.i64.wrap ((q : Int) - 1) = ((q - 1 : Nat) : Int) := by rw [w_i64 (by omega) (by omega)]; omega
      simp (disch := first | omega | (simp only [List.length_append, List.length_cons, List.length_nil]; omega)) only [c62r0, c62r1, c62r2, c62r3, c62r4, c62r5, c62r6, c62r7, c62l8, c62r9, c62r10, h0, f1, f2, go_sem, fill_c, ↓reduceIte, reduceCtorEq, Nat.reduceAdd, Nat.reduceSub, Nat.reducePow, Nat.reduceMul, Nat.reduceEqDiff, Nat.reduceLT, Nat.reduceLeDiff, Int.reduceToNat, Int.reduceLT, Int.reduceLE, Int.reduceEq, Int.reduceNeg, Int.reduceAdd, Int.reduceSub, Int.reduceMul]
      exact ⟨hks, q - 1, by omega, junk rfl⟩
    · have h0 : ¬ (0 : Int) < q := by omega
      have : k = s := by omega
      subst this
      have f3 : IntKind.i64.wrap (b.toNat : Int) = (b.toNat : Int) := w_i64 (by omega) (by omega)
      have f4 : IntKind.i64.wrap ((b.toNat : Int) + ((2 ^ k : Nat) : Int)) = ((b.toNat ||| 2 ^ k : Nat) : Int) := by rw [← h2, w_i64 (by omega) (by omega)]; omega
      have f5 : IntKind.u8.wrap ((b.toNat ||| 2 ^ k : Nat) : Int) = ((b.toNat ||| 2 ^ k : Nat) : Int) := w_u8 (by omega) (by omega)
      have hput := ofBytes_put a (i / 8) (UInt8.ofNat (b.toNat ||| 2 ^ k))
      rw [hbt, ← hsA] at hput
      have p8 : List.take 16 (ofBytes (setA a i)) = ofBytes (setA a i) := List.take_of_length_le (by rw [ofBytes_length, setA_length, ha]; exact Nat.le_refl _)
      have hsl : (ofBytes (setA a i)).length = 16 := by rw [ofBytes_length, setA_length, ha]
      have hput' := hput.symm
      simp (disch := first | omega | (simp only [List.length_append, List.length_cons, List.length_nil]; omega)) only [c62r0, c62r1, c62r2, c62r3, c62r4, c62r5, c62r6, c62r7, c62l8, c62r9, c62r10, h0, e1, hg, hal, f3, f4, f5, hput', p8, hsl, go_sem, fill_c, ↓reduceIte, reduceCtorEq, Nat.reduceAdd, Nat.reduceSub, Nat.reducePow, Nat.reduceMul, Nat.reduceEqDiff, Nat.reduceLT, Nat.reduceLeDiff, Int.reduceToNat, Int.reduceLT, Int.reduceLE, Int.reduceEq, Int.reduceNeg, Int.reduceAdd, Int.reduceSub, Int.reduceMul]
      exact FinOk.drop (.inl rfl) (by simp [underL, underD, under_bytes]) ⟨rfl, rfl⟩

theorem rfront_fc (h : Heap) (a : List UInt8) (ha : a.length = 16) (n : Nat) (hn : n ≤ 128) : FC Try.prog 59 [.agg (ofBytes a), .int .i64 (n : Int)] h fun d h' => d = .agg (ofBytes (frontTo a n)) ∧ h' = h := by
  have hal : (ofBytes a).length = 16 := by rw [ofBytes_length, ha]
  have p7 : List.take 16 (ofBytes a) = ofBytes a := List.take_of_length_le (by omega)
  have hz : List.replicate 16 (D.int .u8 0) = ofBytes (frontTo a 0) := rfl
  refine FC.goes cf59 ?_; simp only [c59]; simp only [List.length_cons, List.length_nil, Nat.reduceAdd, Nat.reduceSub, List.replicate_succ, List.replicate_zero, List.cons_append, List.nil_append]
  simp (disch := first | omega | (simp only [List.length_append, List.length_cons, List.length_nil]; omega)) only [c59r0, c59r1, c59r2, c59r3, c59r4, c59r5, c59r6, c59l7, c59r8, go_sem, fill_c, ↓reduceIte, reduceCtorEq, Nat.reduceAdd, Nat.reduceSub, Nat.reducePow, Nat.reduceMul, Nat.reduceEqDiff, Nat.reduceLT, Nat.reduceLeDiff, Int.reduceToNat, Int.reduceLT, Int.reduceLE, Int.reduceEq, Int.reduceNeg, Int.reduceAdd, Int.reduceSub, Int.reduceMul]
  refine loop_to n (fun k st => ∃ (j : Nat → D), st = ⟨(j 0 :: .int .i64 (n : Int) :: .ref h.length 0 :: j 3 :: .ref (h.length + 1) 0 :: .ref (h.length + 2) 0 :: .int .i64 (k : Int) :: j 7 :: j 8 :: j 9 :: j 10 :: j 11 :: j 12 :: j 13 :: j 14 :: j 15 :: j 16 :: j 17 :: j 18 :: j 19 :: []), h ++ [.box (ofBytes a), .box (List.replicate 16 (.int .u8 0)), .box (ofBytes (frontTo a k))]⟩) (by rw [← hz]; exact junk rfl) ?_
  rintro k st hk ⟨j, rfl⟩
  have hfl := frontTo_length a k
  have hfl2 : (ofBytes (frontTo a k)).length = 16 := by rw [ofBytes_length, hfl]
  have p8 : List.take 16 (ofBytes (frontTo a k)) = ofBytes (frontTo a k) := List.take_of_length_le (by omega)
  by_cases hkn : k < n
  · have hkn' : (k : Int) < n := by omega
    have e5 : IntKind.i64.wrap ((k : Int) + 1) = ((k + 1 : Nat) : Int) := by rw [w_i64 (by omega) (by omega)]; omega
    have hstep : frontTo a (k + 1) = if abit a k then setA (frontTo a k) k else frontTo a k := rfl
    simp (disch := first | omega | (simp only [List.length_append, List.length_cons, List.length_nil]; omega)) only [c59r0, c59r1, c59r2, c59r3, c59r4, c59r5, c59r6, c59l7, c59r8, hkn', p7, hal, go_sem, fill_c, ↓reduceIte, reduceCtorEq, Nat.reduceAdd, Nat.reduceSub, Nat.reducePow, Nat.reduceMul, Nat.reduceEqDiff, Nat.reduceLT, Nat.reduceLeDiff, Int.reduceToNat, Int.reduceLT, Int.reduceLE, Int.reduceEq, Int.reduceNeg, Int.reduceAdd, Int.reduceSub, Int.reduceMul]
    refine gfc_of (rbit_fc _ a ha k (by omega)) ?_
    rintro d h' ⟨rfl, e⟩
    rw [e]
    by_cases hb : abit a k = true
    · have hbn : bitN a k = 1 := by rw [bitN_eq, hb]; rfl
      rw [hbn]
      simp (disch := first | omega | (simp only [List.length_append, List.length_cons, List.length_nil]; omega)) only [p8, hfl2, go_sem, fill_c, ↓reduceIte, reduceCtorEq, Nat.reduceAdd, Nat.reduceSub, Nat.reducePow, Nat.reduceMul, Nat.reduceEqDiff, Nat.reduceLT, Nat.reduceLeDiff, Int.reduceToNat, Int.reduceLT, Int.reduceLE, Int.reduceEq, Int.reduceNeg, Int.reduceAdd, Int.reduceSub, Int.reduceMul]
      refine gfc_of (set_fcR _ _ hfl k (by omega)) ?_
      rintro d h' ⟨rfl, e⟩
      rw [e]
      have hsl : (ofBytes (setA (frontTo a k) k)).length = 16 := by rw [ofBytes_length, setA_length, hfl]
      have p9 : List.take 16 (ofBytes (setA (frontTo a k) k)) = ofBytes (setA (frontTo a k) k) := List.take_of_length_le (by omega)
      simp (disch := first | omega | (simp only [List.length_append, List.length_cons, List.length_nil]; omega)) only [hsl, hfl2, p9, e5, go_sem, fill_c, ↓reduceIte, reduceCtorEq, Nat.reduceAdd, Nat.reduceSub, Nat.reducePow, Nat.reduceMul, Nat.reduceEqDiff, Nat.reduceLT, Nat.reduceLeDiff, Int.reduceToNat, Int.reduceLT, Int.reduceLE, Int.reduceEq, Int.reduceNeg, Int.reduceAdd, Int.reduceSub, Int.reduceMul]
      refine ⟨hkn, ?_⟩
      rw [hstep, if_pos hb]
      exact junk rfl
    · have hbn : bitN a k = 0 := by rw [bitN_eq, if_neg hb]
      rw [hbn]
      simp (disch := first | omega | (simp only [List.length_append, List.length_cons, List.length_nil]; omega)) only [e5, go_sem, fill_c, ↓reduceIte, reduceCtorEq, Nat.reduceAdd, Nat.reduceSub, Nat.reducePow, Nat.reduceMul, Nat.reduceEqDiff, Nat.reduceLT, Nat.reduceLeDiff, Int.reduceToNat, Int.reduceLT, Int.reduceLE, Int.reduceEq, Int.reduceNeg, Int.reduceAdd, Int.reduceSub, Int.reduceMul]
      refine ⟨hkn, ?_⟩
      rw [hstep, if_neg hb]
      exact junk rfl
  · have hkn' : ¬ (k : Int) < n := by omega
    have : k = n := by omega
    subst this
    simp (disch := first | omega | (simp only [List.length_append, List.length_cons, List.length_nil]; omega)) only [c59r0, c59r1, c59r2, c59r3, c59r4, c59r5, c59r6, c59l7, c59r8, hkn', p8, hfl2, go_sem, fill_c, ↓reduceIte, reduceCtorEq, Nat.reduceAdd, Nat.reduceSub, Nat.reducePow, Nat.reduceMul, Nat.reduceEqDiff, Nat.reduceLT, Nat.reduceLeDiff, Int.reduceToNat, Int.reduceLT, Int.reduceLE, Int.reduceEq, Int.reduceNeg, Int.reduceAdd, Int.reduceSub, Int.reduceMul]
    exact FinOk.drop (.inl rfl) (by simp [underL, underD, under_bytes]) ⟨rfl, rfl⟩

theorem mostR_fits {v n : Int} : fitsF v n = if mostR v < 0 then 4 else if n < 0 ∨ mostR v < n then 1 else 0 := by
  unfold fitsF mostR
  cases mostF v with
  | none => rfl
  | some m =>
    have : ¬ (m : Int) < 0 := by omega
    simp only [this, if_false]
theorem rcheck_fc (h : Heap) (v n : Int) (a : List UInt8) (ha : a.length = 16) : FC Try.prog 23 [prefD v a n] h fun d h' => d = .int .i64 (checkF v a n) ∧ h' = h := by
  have p1 := pr_take ha [.int .i64 n]
  have p2 := pr_drop ha [.int .i64 n]
  have p3 := pr_len ha (.int .i64 n)
  have p4 := pr_one a n
  have hfit := mostR_fits (v := v) (n := n)
  refine FC.goes cf23 ?_; simp only [c23]; simp only [List.length_cons, List.length_nil, Nat.reduceAdd, Nat.reduceSub, List.replicate_succ, List.replicate_zero, List.cons_append, List.nil_append]
  simp (disch := first | omega | (simp only [List.length_append, List.length_cons, List.length_nil]; omega)) only [c23r0, c23r1, c23r2, c23r3, c23r4, c23r5, c23r6, c23r7, c23r8, c23r9, prefD, p2, p3, p4, go_sem, fill_c, ↓reduceIte, reduceCtorEq, Nat.reduceAdd, Nat.reduceSub, Nat.reducePow, Nat.reduceMul, Nat.reduceEqDiff, Nat.reduceLT, Nat.reduceLeDiff, Int.reduceToNat, Int.reduceLT, Int.reduceLE, Int.reduceEq, Int.reduceNeg, Int.reduceAdd, Int.reduceSub, Int.reduceMul]
  refine gfc_of (rmost_fc _ v) ?_
  rintro d h' ⟨rfl, e⟩
  rw [e]
  by_cases hm : mostR v < 0
  · rw [if_pos hm] at hfit
    have hc : checkF v a n = 4 := by simp [checkF, hfit]
    rw [hc]
    simp (disch := first | omega | (simp only [List.length_append, List.length_cons, List.length_nil]; omega)) only [hm, go_sem, fill_c, ↓reduceIte, reduceCtorEq, Nat.reduceAdd, Nat.reduceSub, Nat.reducePow, Nat.reduceMul, Nat.reduceEqDiff, Nat.reduceLT, Nat.reduceLeDiff, Int.reduceToNat, Int.reduceLT, Int.reduceLE, Int.reduceEq, Int.reduceNeg, Int.reduceAdd, Int.reduceSub, Int.reduceMul]
    exact FinOk.drop (.inl rfl) (by simp [underL, underD]) ⟨rfl, rfl⟩
  · rw [if_neg hm] at hfit
    by_cases h0 : n < 0
    · rw [if_pos (.inl h0)] at hfit
      have hc : checkF v a n = 1 := by simp [checkF, hfit]
      rw [hc]
      simp (disch := first | omega | (simp only [List.length_append, List.length_cons, List.length_nil]; omega)) only [hm, h0, p2, go_sem, fill_c, ↓reduceIte, reduceCtorEq, Nat.reduceAdd, Nat.reduceSub, Nat.reducePow, Nat.reduceMul, Nat.reduceEqDiff, Nat.reduceLT, Nat.reduceLeDiff, Int.reduceToNat, Int.reduceLT, Int.reduceLE, Int.reduceEq, Int.reduceNeg, Int.reduceAdd, Int.reduceSub, Int.reduceMul]
      exact FinOk.drop (.inl rfl) (by simp [underL, underD]) ⟨rfl, rfl⟩
    · simp (disch := first | omega | (simp only [List.length_append, List.length_cons, List.length_nil]; omega)) only [hm, h0, p2, go_sem, fill_c, ↓reduceIte, reduceCtorEq, Nat.reduceAdd, Nat.reduceSub, Nat.reducePow, Nat.reduceMul, Nat.reduceEqDiff, Nat.reduceLT, Nat.reduceLeDiff, Int.reduceToNat, Int.reduceLT, Int.reduceLE, Int.reduceEq, Int.reduceNeg, Int.reduceAdd, Int.reduceSub, Int.reduceMul]
      refine xfc_of (rmost_fc _ v) ?_
      rintro d h' ⟨rfl, e⟩
      refine ⟨⟨[], by rw [e, List.append_nil]⟩, ?_⟩
      rw [e]
      by_cases h1 : mostR v < n
      · rw [if_pos (.inr h1)] at hfit
        have hc : checkF v a n = 1 := by simp [checkF, hfit]
        rw [hc]
        simp (disch := first | omega | (simp only [List.length_append, List.length_cons, List.length_nil]; omega)) only [h1, go_sem, fill_c, ↓reduceIte, reduceCtorEq, Nat.reduceAdd, Nat.reduceSub, Nat.reducePow, Nat.reduceMul, Nat.reduceEqDiff, Nat.reduceLT, Nat.reduceLeDiff, Int.reduceToNat, Int.reduceLT, Int.reduceLE, Int.reduceEq, Int.reduceNeg, Int.reduceAdd, Int.reduceSub, Int.reduceMul]
        exact FinOk.drop (.inl rfl) (by simp [underL, underD]) ⟨rfl, rfl⟩
      · rw [if_neg (by omega)] at hfit
        have hc : checkF v a n = if frontTo a n.toNat = a then 0 else 5 := by simp [checkF, hfit]
        obtain ⟨g0, g1⟩ := checkF_le hfit
        obtain ⟨k, rfl⟩ := Int.eq_ofNat_of_zero_le g0
        rw [show ((k : Int)).toNat = k from rfl] at hc
        rw [hc]
        simp (disch := first | omega | (simp only [List.length_append, List.length_cons, List.length_nil]; omega)) only [h1, p1, p2, p3, go_sem, fill_c, ↓reduceIte, reduceCtorEq, Nat.reduceAdd, Nat.reduceSub, Nat.reducePow, Nat.reduceMul, Nat.reduceEqDiff, Nat.reduceLT, Nat.reduceLeDiff, Int.reduceToNat, Int.reduceLT, Int.reduceLE, Int.reduceEq, Int.reduceNeg, Int.reduceAdd, Int.reduceSub, Int.reduceMul]
        refine xfc_of (rfront_fc _ a ha k (by omega)) ?_
        rintro d h' ⟨rfl, e⟩
        refine ⟨⟨[], by rw [e, List.append_nil]⟩, ?_⟩
        rw [e]
        have hfl := frontTo_length a k
        by_cases he : frontTo a k = a
        · rw [he]
          simp (disch := first | omega | (simp only [List.length_append, List.length_cons, List.length_nil]; omega)) only [ha, go_sem, fill_c, ↓reduceIte, reduceCtorEq, Nat.reduceAdd, Nat.reduceSub, Nat.reducePow, Nat.reduceMul, Nat.reduceEqDiff, Nat.reduceLT, Nat.reduceLeDiff, Int.reduceToNat, Int.reduceLT, Int.reduceLE, Int.reduceEq, Int.reduceNeg, Int.reduceAdd, Int.reduceSub, Int.reduceMul]
          exact FinOk.drop (.inl rfl) (by simp [underL, underD]) ⟨rfl, rfl⟩
        · simp (disch := first | omega | (simp only [List.length_append, List.length_cons, List.length_nil]; omega)) only [he, hfl, ha, go_sem, fill_c, ↓reduceIte, reduceCtorEq, Nat.reduceAdd, Nat.reduceSub, Nat.reducePow, Nat.reduceMul, Nat.reduceEqDiff, Nat.reduceLT, Nat.reduceLeDiff, Int.reduceToNat, Int.reduceLT, Int.reduceLE, Int.reduceEq, Int.reduceNeg, Int.reduceAdd, Int.reduceSub, Int.reduceMul]
          exact FinOk.drop (.inl rfl) (by simp [underL, underD]) ⟨rfl, rfl⟩

theorem rhas_fc (h : Heap) (p n v : Int) (a b : List UInt8) (ha : a.length = 16) (hb : b.length = 16) : FC Try.prog 28 [prefD p a n, .int .i64 v, .agg (ofBytes b)] h fun d h' => d = .bool (hasF p a n v b) ∧ h' = h := by
  have p1 := pr_take ha [.int .i64 n]
  have p2 := pr_drop ha [.int .i64 n]
  have p3 := pr_len ha (.int .i64 n)
  have p4 := pr_one a n
  have p6 : List.take 17 (ofBytes a ++ [D.int .i64 n]) = ofBytes a ++ [D.int .i64 n] := List.take_of_length_le (by omega)
  have hbl : (ofBytes b).length = 16 := by rw [ofBytes_length, hb]
  have p7 : List.take 16 (ofBytes b) = ofBytes b := List.take_of_length_le (by omega)
  have er := rcheck_fc
  unfold prefD at er
  refine FC.goes cf28 ?_; simp only [c28]; simp only [List.length_cons, List.length_nil, Nat.reduceAdd, Nat.reduceSub, List.replicate_succ, List.replicate_zero, List.cons_append, List.nil_append]
  simp (disch := first | omega | (simp only [List.length_append, List.length_cons, List.length_nil]; omega)) only [c28r0, c28r1, c28r2, prefD, p2, p3, p4, p6, go_sem, fill_c, ↓reduceIte, reduceCtorEq, Nat.reduceAdd, Nat.reduceSub, Nat.reducePow, Nat.reduceMul, Nat.reduceEqDiff, Nat.reduceLT, Nat.reduceLeDiff, Int.reduceToNat, Int.reduceLT, Int.reduceLE, Int.reduceEq, Int.reduceNeg, Int.reduceAdd, Int.reduceSub, Int.reduceMul]
  refine xfc_of (er _ p n a ha) ?_
  rintro d h' ⟨rfl, e⟩
  refine ⟨⟨[], by rw [e, List.append_nil]⟩, ?_⟩
  rw [e]
  by_cases hc : checkF p a n = 0
  · have hf : fitsF p n = 0 := by
      unfold checkF at hc
      split at hc
      · rename_i h1; exact absurd hc h1
      · rename_i h1; simpa using h1
    obtain ⟨h0, h1⟩ := checkF_le hf
    obtain ⟨k, rfl⟩ := Int.eq_ofNat_of_zero_le h0
    by_cases hv : v = p
    · subst hv
      simp (disch := first | omega | (simp only [List.length_append, List.length_cons, List.length_nil]; omega)) only [hc, p1, p2, p3, p7, hbl, go_sem, fill_c, ↓reduceIte, reduceCtorEq, Nat.reduceAdd, Nat.reduceSub, Nat.reducePow, Nat.reduceMul, Nat.reduceEqDiff, Nat.reduceLT, Nat.reduceLeDiff, Int.reduceToNat, Int.reduceLT, Int.reduceLE, Int.reduceEq, Int.reduceNeg, Int.reduceAdd, Int.reduceSub, Int.reduceMul]
      refine xfc_of (rfront_fc _ b hb k (by omega)) ?_
      rintro d h' ⟨rfl, e⟩
      refine ⟨⟨[], by rw [e, List.append_nil]⟩, ?_⟩
      rw [e]
      have hfl := frontTo_length b k
      have hh : hasF v a (k : Int) v b = decide (frontTo b k = a) := by simp [hasF, hc]
      rw [hh]
      simp (disch := first | omega | (simp only [List.length_append, List.length_cons, List.length_nil]; omega)) only [hfl, ha, go_sem, fill_c, ↓reduceIte, reduceCtorEq, Nat.reduceAdd, Nat.reduceSub, Nat.reducePow, Nat.reduceMul, Nat.reduceEqDiff, Nat.reduceLT, Nat.reduceLeDiff, Int.reduceToNat, Int.reduceLT, Int.reduceLE, Int.reduceEq, Int.reduceNeg, Int.reduceAdd, Int.reduceSub, Int.reduceMul]
      exact FinOk.drop (.inl rfl) (by simp [underL, underD]) ⟨rfl, rfl⟩
    · have hh : hasF p a (k : Int) v b = false := by simp [hasF, hv]
      rw [hh]
      simp (disch := first | omega | (simp only [List.length_append, List.length_cons, List.length_nil]; omega)) only [hc, p2, hv, go_sem, fill_c, ↓reduceIte, reduceCtorEq, Nat.reduceAdd, Nat.reduceSub, Nat.reducePow, Nat.reduceMul, Nat.reduceEqDiff, Nat.reduceLT, Nat.reduceLeDiff, Int.reduceToNat, Int.reduceLT, Int.reduceLE, Int.reduceEq, Int.reduceNeg, Int.reduceAdd, Int.reduceSub, Int.reduceMul]
      exact FinOk.drop (.inl rfl) (by simp [underL, underD]) ⟨rfl, rfl⟩
  · have hh : hasF p a n v b = false := by simp [hasF, hc]
    rw [hh]
    simp (disch := first | omega | (simp only [List.length_append, List.length_cons, List.length_nil]; omega)) only [hc, go_sem, fill_c, ↓reduceIte, reduceCtorEq, Nat.reduceAdd, Nat.reduceSub, Nat.reducePow, Nat.reduceMul, Nat.reduceEqDiff, Nat.reduceLT, Nat.reduceLeDiff, Int.reduceToNat, Int.reduceLT, Int.reduceLE, Int.reduceEq, Int.reduceNeg, Int.reduceAdd, Int.reduceSub, Int.reduceMul]
    exact FinOk.drop (.inl rfl) (by simp [underL, underD]) ⟨rfl, rfl⟩

/-- The prefix of so many bits. -/
theorem rmake_fc (h : Heap) (v : Int) (a : List UInt8) (ha : a.length = 16) (n : Nat) (hf : fitsF v (n : Int) = 0) : FC Try.prog 18 [.int .i64 v, .agg (ofBytes a), .int .i64 (n : Int)] h fun d h' => d = .tup [prefD v (frontTo a n) (n : Int), .int .i64 0] ∧ h' = h := by
  have hfit := mostR_fits (v := v) (n := (n : Int))
  rw [hf] at hfit
  have hm : ¬ mostR v < 0 := by
    intro h; rw [if_pos h] at hfit; cases hfit
  rw [if_neg hm] at hfit
  have h1 : ¬ mostR v < (n : Int) := by
    intro h; rw [if_pos (.inr h)] at hfit; cases hfit
  obtain ⟨_, hn⟩ := checkF_le hf
  have hal : (ofBytes a).length = 16 := by rw [ofBytes_length, ha]
  have p7 : List.take 16 (ofBytes a) = ofBytes a := List.take_of_length_le (by omega)
  have hfl := frontTo_length a n
  have p1 := pr_take hfl [.int .i64 (n : Int)]
  have p2 := pr_drop hfl [.int .i64 (n : Int)]
  have p3 := pr_len hfl (.int .i64 (n : Int))
  have p4 := pr_one (frontTo a n) (n : Int)
  have hfl2 : (ofBytes (frontTo a n)).length = 16 := by rw [ofBytes_length, hfl]
  refine FC.goes cf18 ?_; simp only [c18]; simp only [List.length_cons, List.length_nil, Nat.reduceAdd, Nat.reduceSub, List.replicate_succ, List.replicate_zero, List.cons_append, List.nil_append]
  simp (disch := first | omega | (simp only [List.length_append, List.length_cons, List.length_nil]; omega)) only [c18r0, c18r1, c18r2, c18r3, c18r4, c18r5, go_sem, fill_c, ↓reduceIte, reduceCtorEq, Nat.reduceAdd, Nat.reduceSub, Nat.reducePow, Nat.reduceMul, Nat.reduceEqDiff, Nat.reduceLT, Nat.reduceLeDiff, Int.reduceToNat, Int.reduceLT, Int.reduceLE, Int.reduceEq, Int.reduceNeg, Int.reduceAdd, Int.reduceSub, Int.reduceMul]
  refine gfc_of (rmost_fc _ v) ?_
  rintro d h' ⟨rfl, e⟩
  rw [e]
  have h0 : ¬ (n : Int) < 0 := by omega
  simp (disch := first | omega | (simp only [List.length_append, List.length_cons, List.length_nil]; omega)) only [hm, h0, go_sem, fill_c, ↓reduceIte, reduceCtorEq, Nat.reduceAdd, Nat.reduceSub, Nat.reducePow, Nat.reduceMul, Nat.reduceEqDiff, Nat.reduceLT, Nat.reduceLeDiff, Int.reduceToNat, Int.reduceLT, Int.reduceLE, Int.reduceEq, Int.reduceNeg, Int.reduceAdd, Int.reduceSub, Int.reduceMul]
  refine gfc_of (rmost_fc _ v) ?_
  rintro d h' ⟨rfl, e⟩
  rw [e]
  simp (disch := first | omega | (simp only [List.length_append, List.length_cons, List.length_nil]; omega)) only [h1, p7, hal, go_sem, fill_c, ↓reduceIte, reduceCtorEq, Nat.reduceAdd, Nat.reduceSub, Nat.reducePow, Nat.reduceMul, Nat.reduceEqDiff, Nat.reduceLT, Nat.reduceLeDiff, Int.reduceToNat, Int.reduceLT, Int.reduceLE, Int.reduceEq, Int.reduceNeg, Int.reduceAdd, Int.reduceSub, Int.reduceMul]
  refine gfc_of (rfront_fc _ a ha n (by omega)) ?_
  rintro d h' ⟨rfl, e⟩
  rw [e]
  have hsp : splice [D.int .i64 v, .int .u8 0, .int .u8 0, .int .u8 0, .int .u8 0, .int .u8 0, .int .u8 0, .int .u8 0, .int .u8 0, .int .u8 0, .int .u8 0, .int .u8 0, .int .u8 0, .int .u8 0, .int .u8 0, .int .u8 0, .int .u8 0, .int .i64 0] 1 (ofBytes (frontTo a n)) = .int .i64 v :: (ofBytes (frontTo a n) ++ [.int .i64 0]) := by
    rw [splice_eq _ _ _ (by rw [hfl2]; simp), hfl2]; rfl
  have hst : (ofBytes (frontTo a n) ++ [D.int .i64 0]).set 16 (.int .i64 (n : Int)) = ofBytes (frontTo a n) ++ [.int .i64 (n : Int)] := by
    rw [List.set_append_right _ _ (by omega), hfl2]; rfl
  have p3' := pr_len hfl (.int .i64 0)
  have p6 : List.take 17 (ofBytes (frontTo a n) ++ [D.int .i64 (n : Int)]) = ofBytes (frontTo a n) ++ [D.int .i64 (n : Int)] := List.take_of_length_le (by omega)
  simp (disch := first | omega | (simp only [List.length_append, List.length_cons, List.length_nil]; omega)) only [fillD, splice0, hfl2, hsp, hst, p4, p3, p3', p6, go_sem, fill_c, ↓reduceIte, reduceCtorEq, Nat.reduceAdd, Nat.reduceSub, Nat.reducePow, Nat.reduceMul, Nat.reduceEqDiff, Nat.reduceLT, Nat.reduceLeDiff, Int.reduceToNat, Int.reduceLT, Int.reduceLE, Int.reduceEq, Int.reduceNeg, Int.reduceAdd, Int.reduceSub, Int.reduceMul]
  exact FinOk.drop (.inl rfl) (by simp [underL, underD, under_app, under_bytes]) ⟨rfl, rfl⟩
end Go.Proofs

/-
  Own work. The walk of prefix.Last.
-/
namespace Go.Proofs
open Go Go.Ytodlpcoffmnmbaa
set_option linter.unusedVariables false
set_option linter.unusedSimpArgs false
set_option maxRecDepth 10000

/-! ### weighbridge/prefix.Last, params 1 -/
def c24r0 : List AStm := [.op (some 1) none (.box (.t 0)),
    .op (some 2) none (.alloc (List.replicate 16 (.int .u8 0)))]
def c24r1 : List AStm := [.op (some 8) none (.load (some 18) (.t 1)),
    .call (some 9) none (.c (.fn (.func 61) [] [])) [(.t 8)],
    .op (some 10) none (.un .not (.t 9))]
def c24r2 : List AStm := [.op (some 11) none (.build (List.replicate 16 (.int .u8 0)) []),
    .op none none (.store 16 (.t 2) (.t 11))]
def c24r3 : List AStm := [.op (some 13) none (.faddr 0 (.t 1)),
    .op (some 14) none (.load none (.t 13)),
    .call (some 15) none (.c (.fn (.func 60) [] [])) [(.t 14)],
    .op (some 12) none (.mv (.t 15)),
    .op (some 16) none (.ext (.t 12) 0),
    .op (some 17) none (.ext (.t 12) 1),
    .op (some 3) none (.mv (.t 16)),
    .op (some 4) none (.mv (.t 17))]
def c24r4 : List AStm := [.op (some 18) none (.faddr 1 (.t 1)),
    .op (some 19) none (.load (some 16) (.t 18)),
    .op (some 5) none (.alloc (List.replicate 16 (.int .u8 0))),
    .op none none (.store 16 (.t 5) (.t 19))]
def c24r5 : List AStm := [.op (some 20) none (.mv (.t 3)),
    .op (some 21) none (.bin .quo (.t 20) (.c (.int .i64 8))),
    .op (some 22) none (.mv (.c (.int .i64 0)))]
def c24r6 : List AStm := [.op (some 23) none (.bin .lss (.t 22) (.t 21))]
def c24r7 : List AStm := [.op (some 24) none (.mv (.t 22)),
    .op (some 6) none (.mv (.t 24))]
def c24r8 : List AStm := [.op (some 25) none (.faddr 17 (.t 1)),
    .op (some 26) none (.load none (.t 25)),
    .op (some 27) none (.mv (.t 6)),
    .op (some 28) none (.bin .mul (.c (.int .i64 8)) (.t 27)),
    .op (some 29) none (.bin .sub (.t 26) (.t 28)),
    .op (some 7) none (.mv (.t 29))]
def c24r9 : List AStm := [.op (some 31) none (.mv (.t 7)),
    .op (some 32) none (.bin .leq (.t 31) (.c (.int .i64 0))),
    .op (some 30) none (.mv (.t 32))]
def c24r10 : List AStm := [.op (some 33) none (.mv (.t 6)),
    .op (some 34) none (.ixa 16 1 (.t 5) (.t 33)),
    .op none none (.store 1 (.t 34) (.c (.int .u8 255)))]
def c24r11 : List AStm := [.op (some 36) none (.mv (.t 7)),
    .op (some 37) none (.bin .lss (.t 36) (.c (.int .i64 8))),
    .op (some 35) none (.mv (.t 37))]
def c24r12 : List AStm := [.op (some 38) none (.mv (.t 6)),
    .op (some 39) none (.ixa 16 1 (.t 5) (.t 38)),
    .op (some 40) none (.load none (.t 39)),
    .op (some 41) none (.mv (.t 7)),
    .op (some 42) none (.conv .u64 (.t 41)),
    .op (some 43) none (.bin .shr (.c (.int .u8 255)) (.t 42)),
    .op (some 44) none (.bin .or (.t 40) (.t 43)),
    .op (some 45) none (.ixa 16 1 (.t 5) (.t 38)),
    .op none none (.store 1 (.t 45) (.t 44))]
def c24r13 : List AStm := [.op (some 46) none (.bin .add (.t 22) (.c (.int .i64 1))),
    .op (some 22) none (.mv (.t 46))]
def c24l14 : AC := .seq (.reg c24r6) (.seq (.cond (.t 23) (.skip) (.exit 0)) (.seq (.block 1 (.seq (.reg c24r7) (.seq (.reg c24r8) (.block 2 (.seq (.reg c24r9) (.cond (.t 30) (.reg c24r10) (.seq (.reg c24r11) (.cond (.t 35) (.reg c24r12) (.skip))))))))) (.reg c24r13)))
def c24r15 : List AStm := [.op (some 47) none (.load (some 16) (.t 5)),
    .op none none (.store 16 (.t 2) (.t 47))]
def c24 : CF := ⟨.seq (.reg c24r0) (.seq (.seq (.reg c24r1) (.cond (.t 10) (.seq (.reg c24r2) (.ret)) (.skip))) (.seq (.reg c24r3) (.seq (.reg c24r4) (.seq (.seq (.reg c24r5) (.block 0 (.loop c24l14))) (.seq (.reg c24r15) (.ret)))))), [.cell 2 (some 16)], 48⟩
theorem cf24 : cfun Try.prog 24 = some c24 := by kernel_rfl



def lastB (b : UInt8) (left : Nat) : UInt8 := if left = 0 then 255 else if left < 8 then UInt8.ofNat (b.toNat ||| (255 >>> left)) else b
theorem lastB_lt (b : UInt8) (s : Nat) : b.toNat ||| (255 >>> s) < 256 := by
  refine Nat.or_lt_two_pow (n := 8) b.toNat_lt ?_
  rw [Nat.shiftRight_eq_div_pow]
  exact Nat.lt_of_le_of_lt (Nat.div_le_self _ _) (by omega)
theorem lastB_bit (b : UInt8) (left j : Nat) (hj : j < 8) : (lastB b left).toNat.testBit (7 - j) = (decide (left ≤ j) || b.toNat.testBit (7 - j)) := by
  unfold lastB
  by_cases h0 : left = 0
  · rw [if_pos h0, h0, show (255 : UInt8).toNat = 2 ^ 8 - 1 from rfl, Nat.testBit_two_pow_sub_one]
    simp; omega
  · rw [if_neg h0]
    by_cases h8 : left < 8
    · rw [if_pos h8, UInt8.toNat_ofNat_of_lt' (by exact lastB_lt _ _), Nat.testBit_or, Nat.testBit_shiftRight, show (255 : Nat) = 2 ^ 8 - 1 by rfl, Nat.testBit_two_pow_sub_one, Bool.or_comm]
      congr 1
      rw [decide_eq_decide]
      omega
    · rw [if_neg h8]
      have : ¬ left ≤ j := by omega
      simp [this]
/-- The first k bytes with all bits behind the first n. -/
def lastTo (a : List UInt8) (n k : Nat) : List UInt8 := (List.range 16).map fun i => if i < k then lastB (a.getD i 0) (n - 8 * i) else a.getD i 0
theorem lastTo_length (a : List UInt8) (n k : Nat) : (lastTo a n k).length = 16 := by simp [lastTo]
theorem lastTo_getD (a : List UInt8) (n k i : Nat) (h : i < 16) : (lastTo a n k).getD i 0 = if i < k then lastB (a.getD i 0) (n - 8 * i) else a.getD i 0 := by
  rw [List.getD_eq_getElem?_getD, lastTo, List.getElem?_map, List.getElem?_range h]; rfl
theorem lastTo_zero {a : List UInt8} (ha : a.length = 16) (n : Nat) : lastTo a n 0 = a := by
  refine bytes_ext (by rw [lastTo_length, ha]) fun i hi => ?_
  rw [lastTo_length] at hi
  rw [lastTo_getD _ _ _ _ hi, if_neg (by omega)]
theorem lastTo_set (a : List UInt8) (n k : Nat) (h : k < 16) : (lastTo a n k).set k (lastB (a.getD k 0) (n - 8 * k)) = lastTo a n (k + 1) := by
  refine bytes_ext (by rw [List.length_set, lastTo_length, lastTo_length]) fun i hi => ?_
  rw [List.length_set, lastTo_length] at hi
  rw [getD_set8, lastTo_length, lastTo_getD _ _ _ _ hi, lastTo_getD _ _ _ _ hi]
  by_cases e : k = i
  · subst e
    rw [if_pos ⟨rfl, h⟩, if_pos (by omega)]
  · rw [if_neg (by omega)]
    have : (i < k + 1) ↔ i < k := by omega
    simp only [this]
theorem lastTo_bit (a : List UInt8) (n k i : Nat) (hi : i < 128) : abit (lastTo a n k) i = if i / 8 < k then (decide (n ≤ i) || abit a i) else abit a i := by
  unfold abit
  rw [lastTo_getD _ _ _ _ (by omega)]
  split
  · rw [lastB_bit _ _ _ (by omega)]
    congr 1
    rw [decide_eq_decide]; omega
  · rfl
/-- The last address that has a prefix. -/
def lastF (v : Int) (a : List UInt8) (n : Int) : List UInt8 := if checkF v a n = 0 then lastTo a n.toNat ((mostN v).toNat / 8) else zeros 16
theorem lastF_length (v : Int) (a : List UInt8) (n : Int) : (lastF v a n).length = 16 := by
  unfold lastF; split
  · exact lastTo_length _ _ _
  · simp [zeros]
theorem plast_fc (h : Heap) (v n : Int) (a : List UInt8) (ha : a.length = 16) : FC Try.prog 24 [prefD v a n] h fun d h' => d = .agg (ofBytes (lastF v a n)) ∧ h' = h := by
  have p1 := pr_take ha [.int .i64 n]
  have p2 := pr_drop ha [.int .i64 n]
  have p3 := pr_len ha (.int .i64 n)
  have p4 := pr_one a n
  have p6 : List.take 17 (ofBytes a ++ [D.int .i64 n]) = ofBytes a ++ [D.int .i64 n] := List.take_of_length_le (by omega)
  have hbl : (ofBytes a).length = 16 := by rw [ofBytes_length, ha]
  have e := right_fc
  unfold prefD at e
  refine FC.goes cf24 ?_; simp only [c24]; simp only [List.length_cons, List.length_nil, Nat.reduceAdd, Nat.reduceSub, List.replicate_succ, List.replicate_zero, List.cons_append, List.nil_append]
  simp (disch := first | omega | (simp only [List.length_append, List.length_cons, List.length_nil]; omega)) only [c24r0, c24r1, c24r2, c24r3, c24r4, c24r5, c24r6, c24r7, c24r8, c24r9, c24r10, c24r11, c24r12, c24r13, c24l14, c24r15, prefD, p2, p3, p4, go_sem, fill_c, ↓reduceIte, reduceCtorEq, Nat.reduceAdd, Nat.reduceSub, Nat.reducePow, Nat.reduceMul, Nat.reduceEqDiff, Nat.reduceLT, Nat.reduceLeDiff, Int.reduceToNat, Int.reduceLT, Int.reduceLE, Int.reduceEq, Int.reduceNeg, Int.reduceAdd, Int.reduceSub, Int.reduceMul]
  try rw [p6]
  refine gfc_of (e _ v n a ha) ?_
  rintro d h' ⟨rfl, e0⟩
  rw [e0]
  by_cases hc : checkF v a n = 0
  · simp (disch := first | omega | (simp only [List.length_append, List.length_cons, List.length_nil]; omega)) only [hc, go_sem, fill_c, ↓reduceIte, reduceCtorEq, Nat.reduceAdd, Nat.reduceSub, Nat.reducePow, Nat.reduceMul, Nat.reduceEqDiff, Nat.reduceLT, Nat.reduceLeDiff, Int.reduceToNat, Int.reduceLT, Int.reduceLE, Int.reduceEq, Int.reduceNeg, Int.reduceAdd, Int.reduceSub, Int.reduceMul]
    refine gfc_of (pmost_fc _ v) ?_
    rintro d h' ⟨rfl, e0⟩
    rw [e0]
    have hf0 : fitsF v n = 0 := by
      unfold checkF at hc
      split at hc
      · rename_i h1; exact absurd hc h1
      · rename_i h1; simpa using h1
    obtain ⟨h0, h1⟩ := checkF_le hf0
    obtain ⟨n, rfl⟩ := Int.eq_ofNat_of_zero_le h0
    obtain ⟨m, hm⟩ : ∃ m, mostF v = some m := by
      unfold fitsF at hf0
      cases hm : mostF v with
      | none => rw [hm] at hf0; cases hf0
      | some m => exact ⟨m, rfl⟩
    have hm1 : mostN v = (m : Int) := by rw [mostN, hm]
    have hm2 := mostF_le hm
    have hlf : lastF v a (n : Int) = lastTo a n (m / 8) := by
      unfold lastF
      rw [if_pos hc, hm1]; rfl
    have p7 : List.take 16 (ofBytes a ++ [D.int .i64 (n : Int)]) = ofBytes a := p1
    have p9 : (ofBytes a ++ [D.int .i64 (n : Int)])[16]? = some (.int .i64 (n : Int)) := by
      rw [List.getElem?_append_right (by omega), hbl]; rfl
    have p8 : List.drop 16 (ofBytes a ++ [D.int .i64 (n : Int)]) = [.int .i64 (n : Int)] := p2
    rw [hlf, hm1]
    have eq8 : (((m : Nat) : Int)).tdiv 8 = ((m / 8 : Nat) : Int) := by rw [Int.ofNat_tdiv]; rfl
    have w8 : IntKind.i64.wrap ((m / 8 : Nat) : Int) = ((m / 8 : Nat) : Int) := w_i64 (by omega) (by omega)
    simp (disch := first | omega | (simp only [List.length_append, List.length_cons, List.length_nil]; omega)) only [fillD, splice0, hbl, p7, p3, p8, go_sem, fill_c, ↓reduceIte, reduceCtorEq, Nat.reduceAdd, Nat.reduceSub, Nat.reducePow, Nat.reduceMul, Nat.reduceEqDiff, Nat.reduceLT, Nat.reduceLeDiff, Int.reduceToNat, Int.reduceLT, Int.reduceLE, Int.reduceEq, Int.reduceNeg, Int.reduceAdd, Int.reduceSub, Int.reduceMul]
    refine loop_to (m / 8) (fun k st => ∃ (j : Nat → D), st = ⟨(j 0 :: .ref h.length 0 :: .ref (h.length + 1) 0 :: j 3 :: j 4 :: .ref (h.length + 2) 0 :: j 6 :: j 7 :: j 8 :: j 9 :: j 10 :: j 11 :: j 12 :: j 13 :: j 14 :: j 15 :: j 16 :: j 17 :: j 18 :: j 19 :: j 20 :: .int .i64 ((m / 8 : Nat) : Int) :: .int .i64 (k : Int) :: j 23 :: j 24 :: j 25 :: j 26 :: j 27 :: j 28 :: j 29 :: j 30 :: j 31 :: j 32 :: j 33 :: j 34 :: j 35 :: j 36 :: j 37 :: j 38 :: j 39 :: j 40 :: j 41 :: j 42 :: j 43 :: j 44 :: j 45 :: j 46 :: j 47 :: []), h ++ [.box (.int .i64 v :: (ofBytes a ++ [.int .i64 (n : Int)])), .box (List.replicate 16 (.int .u8 0)), .box (ofBytes (lastTo a n k))]⟩) (by rw [lastTo_zero ha]; exact junk rfl) ?_
    rintro k st hk ⟨j, rfl⟩
    have hbl : (ofBytes (lastTo a n k)).length = 16 := by rw [ofBytes_length, lastTo_length]
    by_cases hk16 : k < m / 8
    · have hk' : (k : Int) < ((m / 8 : Nat) : Int) := by omega
      have hk1 : k < 16 := by omega
      have hk2 : (k : Int) < 16 := by omega
      have e1 : IntKind.i64.wrap (8 * (k : Int)) = ((8 * k : Nat) : Int) := by rw [w_i64 (by omega) (by omega)]; omega
      have e2 : IntKind.i64.wrap ((n : Int) - ((8 * k : Nat) : Int)) = (n : Int) - ((8 * k : Nat) : Int) := w_i64 (by omega) (by omega)
      have e5 : IntKind.i64.wrap ((k : Int) + 1) = ((k + 1 : Nat) : Int) := by rw [w_i64 (by omega) (by omega)]; omega
      have hset := lastTo_set a n k hk1
      by_cases h0 : (n : Int) - ((8 * k : Nat) : Int) ≤ 0
      · have hb : lastB (a.getD k 0) (n - 8 * k) = 255 := by
          have : n - 8 * k = 0 := by omega
          simp [lastB, this]
        simp (disch := first | omega | (simp only [List.length_append, List.length_cons, List.length_nil]; omega)) only [c24r0, c24r1, c24r2, c24r3, c24r4, c24r5, c24r6, c24r7, c24r8, c24r9, c24r10, c24r11, c24r12, c24r13, c24l14, c24r15, hk', hk2, e1, e2, h0, e5, hbl, p8, p9, go_sem, fill_c, ↓reduceIte, reduceCtorEq, Nat.reduceAdd, Nat.reduceSub, Nat.reducePow, Nat.reduceMul, Nat.reduceEqDiff, Nat.reduceLT, Nat.reduceLeDiff, Int.reduceToNat, Int.reduceLT, Int.reduceLE, Int.reduceEq, Int.reduceNeg, Int.reduceAdd, Int.reduceSub, Int.reduceMul]
        refine ⟨hk16, ?_⟩
        rw [← hset, hb, ofBytes_put]
        exact junk rfl
      · by_cases h8 : (n : Int) - ((8 * k : Nat) : Int) < 8
        · obtain ⟨left, hl⟩ : ∃ left : Nat, n = 8 * k + left := ⟨n - 8 * k, by omega⟩
          have hl2 : n - 8 * k = left := by omega
          have hl3 : (n : Int) - ((8 * k : Nat) : Int) = (left : Int) := by omega
          rw [hl2] at hset
          rw [hl3] at e2 h0 h8
          have e2' : IntKind.i64.wrap ((n : Int) - ((8 * k : Nat) : Int)) = (left : Int) := by rw [hl3]; exact e2
          have e7 : IntKind.u64.wrap (left : Int) = (left : Int) := w_u64 (by omega) (by omega)
          have hg : (List.drop k (ofBytes (lastTo a n k)))[0]? = some (.int .u8 ((a.getD k 0).toNat : Int)) := by
            rw [List.getElem?_drop, Nat.add_zero, ofBytes_get, getB (by rw [lastTo_length]; omega), lastTo_getD _ _ _ _ hk1, if_neg (by omega)]; rfl
          have a1 : arith .shr (.int .u8 255) (.int .u64 (left : Int)) = some (.int .u8 ((255 >>> left : Nat) : Int)) := by
            have := ar_shrN (k := .u8) (k' := .u64) (x := 255) (b := (left : Int)) (by omega) (by rw [Int.toNat_natCast]; show left ≤ 8; omega)
            rw [Nat.shiftRight_eq_div_pow]
            exact this
          have h255 : 255 >>> left < 256 := by
            rw [Nat.shiftRight_eq_div_pow]
            exact Nat.lt_of_le_of_lt (Nat.div_le_self _ _) (by omega)
          have a2 : arith .or (.int .u8 ((a.getD k 0).toNat : Int)) (.int .u8 ((255 >>> left : Nat) : Int)) = some (.int .u8 (((a.getD k 0).toNat ||| (255 >>> left) : Nat) : Int)) := or_u8 (a.getD k 0).toNat_lt h255
          have hb : lastB (a.getD k 0) left = UInt8.ofNat ((a.getD k 0).toNat ||| (255 >>> left)) := by
            have h1 : ¬ left = 0 := by omega
            have h2 : left < 8 := by omega
            simp [lastB, h1, h2]
          have hbt : (UInt8.ofNat ((a.getD k 0).toNat ||| (255 >>> left))).toNat = (a.getD k 0).toNat ||| (255 >>> left) := UInt8.toNat_ofNat_of_lt' (by exact lastB_lt _ _)
          simp (disch := first | omega | (simp only [List.length_append, List.length_cons, List.length_nil]; omega)) only [c24r0, c24r1, c24r2, c24r3, c24r4, c24r5, c24r6, c24r7, c24r8, c24r9, c24r10, c24r11, c24r12, c24r13, c24l14, c24r15, hk', hk2, e1, e2', h0, h8, e5, e7, hbl, hg, a1, a2, p8, p9, go_sem, fill_c, ↓reduceIte, reduceCtorEq, Nat.reduceAdd, Nat.reduceSub, Nat.reducePow, Nat.reduceMul, Nat.reduceEqDiff, Nat.reduceLT, Nat.reduceLeDiff, Int.reduceToNat, Int.reduceLT, Int.reduceLE, Int.reduceEq, Int.reduceNeg, Int.reduceAdd, Int.reduceSub, Int.reduceMul]
          refine ⟨hk16, ?_⟩
          rw [← hset, hb, ofBytes_put, hbt]
          exact junk rfl
        · have hb : lastB (a.getD k 0) (n - 8 * k) = a.getD k 0 := by
            have h1 : ¬ n - 8 * k = 0 := by omega
            have h2 : ¬ n - 8 * k < 8 := by omega
            unfold lastB
            rw [if_neg h1, if_neg h2]
          have hsame : lastTo a n (k + 1) = lastTo a n k := by
            rw [← hset, hb]
            refine bytes_ext (by simp) fun i hi => ?_
            rw [List.length_set, lastTo_length] at hi
            rw [getD_set8, lastTo_length]
            split
            · rename_i hc
              obtain ⟨rfl, _⟩ := hc
              rw [lastTo_getD _ _ _ _ hi, if_neg (by omega)]
            · rfl
          simp (disch := first | omega | (simp only [List.length_append, List.length_cons, List.length_nil]; omega)) only [c24r0, c24r1, c24r2, c24r3, c24r4, c24r5, c24r6, c24r7, c24r8, c24r9, c24r10, c24r11, c24r12, c24r13, c24l14, c24r15, hk', e1, e2, h0, h8, e5, p8, p9, go_sem, fill_c, ↓reduceIte, reduceCtorEq, Nat.reduceAdd, Nat.reduceSub, Nat.reducePow, Nat.reduceMul, Nat.reduceEqDiff, Nat.reduceLT, Nat.reduceLeDiff, Int.reduceToNat, Int.reduceLT, Int.reduceLE, Int.reduceEq, Int.reduceNeg, Int.reduceAdd, Int.reduceSub, Int.reduceMul]
          refine ⟨hk16, ?_⟩
          rw [hsame]
          exact junk rfl
    · have hk' : ¬ (k : Int) < ((m / 8 : Nat) : Int) := by omega
      have : k = m / 8 := by omega
      subst this
      have htk : List.take 16 (ofBytes (lastTo a n (m / 8))) = ofBytes (lastTo a n (m / 8)) := List.take_of_length_le (by omega)
      simp (disch := first | omega | (simp only [List.length_append, List.length_cons, List.length_nil]; omega)) only [c24r0, c24r1, c24r2, c24r3, c24r4, c24r5, c24r6, c24r7, c24r8, c24r9, c24r10, c24r11, c24r12, c24r13, c24l14, c24r15, hk', hbl, htk, splice0, go_sem, fill_c, ↓reduceIte, reduceCtorEq, Nat.reduceAdd, Nat.reduceSub, Nat.reducePow, Nat.reduceMul, Nat.reduceEqDiff, Nat.reduceLT, Nat.reduceLeDiff, Int.reduceToNat, Int.reduceLT, Int.reduceLE, Int.reduceEq, Int.reduceNeg, Int.reduceAdd, Int.reduceSub, Int.reduceMul]
      exact FinOk.drop (.inl rfl) (by simp [underL, underD, under_bytes]) ⟨rfl, rfl⟩
  · have hf : lastF v a n = zeros 16 := by unfold lastF; rw [if_neg hc]
    rw [hf]
    simp (disch := first | omega | (simp only [List.length_append, List.length_cons, List.length_nil]; omega)) only [hc, fillD, splice0, go_sem, fill_c, ↓reduceIte, reduceCtorEq, Nat.reduceAdd, Nat.reduceSub, Nat.reducePow, Nat.reduceMul, Nat.reduceEqDiff, Nat.reduceLT, Nat.reduceLeDiff, Int.reduceToNat, Int.reduceLT, Int.reduceLE, Int.reduceEq, Int.reduceNeg, Int.reduceAdd, Int.reduceSub, Int.reduceMul]
    exact FinOk.drop (.inl rfl) (by simp [underL, underD]) ⟨rfl, rfl⟩
end Go.Proofs

/-
  Own work. Plain laws: what Make, Halves, Within, Last tell.
-/
namespace Go.Proofs
open Go Go.Ytodlpcoffmnmbaa
set_option linter.unusedVariables false
set_option linter.unusedSimpArgs false
set_option maxRecDepth 10000

theorem mostF_of {v : Int} {m : Nat} (h : mostF v = some m) : (v = 4 ∧ m = 32) ∨ (v = 6 ∧ m = 128) := by
  unfold mostF at h
  split at h
  · rename_i h4; injection h with h; exact .inl ⟨h4, h.symm⟩
  · split at h
    · rename_i h6; injection h with h; exact .inr ⟨h6, h.symm⟩
    · cases h
theorem check_fits {v n : Int} {a : List UInt8} (h : checkF v a n = 0) : fitsF v n = 0 := by
  unfold checkF at h
  split at h
  · rename_i h1; exact absurd h h1
  · rename_i h1; simpa using h1
theorem fits_most {v n : Int} (h : fitsF v n = 0) : ∃ m, mostF v = some m ∧ mostN v = (m : Int) ∧ 0 ≤ n ∧ n ≤ (m : Int) ∧ m ≤ 128 := by
  have h0 := checkF_le h
  unfold fitsF at h
  cases hm : mostF v with
  | none => rw [hm] at h; cases h
  | some m =>
    rw [hm] at h
    simp only at h
    have h2 := mostF_le hm
    refine ⟨m, rfl, by rw [mostN, hm], h0.1, ?_, h2⟩
    split at h
    · cases h
    · omega
/-- The prefix of so many bits that an address has: its cells' parts, and what is wrong. -/
def makeV (v n : Int) : Int := if fitsF v n = 0 then v else 0
def makeA (v : Int) (a : List UInt8) (n : Int) : List UInt8 := if fitsF v n = 0 then frontTo a n.toNat else zeros 16
def makeN (v n : Int) : Int := if fitsF v n = 0 then n else 0
theorem makeA_length (v : Int) (a : List UInt8) (n : Int) : (makeA v a n).length = 16 := by
  unfold makeA; split
  · exact frontTo_length _ _
  · simp [zeros]
/-- Are there two of one bit more? -/
def halfB (v : Int) (a : List UInt8) (n : Int) : Bool := decide (checkF v a n = 0) && !decide (n = mostN v)
def halfV (v : Int) (a : List UInt8) (n : Int) : Int := if halfB v a n then v else 0
def halfL (v : Int) (a : List UInt8) (n : Int) : List UInt8 := if halfB v a n then a else zeros 16
def halfH (v : Int) (a : List UInt8) (n : Int) : List UInt8 := if halfB v a n then setA a n.toNat else zeros 16
def halfN (v : Int) (a : List UInt8) (n : Int) : Int := if halfB v a n then n + 1 else 0
/-- Has all that has one prefix another one? -/
def withinF (v : Int) (a : List UInt8) (n : Int) (w : Int) (b : List UInt8) (m : Int) : Bool := decide (checkF v a n = 0) && (decide (m ≤ n) && hasF w b m v a)
/-- Bits that are set one by one. -/
def setsTo (a : List UInt8) (n : Nat) : Nat → List UInt8
  | 0 => a
  | k + 1 => setA (setsTo a n k) (n + k)
theorem setsTo_length (a : List UInt8) (n : Nat) : ∀ k, (setsTo a n k).length = a.length
  | 0 => rfl
  | k + 1 => by rw [setsTo, setA_length, setsTo_length a n k]
theorem setsTo_bit {a : List UInt8} (ha : a.length = 16) (n : Nat) : ∀ k, n + k ≤ 128 → ∀ j, abit (setsTo a n k) j = (decide (n ≤ j ∧ j < n + k) || abit a j)
  | 0, _, j => by
    have : ¬ (n ≤ j ∧ j < n + 0) := by omega
    rw [decide_eq_false this, Bool.false_or]; rfl
  | k + 1, h, j => by
    rw [setsTo, setA_bit (by rw [setsTo_length, ha]; omega), setsTo_bit ha n k (by omega), ← Bool.or_assoc]
    congr 1
    rw [Bool.eq_iff_iff]
    simp only [Bool.or_eq_true, decide_eq_true_eq]
    omega
theorem sets_last {a : List UInt8} (ha : a.length = 16) {v : Int} {n m : Nat} (hm : mostF v = some m) (hn : n ≤ m) : setsTo a n (m - n) = lastTo a n (m / 8) := by
  have hmm := mostF_of hm
  refine addr_ext (by rw [setsTo_length, ha]) (lastTo_length _ _ _) fun i hi => ?_
  rw [setsTo_bit ha n (m - n) (by omega), lastTo_bit _ _ _ _ hi]
  split
  · congr 1
    rw [decide_eq_decide]; omega
  · have : ¬ (n ≤ i ∧ i < n + (m - n)) := by omega
    simp [this]
end Go.Proofs

/-
  Own work. Within and Meet, the program's and the document's.
-/
namespace Go.Proofs
open Go Go.Ytodlpcoffmnmbaa
set_option linter.unusedVariables false
set_option linter.unusedSimpArgs false
set_option maxRecDepth 10000

/-! ### weighbridge/prefix.Within, params 2 -/
def c29r0 : List AStm := [.op (some 2) none (.box (.t 0)),
    .op (some 3) none (.box (.t 1)),
    .op (some 4) none (.mv (.c (.bool false)))]
def c29r1 : List AStm := [.op (some 5) none (.load (some 18) (.t 2)),
    .call (some 6) none (.c (.fn (.func 61) [] [])) [(.t 5)],
    .op (some 7) none (.mv (.t 6)),
    .op (some 8) (some (7, true)) (.faddr 17 (.t 2)),
    .op (some 9) (some (7, true)) (.load none (.t 8)),
    .op (some 10) (some (7, true)) (.faddr 17 (.t 3)),
    .op (some 11) (some (7, true)) (.load none (.t 10)),
    .op (some 12) (some (7, true)) (.bin .geq (.t 9) (.t 11)),
    .op (some 13) none (.pick (.t 7) (.t 12) (.c (.bool false))),
    .op (some 14) none (.mv (.t 13)),
    .op (some 15) (some (14, true)) (.load (some 18) (.t 3)),
    .op (some 16) (some (14, true)) (.faddr 0 (.t 2)),
    .op (some 17) (some (14, true)) (.load none (.t 16)),
    .op (some 18) (some (14, true)) (.faddr 1 (.t 2)),
    .op (some 19) (some (14, true)) (.load (some 16) (.t 18)),
    .call (some 20) (some (14, true)) (.c (.fn (.func 27) [] [])) [(.t 15), (.t 17), (.t 19)],
    .op (some 21) none (.pick (.t 14) (.t 20) (.c (.bool false))),
    .op (some 4) none (.mv (.t 21))]
def c29 : CF := ⟨.seq (.reg c29r0) (.seq (.reg c29r1) (.ret)), [.tmp 4], 22⟩
theorem cf29 : cfun Try.prog 29 = some c29 := by kernel_rfl

/-! ### weighbridge/prefix.Meet, params 2 -/
def c30r0 : List AStm := [.op (some 2) none (.box (.t 0)),
    .op (some 3) none (.box (.t 1)),
    .op (some 4) none (.mv (.c (.bool false)))]
def c30r1 : List AStm := [.op (some 5) none (.load (some 18) (.t 2)),
    .op (some 6) none (.load (some 18) (.t 3)),
    .call (some 7) none (.c (.fn (.func 29) [] [])) [(.t 5), (.t 6)],
    .op (some 8) none (.mv (.t 7)),
    .op (some 9) (some (8, false)) (.load (some 18) (.t 3)),
    .op (some 10) (some (8, false)) (.load (some 18) (.t 2)),
    .call (some 11) (some (8, false)) (.c (.fn (.func 29) [] [])) [(.t 9), (.t 10)],
    .op (some 12) none (.pick (.t 8) (.c (.bool true)) (.t 11)),
    .op (some 4) none (.mv (.t 12))]
def c30 : CF := ⟨.seq (.reg c30r0) (.seq (.reg c30r1) (.ret)), [.tmp 4], 13⟩
theorem cf30 : cfun Try.prog 30 = some c30 := by kernel_rfl

/-! ### weighbridge/weighbridgeref07.Within, params 2 -/
def c26r0 : List AStm := [.op (some 2) none (.box (.t 0)),
    .op (some 3) none (.box (.t 1)),
    .op (some 4) none (.mv (.c (.bool false)))]
def c26r1 : List AStm := [.op (some 5) none (.load (some 18) (.t 2)),
    .call (some 6) none (.c (.fn (.func 23) [] [])) [(.t 5)],
    .op (some 7) none (.bin .eql (.t 6) (.c (.int .i64 0))),
    .op (some 8) none (.mv (.t 7)),
    .op (some 9) (some (8, true)) (.faddr 17 (.t 2)),
    .op (some 10) (some (8, true)) (.load none (.t 9)),
    .op (some 11) (some (8, true)) (.faddr 17 (.t 3)),
    .op (some 12) (some (8, true)) (.load none (.t 11)),
    .op (some 13) (some (8, true)) (.bin .geq (.t 10) (.t 12)),
    .op (some 14) none (.pick (.t 8) (.t 13) (.c (.bool false))),
    .op (some 15) none (.mv (.t 14)),
    .op (some 16) (some (15, true)) (.load (some 18) (.t 3)),
    .op (some 17) (some (15, true)) (.faddr 0 (.t 2)),
    .op (some 18) (some (15, true)) (.load none (.t 17)),
    .op (some 19) (some (15, true)) (.faddr 1 (.t 2)),
    .op (some 20) (some (15, true)) (.load (some 16) (.t 19)),
    .call (some 21) (some (15, true)) (.c (.fn (.func 28) [] [])) [(.t 16), (.t 18), (.t 20)],
    .op (some 22) none (.pick (.t 15) (.t 21) (.c (.bool false))),
    .op (some 4) none (.mv (.t 22))]
def c26 : CF := ⟨.seq (.reg c26r0) (.seq (.reg c26r1) (.ret)), [.tmp 4], 23⟩
theorem cf26 : cfun Try.prog 26 = some c26 := by kernel_rfl



/-- A prefix's cells. -/
def pc (v : Int) (a : List UInt8) (n : Int) : List D := .int .i64 v :: (ofBytes a ++ [.int .i64 n])
theorem prefD_pc (v : Int) (a : List UInt8) (n : Int) : prefD v a n = .agg (pc v a n) := rfl
section
variable {v n : Int} {a : List UInt8}
theorem pc_len (ha : a.length = 16) : (pc v a n).length = 18 := by simp [pc, ofBytes_length, ha]
theorem pc_one : (pc v a n).all D.one = true := by
  have := pr_one a n
  simp only [pc, List.all_cons, this]; rfl
theorem pc_take (ha : a.length = 16) : (pc v a n).take 18 = pc v a n := List.take_of_length_le (by rw [pc_len ha]; omega)
theorem pc_v : (pc v a n)[0]? = some (.int .i64 v) := rfl
theorem pc_n (ha : a.length = 16) : (List.drop 17 (pc v a n))[0]? = some (.int .i64 n) := by
  have := pr_drop ha [.int .i64 n]
  simp only [pc, List.drop_succ_cons, this]; rfl
theorem pc_a (ha : a.length = 16) : List.take 16 (List.drop 1 (pc v a n)) = ofBytes a := by
  have := pr_take ha [.int .i64 n]
  simp only [pc, List.drop_succ_cons, List.drop_zero, this]
theorem pc_dl (ha : a.length = 16) : (List.drop 1 (pc v a n)).length = 17 := by rw [List.length_drop, pc_len ha]
theorem pc_under (k : Nat) : underL k (pc v a n) = true := by simp [pc, underL, underD, under_app, under_bytes]
end

theorem pwithin_fc (h : Heap) (v n w m : Int) (a b : List UInt8) (ha : a.length = 16) (hb : b.length = 16) :
    FC Try.prog 29 [.agg (pc v a n), .agg (pc w b m)] h fun d h' => d = .bool (withinF v a n w b m) ∧ h' = h := by
  have er := right_fc
  have eh := phas_fc
  simp only [prefD_pc] at er eh
  refine FC.goes cf29 ?_; simp only [c29]; simp only [List.length_cons, List.length_nil, Nat.reduceAdd, Nat.reduceSub, List.replicate_succ, List.replicate_zero, List.cons_append, List.nil_append]
  simp (disch := first | omega | (simp only [List.length_append, List.length_cons, List.length_nil]; omega)) only [c29r0, c29r1, pc_one, pc_len, ha, hb, pc_take, go_sem, fill_c, ↓reduceIte, reduceCtorEq, Nat.reduceAdd, Nat.reduceSub, Nat.reducePow, Nat.reduceMul, Nat.reduceEqDiff, Nat.reduceLT, Nat.reduceLeDiff, Int.reduceToNat, Int.reduceLT, Int.reduceLE, Int.reduceEq, Int.reduceNeg, Int.reduceAdd, Int.reduceSub, Int.reduceMul]
  refine gfc_of (er _ v n a ha) ?_
  rintro d h' ⟨rfl, e⟩
  rw [e]
  by_cases hc : checkF v a n = 0
  · by_cases hmn : m ≤ n
    · have hw : withinF v a n w b m = hasF w b m v a := by simp [withinF, hc, hmn]
      rw [hw]
      simp (disch := first | omega | (simp only [List.length_append, List.length_cons, List.length_nil]; omega)) only [hc, hmn, pc_one, pc_len, ha, hb, pc_take, pc_n, pc_v, pc_a, pc_dl, go_sem, fill_c, ↓reduceIte, reduceCtorEq, Nat.reduceAdd, Nat.reduceSub, Nat.reducePow, Nat.reduceMul, Nat.reduceEqDiff, Nat.reduceLT, Nat.reduceLeDiff, Int.reduceToNat, Int.reduceLT, Int.reduceLE, Int.reduceEq, Int.reduceNeg, Int.reduceAdd, Int.reduceSub, Int.reduceMul]
      refine gfc_of (eh _ w m v b a hb ha) ?_
      rintro d h' ⟨rfl, e⟩
      rw [e]
      simp (disch := first | omega | (simp only [List.length_append, List.length_cons, List.length_nil]; omega)) only [go_sem, fill_c, ↓reduceIte, reduceCtorEq, Nat.reduceAdd, Nat.reduceSub, Nat.reducePow, Nat.reduceMul, Nat.reduceEqDiff, Nat.reduceLT, Nat.reduceLeDiff, Int.reduceToNat, Int.reduceLT, Int.reduceLE, Int.reduceEq, Int.reduceNeg, Int.reduceAdd, Int.reduceSub, Int.reduceMul]
      exact FinOk.drop (.inl rfl) (by simp [underL, underD]) ⟨rfl, rfl⟩
    · have hw : withinF v a n w b m = false := by simp [withinF, hmn]
      rw [hw]
      simp (disch := first | omega | (simp only [List.length_append, List.length_cons, List.length_nil]; omega)) only [hc, hmn, pc_one, pc_len, ha, hb, pc_take, pc_n, pc_v, pc_a, pc_dl, go_sem, fill_c, ↓reduceIte, reduceCtorEq, Nat.reduceAdd, Nat.reduceSub, Nat.reducePow, Nat.reduceMul, Nat.reduceEqDiff, Nat.reduceLT, Nat.reduceLeDiff, Int.reduceToNat, Int.reduceLT, Int.reduceLE, Int.reduceEq, Int.reduceNeg, Int.reduceAdd, Int.reduceSub, Int.reduceMul]
      exact FinOk.drop (.inl rfl) (by simp [underL, underD]) ⟨rfl, rfl⟩
  · have hw : withinF v a n w b m = false := by simp [withinF, hc]
    rw [hw]
    simp (disch := first | omega | (simp only [List.length_append, List.length_cons, List.length_nil]; omega)) only [hc, go_sem, fill_c, ↓reduceIte, reduceCtorEq, Nat.reduceAdd, Nat.reduceSub, Nat.reducePow, Nat.reduceMul, Nat.reduceEqDiff, Nat.reduceLT, Nat.reduceLeDiff, Int.reduceToNat, Int.reduceLT, Int.reduceLE, Int.reduceEq, Int.reduceNeg, Int.reduceAdd, Int.reduceSub, Int.reduceMul]
    exact FinOk.drop (.inl rfl) (by simp [underL, underD]) ⟨rfl, rfl⟩
theorem rwithin_fc (h : Heap) (v n w m : Int) (a b : List UInt8) (ha : a.length = 16) (hb : b.length = 16) :
    FC Try.prog 26 [.agg (pc v a n), .agg (pc w b m)] h fun d h' => d = .bool (withinF v a n w b m) ∧ h' = h := by
  have er := rcheck_fc
  have eh := rhas_fc
  simp only [prefD_pc] at er eh
  refine FC.goes cf26 ?_; simp only [c26]; simp only [List.length_cons, List.length_nil, Nat.reduceAdd, Nat.reduceSub, List.replicate_succ, List.replicate_zero, List.cons_append, List.nil_append]
  simp (disch := first | omega | (simp only [List.length_append, List.length_cons, List.length_nil]; omega)) only [c26r0, c26r1, pc_one, pc_len, ha, hb, pc_take, go_sem, fill_c, ↓reduceIte, reduceCtorEq, Nat.reduceAdd, Nat.reduceSub, Nat.reducePow, Nat.reduceMul, Nat.reduceEqDiff, Nat.reduceLT, Nat.reduceLeDiff, Int.reduceToNat, Int.reduceLT, Int.reduceLE, Int.reduceEq, Int.reduceNeg, Int.reduceAdd, Int.reduceSub, Int.reduceMul]
  refine gfc_of (er _ v n a ha) ?_
  rintro d h' ⟨rfl, e⟩
  rw [e]
  by_cases hc : checkF v a n = 0
  · have e1 : decide (checkF v a n = 0) = true := decide_eq_true hc
    by_cases hmn : m ≤ n
    · have hw : withinF v a n w b m = hasF w b m v a := by simp [withinF, hc, hmn]
      rw [hw]
      simp (disch := first | omega | (simp only [List.length_append, List.length_cons, List.length_nil]; omega)) only [e1, hmn, pc_one, pc_len, ha, hb, pc_take, pc_n, pc_v, pc_a, pc_dl, go_sem, fill_c, ↓reduceIte, reduceCtorEq, Nat.reduceAdd, Nat.reduceSub, Nat.reducePow, Nat.reduceMul, Nat.reduceEqDiff, Nat.reduceLT, Nat.reduceLeDiff, Int.reduceToNat, Int.reduceLT, Int.reduceLE, Int.reduceEq, Int.reduceNeg, Int.reduceAdd, Int.reduceSub, Int.reduceMul]
      refine gfc_of (eh _ w m v b a hb ha) ?_
      rintro d h' ⟨rfl, e⟩
      rw [e]
      simp (disch := first | omega | (simp only [List.length_append, List.length_cons, List.length_nil]; omega)) only [go_sem, fill_c, ↓reduceIte, reduceCtorEq, Nat.reduceAdd, Nat.reduceSub, Nat.reducePow, Nat.reduceMul, Nat.reduceEqDiff, Nat.reduceLT, Nat.reduceLeDiff, Int.reduceToNat, Int.reduceLT, Int.reduceLE, Int.reduceEq, Int.reduceNeg, Int.reduceAdd, Int.reduceSub, Int.reduceMul]
      exact FinOk.drop (.inl rfl) (by simp [underL, underD]) ⟨rfl, rfl⟩
    · have hw : withinF v a n w b m = false := by simp [withinF, hmn]
      rw [hw]
      simp (disch := first | omega | (simp only [List.length_append, List.length_cons, List.length_nil]; omega)) only [e1, hmn, pc_one, pc_len, ha, hb, pc_take, pc_n, pc_v, pc_a, pc_dl, go_sem, fill_c, ↓reduceIte, reduceCtorEq, Nat.reduceAdd, Nat.reduceSub, Nat.reducePow, Nat.reduceMul, Nat.reduceEqDiff, Nat.reduceLT, Nat.reduceLeDiff, Int.reduceToNat, Int.reduceLT, Int.reduceLE, Int.reduceEq, Int.reduceNeg, Int.reduceAdd, Int.reduceSub, Int.reduceMul]
      exact FinOk.drop (.inl rfl) (by simp [underL, underD]) ⟨rfl, rfl⟩
  · have hw : withinF v a n w b m = false := by simp [withinF, hc]
    rw [hw]
    simp (disch := first | omega | (simp only [List.length_append, List.length_cons, List.length_nil]; omega)) only [hc, go_sem, fill_c, ↓reduceIte, reduceCtorEq, Nat.reduceAdd, Nat.reduceSub, Nat.reducePow, Nat.reduceMul, Nat.reduceEqDiff, Nat.reduceLT, Nat.reduceLeDiff, Int.reduceToNat, Int.reduceLT, Int.reduceLE, Int.reduceEq, Int.reduceNeg, Int.reduceAdd, Int.reduceSub, Int.reduceMul]
    exact FinOk.drop (.inl rfl) (by simp [underL, underD]) ⟨rfl, rfl⟩
theorem pmeet_fc (h : Heap) (v n w m : Int) (a b : List UInt8) (ha : a.length = 16) (hb : b.length = 16) :
    FC Try.prog 30 [.agg (pc v a n), .agg (pc w b m)] h fun d h' => d = .bool (withinF v a n w b m || withinF w b m v a n) ∧ h' = h := by
  refine FC.goes cf30 ?_; simp only [c30]; simp only [List.length_cons, List.length_nil, Nat.reduceAdd, Nat.reduceSub, List.replicate_succ, List.replicate_zero, List.cons_append, List.nil_append]
  simp (disch := first | omega | (simp only [List.length_append, List.length_cons, List.length_nil]; omega)) only [c30r0, c30r1, pc_one, pc_len, ha, hb, pc_take, go_sem, fill_c, ↓reduceIte, reduceCtorEq, Nat.reduceAdd, Nat.reduceSub, Nat.reducePow, Nat.reduceMul, Nat.reduceEqDiff, Nat.reduceLT, Nat.reduceLeDiff, Int.reduceToNat, Int.reduceLT, Int.reduceLE, Int.reduceEq, Int.reduceNeg, Int.reduceAdd, Int.reduceSub, Int.reduceMul]
  refine gfc_of (pwithin_fc _ v n w m a b ha hb) ?_
  rintro d h' ⟨rfl, e⟩
  rw [e]
  cases hw : withinF v a n w b m with
  | true =>
    simp (disch := first | omega | (simp only [List.length_append, List.length_cons, List.length_nil]; omega)) only [go_sem, fill_c, ↓reduceIte, reduceCtorEq, Nat.reduceAdd, Nat.reduceSub, Nat.reducePow, Nat.reduceMul, Nat.reduceEqDiff, Nat.reduceLT, Nat.reduceLeDiff, Int.reduceToNat, Int.reduceLT, Int.reduceLE, Int.reduceEq, Int.reduceNeg, Int.reduceAdd, Int.reduceSub, Int.reduceMul]
    exact FinOk.drop (.inl rfl) (by simp [underL, underD]) ⟨rfl, rfl⟩
  | false =>
    simp (disch := first | omega | (simp only [List.length_append, List.length_cons, List.length_nil]; omega)) only [pc_one, pc_len, ha, hb, pc_take, go_sem, fill_c, ↓reduceIte, reduceCtorEq, Nat.reduceAdd, Nat.reduceSub, Nat.reducePow, Nat.reduceMul, Nat.reduceEqDiff, Nat.reduceLT, Nat.reduceLeDiff, Int.reduceToNat, Int.reduceLT, Int.reduceLE, Int.reduceEq, Int.reduceNeg, Int.reduceAdd, Int.reduceSub, Int.reduceMul]
    refine gfc_of (pwithin_fc _ w m v n b a hb ha) ?_
    rintro d h' ⟨rfl, e⟩
    rw [e]
    simp (disch := first | omega | (simp only [List.length_append, List.length_cons, List.length_nil]; omega)) only [go_sem, fill_c, ↓reduceIte, reduceCtorEq, Nat.reduceAdd, Nat.reduceSub, Nat.reducePow, Nat.reduceMul, Nat.reduceEqDiff, Nat.reduceLT, Nat.reduceLeDiff, Int.reduceToNat, Int.reduceLT, Int.reduceLE, Int.reduceEq, Int.reduceNeg, Int.reduceAdd, Int.reduceSub, Int.reduceMul]
    exact FinOk.drop (.inl rfl) (by simp [underL, underD]) ⟨rfl, rfl⟩
end Go.Proofs

/-
  Own work. Prefixes as arguments.
-/
namespace Go.Proofs
open Go Go.Ytodlpcoffmnmbaa
set_option linter.unusedVariables false
set_option linter.unusedSimpArgs false
set_option maxRecDepth 10000

theorem pc_enc {x : (Sh.pair (.int .i64) (.pair (.arr 16 (.int .u8)) (.pair (.int .i64) .unit))).T} {cs : List D} (ok : (Sh.pair (.int .i64) (.pair (.arr 16 (.int .u8)) (.pair (.int .i64) .unit))).ok x) (en : (Sh.pair (.int .i64) (.pair (.arr 16 (.int .u8)) (.pair (.int .i64) .unit))).Enc x cs) :
    ∃ (v : Int) (a : List UInt8) (n : Int), a.length = 16 ∧ cs = pc v a n ∧ (-9223372036854775808 ≤ v ∧ v ≤ 9223372036854775807) ∧ (-9223372036854775808 ≤ n ∧ n ≤ 9223372036854775807) := by
  obtain ⟨c1, r1, e1, ⟨c2, r2, e2, ⟨c3, r3, e3, e4, rfl⟩, rfl⟩, rfl⟩ := en
  simp only [Sh.Enc] at e1 e3 e4
  subst e1; subst e3; subst e4
  have h2 : c2 = (x.2.1 : List Int).map (D.int .u8) := encL_map.1 e2
  obtain ⟨l, h3, _, h4⟩ := u8_bytes (zs := (x.2.1 : List Int)) ok.2.1.2
  refine ⟨x.1, l, x.2.2.1, by rw [h4]; exact ok.2.1.1, ?_, ok.1, ok.2.2.1⟩
  rw [h2, h3]; rfl
theorem pc_open {x : (Sh.pair (.int .i64) (.pair (.arr 16 (.int .u8)) (.pair (.int .i64) .unit))).T} {d : D} (ok : (Sh.pair (.int .i64) (.pair (.arr 16 (.int .u8)) (.pair (.int .i64) .unit))).ok x) (en : (Sh.pair (.int .i64) (.pair (.arr 16 (.int .u8)) (.pair (.int .i64) .unit))).EncV x d) :
    ∃ (v : Int) (a : List UInt8) (n : Int), a.length = 16 ∧ d = .agg (pc v a n) ∧ (-9223372036854775808 ≤ v ∧ v ≤ 9223372036854775807) ∧ (-9223372036854775808 ≤ n ∧ n ≤ 9223372036854775807) := by
  obtain ⟨cs, h1, rfl⟩ := en
  obtain ⟨v, a, n, h2, rfl, h3⟩ := pc_enc ok h1
  exact ⟨v, a, n, h2, rfl, h3⟩
/-- An array of two. -/
theorem encL_two {α : Type} {E : α → List D → Prop} {xs : List α} {cs : List D} (hl : xs.length = 2) (h : EncL E xs cs) : ∃ x y a b, xs = [x, y] ∧ E x a ∧ E y b ∧ cs = a ++ b := by
  match xs, hl with
  | [x, y], _ =>
    obtain ⟨a, b, h1, ⟨c, d, h2, h3, rfl⟩, rfl⟩ := h
    simp only [EncL] at h3
    subst h3
    exact ⟨x, y, a, c, rfl, h1, h2, by rw [List.append_nil]⟩
theorem encL_three {α : Type} {E : α → List D → Prop} {xs : List α} {cs : List D} (hl : xs.length = 3) (h : EncL E xs cs) : ∃ x y z a b c, xs = [x, y, z] ∧ E x a ∧ E y b ∧ E z c ∧ cs = a ++ (b ++ c) := by
  match xs, hl with
  | [x, y, z], _ =>
    obtain ⟨a, b, h1, ⟨c, d, h2, ⟨e, f, h3, h4, rfl⟩, rfl⟩, rfl⟩ := h
    simp only [EncL] at h4
    subst h4
    exact ⟨x, y, z, a, c, e, rfl, h1, h2, h3, by rw [List.append_nil]⟩
end Go.Proofs

/-
  Own work. Make, Halves and Last, the program's and the document's.
-/
namespace Go.Proofs
open Go Go.Ytodlpcoffmnmbaa
set_option linter.unusedVariables false
set_option linter.unusedSimpArgs false
set_option maxRecDepth 10000

/-! ### weighbridge/prefix.Make, params 3 -/
def c17r0 : List AStm := [.op (some 4) none (.box (.t 1)),
    .op (some 6) none (.alloc [(.int .i64 0), (.int .u8 0), (.int .u8 0), (.int .u8 0), (.int .u8 0), (.int .u8 0), (.int .u8 0), (.int .u8 0), (.int .u8 0), (.int .u8 0), (.int .u8 0), (.int .u8 0), (.int .u8 0), (.int .u8 0), (.int .u8 0), (.int .u8 0), (.int .u8 0), (.int .i64 0)]),
    .op (some 7) none (.mv (.c (.int .i64 0)))]
def c17r1 : List AStm := [.op (some 9) none (.mv (.t 0)),
    .op (some 10) none (.mv (.t 2)),
    .call (some 11) none (.c (.fn (.func 56) [] [])) [(.t 9), (.t 10)],
    .op (some 8) none (.mv (.t 11))]
def c17r2 : List AStm := [.op (some 12) none (.mv (.t 8)),
    .op (some 13) none (.bin .neq (.t 12) (.c (.int .i64 0)))]
def c17r3 : List AStm := [.op (some 14) none (.build [(.int .i64 0), (.int .u8 0), (.int .u8 0), (.int .u8 0), (.int .u8 0), (.int .u8 0), (.int .u8 0), (.int .u8 0), (.int .u8 0), (.int .u8 0), (.int .u8 0), (.int .u8 0), (.int .u8 0), (.int .u8 0), (.int .u8 0), (.int .u8 0), (.int .u8 0), (.int .i64 0)] []),
    .op (some 15) none (.mv (.t 8)),
    .op none none (.store 18 (.t 6) (.t 14)),
    .op (some 7) none (.mv (.t 15))]
def c17r4 : List AStm := [.op (some 16) none (.mv (.t 0)),
    .op (some 17) none (.load (some 16) (.t 4)),
    .op (some 18) none (.mv (.t 2)),
    .call (some 19) none (.c (.fn (.func 57) [] [])) [(.t 17), (.t 18)],
    .op (some 20) none (.mv (.t 2)),
    .op (some 21) none (.build [(.int .i64 0), (.int .u8 0), (.int .u8 0), (.int .u8 0), (.int .u8 0), (.int .u8 0), (.int .u8 0), (.int .u8 0), (.int .u8 0), (.int .u8 0), (.int .u8 0), (.int .u8 0), (.int .u8 0), (.int .u8 0), (.int .u8 0), (.int .u8 0), (.int .u8 0), (.int .i64 0)] [(0, 1, (.t 16)), (1, 16, (.t 19)), (17, 1, (.t 20))]),
    .op none none (.store 18 (.t 6) (.t 21)),
    .op (some 7) none (.mv (.c (.int .i64 0)))]
def c17 : CF := ⟨.seq (.reg c17r0) (.seq (.seq (.reg c17r1) (.seq (.reg c17r2) (.cond (.t 13) (.seq (.reg c17r3) (.ret)) (.skip)))) (.seq (.reg c17r4) (.ret))), [.cell 6 (some 18), .tmp 7], 22⟩
theorem cf17 : cfun Try.prog 17 = some c17 := by kernel_rfl

/-! ### weighbridge/prefix.Halves, params 1 -/
def c19r0 : List AStm := [.op (some 1) none (.box (.t 0)),
    .op (some 2) none (.alloc [(.int .i64 0), (.int .u8 0), (.int .u8 0), (.int .u8 0), (.int .u8 0), (.int .u8 0), (.int .u8 0), (.int .u8 0), (.int .u8 0), (.int .u8 0), (.int .u8 0), (.int .u8 0), (.int .u8 0), (.int .u8 0), (.int .u8 0), (.int .u8 0), (.int .u8 0), (.int .i64 0)]),
    .op (some 3) none (.alloc [(.int .i64 0), (.int .u8 0), (.int .u8 0), (.int .u8 0), (.int .u8 0), (.int .u8 0), (.int .u8 0), (.int .u8 0), (.int .u8 0), (.int .u8 0), (.int .u8 0), (.int .u8 0), (.int .u8 0), (.int .u8 0), (.int .u8 0), (.int .u8 0), (.int .u8 0), (.int .i64 0)]),
    .op (some 4) none (.mv (.c (.bool false)))]
def c19r1 : List AStm := [.op (some 12) none (.faddr 0 (.t 1)),
    .op (some 13) none (.load none (.t 12)),
    .call (some 14) none (.c (.fn (.func 60) [] [])) [(.t 13)],
    .op (some 11) none (.mv (.t 14)),
    .op (some 15) none (.ext (.t 11) 0),
    .op (some 16) none (.ext (.t 11) 1),
    .op (some 5) none (.mv (.t 15)),
    .op (some 6) none (.mv (.t 16))]
def c19r2 : List AStm := [.op (some 17) none (.load (some 18) (.t 1)),
    .call (some 18) none (.c (.fn (.func 61) [] [])) [(.t 17)],
    .op (some 19) none (.un .not (.t 18)),
    .op (some 20) none (.mv (.t 19)),
    .op (some 21) (some (20, false)) (.faddr 17 (.t 1)),
    .op (some 22) (some (20, false)) (.load none (.t 21)),
    .op (some 23) (some (20, false)) (.mv (.t 5)),
    .op (some 24) (some (20, false)) (.bin .eql (.t 22) (.t 23)),
    .op (some 25) none (.pick (.t 20) (.c (.bool true)) (.t 24))]
def c19r3 : List AStm := [.op (some 26) none (.build [(.int .i64 0), (.int .u8 0), (.int .u8 0), (.int .u8 0), (.int .u8 0), (.int .u8 0), (.int .u8 0), (.int .u8 0), (.int .u8 0), (.int .u8 0), (.int .u8 0), (.int .u8 0), (.int .u8 0), (.int .u8 0), (.int .u8 0), (.int .u8 0), (.int .u8 0), (.int .i64 0)] []),
    .op (some 27) none (.build [(.int .i64 0), (.int .u8 0), (.int .u8 0), (.int .u8 0), (.int .u8 0), (.int .u8 0), (.int .u8 0), (.int .u8 0), (.int .u8 0), (.int .u8 0), (.int .u8 0), (.int .u8 0), (.int .u8 0), (.int .u8 0), (.int .u8 0), (.int .u8 0), (.int .u8 0), (.int .i64 0)] []),
    .op none none (.store 18 (.t 2) (.t 26)),
    .op none none (.store 18 (.t 3) (.t 27)),
    .op (some 4) none (.mv (.c (.bool false)))]
def c19r4 : List AStm := [.op (some 28) none (.load (some 18) (.t 1)),
    .op (some 29) none (.load (some 18) (.t 1)),
    .op (some 7) none (.alloc [(.int .i64 0), (.int .u8 0), (.int .u8 0), (.int .u8 0), (.int .u8 0), (.int .u8 0), (.int .u8 0), (.int .u8 0), (.int .u8 0), (.int .u8 0), (.int .u8 0), (.int .u8 0), (.int .u8 0), (.int .u8 0), (.int .u8 0), (.int .u8 0), (.int .u8 0), (.int .i64 0)]),
    .op (some 8) none (.alloc [(.int .i64 0), (.int .u8 0), (.int .u8 0), (.int .u8 0), (.int .u8 0), (.int .u8 0), (.int .u8 0), (.int .u8 0), (.int .u8 0), (.int .u8 0), (.int .u8 0), (.int .u8 0), (.int .u8 0), (.int .u8 0), (.int .u8 0), (.int .u8 0), (.int .u8 0), (.int .i64 0)]),
    .op none none (.store 18 (.t 7) (.t 28)),
    .chk 29 none (.load (some 18) (.t 1)),
    .op none none (.store 18 (.t 8) (.t 29))]
def c19r5 : List AStm := []
def c19r6 : List AStm := [.op (some 30) none (.faddr 17 (.t 1)),
    .op (some 31) none (.load none (.t 30)),
    .op (some 32) none (.bin .quo (.t 31) (.c (.int .i64 8))),
    .op (some 33) none (.faddr 1 (.t 8)),
    .op (some 34) none (.ixa 16 1 (.t 33) (.t 32)),
    .op (some 35) none (.load none (.t 34)),
    .op (some 36) none (.faddr 17 (.t 1)),
    .op (some 37) none (.load none (.t 36)),
    .op (some 38) none (.bin .rem (.t 37) (.c (.int .i64 8))),
    .op (some 39) none (.conv .u64 (.t 38)),
    .op (some 40) none (.bin .shr (.c (.int .u8 128)) (.t 39)),
    .op (some 41) none (.bin .or (.t 35) (.t 40)),
    .op (some 42) none (.faddr 1 (.t 8)),
    .op (some 43) none (.ixa 16 1 (.t 42) (.t 32)),
    .op none none (.store 1 (.t 43) (.t 41))]
def c19r7 : List AStm := []
def c19r8 : List AStm := [.op (some 44) none (.build [.nilp, .nilp] [(0, 1, (.t 7)), (1, 1, (.t 8))]),
    .op (some 45) none (.mv (.c (.int .i64 0)))]
def c19r9 : List AStm := [.op (some 46) none (.bin .lss (.t 45) (.c (.int .i64 2)))]
def c19r10 : List AStm := [.op (some 47) none (.ixv 2 1 none (.t 44) (.t 45)),
    .op (some 10) none (.mv (.t 47))]
def c19r11 : List AStm := [.op (some 48) none (.mv (.t 10)),
    .op (some 49) none (.nilchk (.t 48)),
    .op (some 50) none (.faddr 17 (.t 49)),
    .op (some 51) none (.load none (.t 50)),
    .op (some 52) none (.bin .add (.t 51) (.c (.int .i64 1))),
    .op (some 53) none (.nilchk (.t 48)),
    .op (some 54) none (.faddr 17 (.t 53)),
    .op none none (.store 1 (.t 54) (.t 52))]
def c19r12 : List AStm := [.op (some 55) none (.bin .add (.t 45) (.c (.int .i64 1))),
    .op (some 45) none (.mv (.t 55))]
def c19l13 : AC := .seq (.reg c19r9) (.seq (.cond (.t 46) (.skip) (.exit 0)) (.seq (.block 1 (.seq (.reg c19r10) (.reg c19r11))) (.reg c19r12)))
def c19r14 : List AStm := [.op (some 56) none (.load (some 18) (.t 7)),
    .op (some 57) none (.load (some 18) (.t 8)),
    .op none none (.store 18 (.t 2) (.t 56)),
    .chk 57 none (.load (some 18) (.t 8)),
    .op none none (.store 18 (.t 3) (.t 57)),
    .op (some 4) none (.mv (.c (.bool true)))]
def c19r15 : List AStm := []
def c19 : CF := ⟨.seq (.reg c19r0) (.seq (.reg c19r1) (.seq (.seq (.reg c19r2) (.cond (.t 25) (.seq (.reg c19r3) (.ret)) (.skip))) (.seq (.dreg c19r4 c19r5) (.seq (.dreg c19r6 c19r7) (.seq (.seq (.reg c19r8) (.block 0 (.loop c19l13))) (.seq (.dreg c19r14 c19r15) (.ret))))))), [.cell 2 (some 18), .cell 3 (some 18), .tmp 4], 58⟩
theorem cf19 : cfun Try.prog 19 = some c19 := by kernel_rfl

/-! ### weighbridge/weighbridgeref07.Halves, params 1 -/
def c20r0 : List AStm := [.op (some 1) none (.box (.t 0)),
    .op (some 2) none (.alloc [(.int .i64 0), (.int .u8 0), (.int .u8 0), (.int .u8 0), (.int .u8 0), (.int .u8 0), (.int .u8 0), (.int .u8 0), (.int .u8 0), (.int .u8 0), (.int .u8 0), (.int .u8 0), (.int .u8 0), (.int .u8 0), (.int .u8 0), (.int .u8 0), (.int .u8 0), (.int .i64 0)]),
    .op (some 3) none (.alloc [(.int .i64 0), (.int .u8 0), (.int .u8 0), (.int .u8 0), (.int .u8 0), (.int .u8 0), (.int .u8 0), (.int .u8 0), (.int .u8 0), (.int .u8 0), (.int .u8 0), (.int .u8 0), (.int .u8 0), (.int .u8 0), (.int .u8 0), (.int .u8 0), (.int .u8 0), (.int .i64 0)]),
    .op (some 4) none (.mv (.c (.bool false)))]
def c20r1 : List AStm := []
def c20r2 : List AStm := [.op (some 7) none (.load (some 18) (.t 1)),
    .callG (some 8) none (.c (.fn (.func 23) [] [])) [(.t 7)],
    .op (some 9) none (.bin .neq (.t 8) (.c (.int .i64 0))),
    .op (some 10) none (.mv (.t 9)),
    .op (some 11) (some (10, false)) (.faddr 17 (.t 1)),
    .op (some 12) (some (10, false)) (.load none (.t 11)),
    .op (some 13) (some (10, false)) (.faddr 0 (.t 1)),
    .op (some 14) (some (10, false)) (.load none (.t 13)),
    .callG (some 15) (some (10, false)) (.c (.fn (.func 58) [] [])) [(.t 14)],
    .op (some 16) (some (10, false)) (.bin .eql (.t 12) (.t 15)),
    .op (some 17) none (.pick (.t 10) (.c (.bool true)) (.t 16))]
def c20r3 : List AStm := [.op (some 18) none (.build [(.int .i64 0), (.int .u8 0), (.int .u8 0), (.int .u8 0), (.int .u8 0), (.int .u8 0), (.int .u8 0), (.int .u8 0), (.int .u8 0), (.int .u8 0), (.int .u8 0), (.int .u8 0), (.int .u8 0), (.int .u8 0), (.int .u8 0), (.int .u8 0), (.int .u8 0), (.int .i64 0)] []),
    .op (some 19) none (.build [(.int .i64 0), (.int .u8 0), (.int .u8 0), (.int .u8 0), (.int .u8 0), (.int .u8 0), (.int .u8 0), (.int .u8 0), (.int .u8 0), (.int .u8 0), (.int .u8 0), (.int .u8 0), (.int .u8 0), (.int .u8 0), (.int .u8 0), (.int .u8 0), (.int .u8 0), (.int .i64 0)] []),
    .op none none (.store 18 (.t 2) (.t 18)),
    .op none none (.store 18 (.t 3) (.t 19)),
    .op (some 4) none (.mv (.c (.bool false)))]
def c20r4 : List AStm := [.op (some 20) none (.load (some 18) (.t 1)),
    .op (some 21) none (.load (some 18) (.t 1)),
    .op (some 5) none (.alloc [(.int .i64 0), (.int .u8 0), (.int .u8 0), (.int .u8 0), (.int .u8 0), (.int .u8 0), (.int .u8 0), (.int .u8 0), (.int .u8 0), (.int .u8 0), (.int .u8 0), (.int .u8 0), (.int .u8 0), (.int .u8 0), (.int .u8 0), (.int .u8 0), (.int .u8 0), (.int .i64 0)]),
    .op (some 6) none (.alloc [(.int .i64 0), (.int .u8 0), (.int .u8 0), (.int .u8 0), (.int .u8 0), (.int .u8 0), (.int .u8 0), (.int .u8 0), (.int .u8 0), (.int .u8 0), (.int .u8 0), (.int .u8 0), (.int .u8 0), (.int .u8 0), (.int .u8 0), (.int .u8 0), (.int .u8 0), (.int .i64 0)]),
    .op none none (.store 18 (.t 5) (.t 20)),
    .chk 21 none (.load (some 18) (.t 1)),
    .op none none (.store 18 (.t 6) (.t 21))]
def c20r5 : List AStm := []
def c20r6 : List AStm := [.op (some 22) none (.faddr 17 (.t 1)),
    .op (some 23) none (.load none (.t 22)),
    .op (some 24) none (.bin .add (.t 23) (.c (.int .i64 1))),
    .op (some 25) none (.faddr 17 (.t 1)),
    .op (some 26) none (.load none (.t 25)),
    .op (some 27) none (.bin .add (.t 26) (.c (.int .i64 1))),
    .op (some 28) none (.faddr 17 (.t 5)),
    .op none none (.store 1 (.t 28) (.t 24)),
    .chk 25 none (.faddr 17 (.t 1)),
    .chk 26 none (.load none (.t 25)),
    .op (some 29) none (.faddr 17 (.t 6)),
    .op none none (.store 1 (.t 29) (.t 27))]
def c20r7 : List AStm := []
def c20r8 : List AStm := [.op (some 30) none (.faddr 1 (.t 1)),
    .op (some 31) none (.load (some 16) (.t 30)),
    .op (some 32) none (.faddr 17 (.t 1)),
    .op (some 33) none (.load none (.t 32)),
    .call (some 34) none (.c (.fn (.func 62) [] [])) [(.t 31), (.t 33)],
    .op (some 35) none (.faddr 1 (.t 6)),
    .op none none (.store 16 (.t 35) (.t 34))]
def c20r9 : List AStm := [.op (some 36) none (.load (some 18) (.t 5)),
    .op (some 37) none (.load (some 18) (.t 6)),
    .op none none (.store 18 (.t 2) (.t 36)),
    .chk 37 none (.load (some 18) (.t 6)),
    .op none none (.store 18 (.t 3) (.t 37)),
    .op (some 4) none (.mv (.c (.bool true)))]
def c20r10 : List AStm := []
def c20 : CF := ⟨.seq (.reg c20r0) (.seq (.seq (.dreg c20r1 c20r2) (.cond (.t 17) (.seq (.reg c20r3) (.ret)) (.skip))) (.seq (.dreg c20r4 c20r5) (.seq (.dreg c20r6 c20r7) (.seq (.reg c20r8) (.seq (.dreg c20r9 c20r10) (.ret)))))), [.cell 2 (some 18), .cell 3 (some 18), .tmp 4], 38⟩
theorem cf20 : cfun Try.prog 20 = some c20 := by kernel_rfl

/-! ### weighbridge/weighbridgeref07.Last, params 1 -/
def c25r0 : List AStm := [.op (some 1) none (.box (.t 0)),
    .op (some 2) none (.alloc (List.replicate 16 (.int .u8 0)))]
def c25r1 : List AStm := [.op (some 5) none (.load (some 18) (.t 1)),
    .call (some 6) none (.c (.fn (.func 23) [] [])) [(.t 5)],
    .op (some 7) none (.bin .neq (.t 6) (.c (.int .i64 0)))]
def c25r2 : List AStm := [.op (some 8) none (.build (List.replicate 16 (.int .u8 0)) []),
    .op none none (.store 16 (.t 2) (.t 8))]
def c25r3 : List AStm := [.op (some 9) none (.faddr 1 (.t 1)),
    .op (some 10) none (.load (some 16) (.t 9)),
    .op (some 3) none (.alloc (List.replicate 16 (.int .u8 0))),
    .op none none (.store 16 (.t 3) (.t 10))]
def c25r4 : List AStm := [.op (some 11) none (.faddr 17 (.t 1)),
    .op (some 12) none (.load none (.t 11)),
    .op (some 4) none (.mv (.t 12))]
def c25r5 : List AStm := [.op (some 13) none (.mv (.t 4)),
    .op (some 14) none (.faddr 0 (.t 1)),
    .op (some 15) none (.load none (.t 14)),
    .call (some 16) none (.c (.fn (.func 58) [] [])) [(.t 15)],
    .op (some 17) none (.bin .lss (.t 13) (.t 16))]
def c25r6 : List AStm := [.op (some 20) none (.load (some 16) (.t 3)),
    .op (some 21) none (.mv (.t 4)),
    .call (some 22) none (.c (.fn (.func 62) [] [])) [(.t 20), (.t 21)],
    .op none none (.store 16 (.t 3) (.t 22))]
def c25r7 : List AStm := [.op (some 18) none (.mv (.t 4)),
    .op (some 19) none (.bin .add (.t 18) (.c (.int .i64 1))),
    .op (some 4) none (.mv (.t 19))]
def c25l8 : AC := .seq (.seq (.reg c25r5) (.cond (.t 17) (.skip) (.exit 0))) (.seq (.block 1 (.reg c25r6)) (.reg c25r7))
def c25r9 : List AStm := [.op (some 23) none (.load (some 16) (.t 3)),
    .op none none (.store 16 (.t 2) (.t 23))]
def c25 : CF := ⟨.seq (.reg c25r0) (.seq (.seq (.reg c25r1) (.cond (.t 7) (.seq (.reg c25r2) (.ret)) (.skip))) (.seq (.reg c25r3) (.seq (.seq (.reg c25r4) (.block 0 (.loop c25l8))) (.seq (.reg c25r9) (.ret))))), [.cell 2 (some 16)], 24⟩
theorem cf25 : cfun Try.prog 25 = some c25 := by kernel_rfl



theorem pc_zero : pc 0 (zeros 16) 0 = [.int .i64 0, .int .u8 0, .int .u8 0, .int .u8 0, .int .u8 0, .int .u8 0, .int .u8 0, .int .u8 0, .int .u8 0, .int .u8 0, .int .u8 0, .int .u8 0, .int .u8 0, .int .u8 0, .int .u8 0, .int .u8 0, .int .u8 0, .int .i64 0] := rfl
theorem zeros_len (n : Nat) : (zeros n).length = n := by simp [zeros]
theorem pc_over {v n w m : Int} {a b : List UInt8} (hb : b.length = 16) (ha : a.length = 16) : splice (pc w b m) 0 (pc v a n) = pc v a n := splice_all (by rw [pc_len hb, pc_len ha])
theorem pc_fill {v n : Int} {a : List UInt8} (ha : a.length = 16) : fillD (pc 0 (zeros 16) 0) [(0, 1, .int .i64 v), (1, 16, .agg (ofBytes a)), (17, 1, .int .i64 n)] = some (pc v a n) := by
  have hl : (ofBytes a).length = 16 := by rw [ofBytes_length, ha]
  have ho := ofBytes_one a
  rw [fillD, if_pos ⟨rfl, rfl, by rw [pc_len (zeros_len 16)]; omega⟩]
  have e1 : splice (pc 0 (zeros 16) 0) 0 (vcells (.int .i64 v)) = pc v (zeros 16) 0 := rfl
  rw [e1, fillD, if_pos ⟨by simpa [laid] using ho, by simpa [vcells] using hl, by rw [pc_len (zeros_len 16)]; omega⟩]
  have e2 : splice (pc v (zeros 16) 0) 1 (vcells (.agg (ofBytes a))) = pc v a 0 := by
    rw [splice_eq _ _ _ (by rw [pc_len (zeros_len 16)]; simp [vcells, hl])]
    simp only [vcells, hl]
    rw [pc, pc, List.take_succ_cons, List.take_zero, List.drop_succ_cons]
    rw [List.drop_append_of_le_length (by simp [ofBytes_length, zeros]), List.drop_eq_nil_of_le (by simp [ofBytes_length, zeros])]
    rfl
  rw [e2, fillD, if_pos ⟨rfl, rfl, by rw [pc_len ha]; omega⟩, fillD]
  congr 1
  show (pc v a 0).set 17 (.int .i64 n) = pc v a n
  rw [pc, pc, List.set_cons_succ, List.set_append_right _ _ (by omega), hl]; rfl
theorem pc_setn {v n m : Int} {a : List UInt8} (ha : a.length = 16) : (pc v a n).set 17 (.int .i64 m) = pc v a m := by
  have hl : (ofBytes a).length = 16 := by rw [ofBytes_length, ha]
  rw [pc, pc, List.set_cons_succ, List.set_append_right _ _ (by omega), hl]; rfl

theorem pmake_fc (h : Heap) (v n : Int) (a : List UInt8) (ha : a.length = 16) : FC Try.prog 17 [.int .i64 v, .agg (ofBytes a), .int .i64 n] h fun d h' => d = .tup [.agg (pc (makeV v n) (makeA v a n) (makeN v n)), .int .i64 (fitsF v n)] ∧ h' = h := by
  have hal : (ofBytes a).length = 16 := by rw [ofBytes_length, ha]
  have p7 : List.take 16 (ofBytes a) = ofBytes a := List.take_of_length_le (by omega)
  have z1 := zeros_len 16
  refine FC.goes cf17 ?_; simp only [c17]; simp only [List.length_cons, List.length_nil, Nat.reduceAdd, Nat.reduceSub, List.replicate_succ, List.replicate_zero, List.cons_append, List.nil_append]
  simp only [c17r0, c17r1, c17r2, c17r3, c17r4, ← pc_zero]
  simp (disch := first | omega | (simp only [List.length_append, List.length_cons, List.length_nil]; omega)) only [go_sem, fill_c, ↓reduceIte, reduceCtorEq, Nat.reduceAdd, Nat.reduceSub, Nat.reducePow, Nat.reduceMul, Nat.reduceEqDiff, Nat.reduceLT, Nat.reduceLeDiff, Int.reduceToNat, Int.reduceLT, Int.reduceLE, Int.reduceEq, Int.reduceNeg, Int.reduceAdd, Int.reduceSub, Int.reduceMul]
  refine gfc_same (fits_fc _ v n) ?_
  by_cases hf : fitsF v n = 0
  · obtain ⟨h0, h1⟩ := checkF_le hf
    obtain ⟨k, rfl⟩ := Int.eq_ofNat_of_zero_le h0
    have e1 : decide (fitsF v (k : Int) = 0) = true := decide_eq_true hf
    have hfl := frontTo_length a k
    have hm : makeV v (k : Int) = v ∧ makeA v a (k : Int) = frontTo a k ∧ makeN v (k : Int) = k := by simp [makeV, makeA, makeN, hf]
    rw [hm.1, hm.2.1, hm.2.2, hf]
    rw [hf] at e1
    simp (disch := first | omega | (simp only [List.length_append, List.length_cons, List.length_nil]; omega)) only [e1, p7, hal, go_sem, fill_c, ↓reduceIte, reduceCtorEq, Nat.reduceAdd, Nat.reduceSub, Nat.reducePow, Nat.reduceMul, Nat.reduceEqDiff, Nat.reduceLT, Nat.reduceLeDiff, Int.reduceToNat, Int.reduceLT, Int.reduceLE, Int.reduceEq, Int.reduceNeg, Int.reduceAdd, Int.reduceSub, Int.reduceMul]
    refine gfc_same (mask_fc _ a ha k (by omega)) ?_
    simp (disch := first | omega | (simp only [List.length_append, List.length_cons, List.length_nil]; omega)) only [pc_fill, hfl, pc_len, pc_one, z1, pc_over, pc_take, go_sem, ↓reduceIte, reduceCtorEq, Nat.reduceAdd, Nat.reduceSub, Nat.reducePow, Nat.reduceMul, Nat.reduceEqDiff, Nat.reduceLT, Nat.reduceLeDiff, Int.reduceToNat, Int.reduceLT, Int.reduceLE, Int.reduceEq, Int.reduceNeg, Int.reduceAdd, Int.reduceSub, Int.reduceMul]
    exact FinOk.drop (.inl rfl) (by simp [underL, underD, pc_under]) ⟨rfl, rfl⟩
  · have hm : makeV v n = 0 ∧ makeA v a n = zeros 16 ∧ makeN v n = 0 := by simp [makeV, makeA, makeN, hf]
    rw [hm.1, hm.2.1, hm.2.2]
    simp (disch := first | omega | (simp only [List.length_append, List.length_cons, List.length_nil]; omega)) only [hf, pc_len, pc_one, z1, pc_over, pc_take, go_sem, fill_c, ↓reduceIte, reduceCtorEq, Nat.reduceAdd, Nat.reduceSub, Nat.reducePow, Nat.reduceMul, Nat.reduceEqDiff, Nat.reduceLT, Nat.reduceLeDiff, Int.reduceToNat, Int.reduceLT, Int.reduceLE, Int.reduceEq, Int.reduceNeg, Int.reduceAdd, Int.reduceSub, Int.reduceMul]
    exact FinOk.drop (.inl rfl) (by simp [underL, underD, pc_under]) ⟨rfl, rfl⟩
theorem rmake2_fc (h : Heap) (v n : Int) (a : List UInt8) (ha : a.length = 16) : FC Try.prog 18 [.int .i64 v, .agg (ofBytes a), .int .i64 n] h fun d h' => d = .tup [.agg (pc (makeV v n) (makeA v a n) (makeN v n)), .int .i64 (fitsF v n)] ∧ h' = h := by
  by_cases hf : fitsF v n = 0
  · obtain ⟨h0, h1⟩ := checkF_le hf
    obtain ⟨k, rfl⟩ := Int.eq_ofNat_of_zero_le h0
    have hm : makeV v (k : Int) = v ∧ makeA v a (k : Int) = frontTo a k ∧ makeN v (k : Int) = k := by simp [makeV, makeA, makeN, hf]
    rw [hm.1, hm.2.1, hm.2.2, hf]
    exact rmake_fc h v a ha k hf
  · have hm : makeV v n = 0 ∧ makeA v a n = zeros 16 ∧ makeN v n = 0 := by simp [makeV, makeA, makeN, hf]
    rw [hm.1, hm.2.1, hm.2.2]
    have z1 := zeros_len 16
    have hfit := mostR_fits (v := v) (n := n)
    refine FC.goes cf18 ?_; simp only [c18]; simp only [List.length_cons, List.length_nil, Nat.reduceAdd, Nat.reduceSub, List.replicate_succ, List.replicate_zero, List.cons_append, List.nil_append]
    simp only [c18r0, c18r1, c18r2, c18r3, c18r4, ← pc_zero]
    simp (disch := first | omega | (simp only [List.length_append, List.length_cons, List.length_nil]; omega)) only [go_sem, fill_c, ↓reduceIte, reduceCtorEq, Nat.reduceAdd, Nat.reduceSub, Nat.reducePow, Nat.reduceMul, Nat.reduceEqDiff, Nat.reduceLT, Nat.reduceLeDiff, Int.reduceToNat, Int.reduceLT, Int.reduceLE, Int.reduceEq, Int.reduceNeg, Int.reduceAdd, Int.reduceSub, Int.reduceMul]
    refine gfc_same (rmost_fc _ v) ?_
    by_cases hm : mostR v < 0
    · rw [if_pos hm] at hfit
      rw [hfit]
      simp (disch := first | omega | (simp only [List.length_append, List.length_cons, List.length_nil]; omega)) only [hm, pc_len, pc_one, z1, pc_over, pc_take, go_sem, fill_c, ↓reduceIte, reduceCtorEq, Nat.reduceAdd, Nat.reduceSub, Nat.reducePow, Nat.reduceMul, Nat.reduceEqDiff, Nat.reduceLT, Nat.reduceLeDiff, Int.reduceToNat, Int.reduceLT, Int.reduceLE, Int.reduceEq, Int.reduceNeg, Int.reduceAdd, Int.reduceSub, Int.reduceMul]
      exact FinOk.drop (.inl rfl) (by simp [underL, underD, pc_under]) ⟨rfl, rfl⟩
    · rw [if_neg hm] at hfit
      have hc : n < 0 ∨ mostR v < n := Classical.byContradiction fun h => hf (by rw [hfit, if_neg h])
      rw [if_pos hc] at hfit
      rw [hfit]
      by_cases h0 : n < 0
      · simp (disch := first | omega | (simp only [List.length_append, List.length_cons, List.length_nil]; omega)) only [hm, h0, pc_len, pc_one, z1, pc_over, pc_take, go_sem, fill_c, ↓reduceIte, reduceCtorEq, Nat.reduceAdd, Nat.reduceSub, Nat.reducePow, Nat.reduceMul, Nat.reduceEqDiff, Nat.reduceLT, Nat.reduceLeDiff, Int.reduceToNat, Int.reduceLT, Int.reduceLE, Int.reduceEq, Int.reduceNeg, Int.reduceAdd, Int.reduceSub, Int.reduceMul]
        exact FinOk.drop (.inl rfl) (by simp [underL, underD, pc_under]) ⟨rfl, rfl⟩
      · have h1 : mostR v < n := by rcases hc with h | h; exact absurd h h0; exact h
        simp (disch := first | omega | (simp only [List.length_append, List.length_cons, List.length_nil]; omega)) only [hm, h0, go_sem, fill_c, ↓reduceIte, reduceCtorEq, Nat.reduceAdd, Nat.reduceSub, Nat.reducePow, Nat.reduceMul, Nat.reduceEqDiff, Nat.reduceLT, Nat.reduceLeDiff, Int.reduceToNat, Int.reduceLT, Int.reduceLE, Int.reduceEq, Int.reduceNeg, Int.reduceAdd, Int.reduceSub, Int.reduceMul]
        refine gfc_same (rmost_fc _ v) ?_
        simp (disch := first | omega | (simp only [List.length_append, List.length_cons, List.length_nil]; omega)) only [h1, pc_len, pc_one, z1, pc_over, pc_take, go_sem, fill_c, ↓reduceIte, reduceCtorEq, Nat.reduceAdd, Nat.reduceSub, Nat.reducePow, Nat.reduceMul, Nat.reduceEqDiff, Nat.reduceLT, Nat.reduceLeDiff, Int.reduceToNat, Int.reduceLT, Int.reduceLE, Int.reduceEq, Int.reduceNeg, Int.reduceAdd, Int.reduceSub, Int.reduceMul]
        exact FinOk.drop (.inl rfl) (by simp [underL, underD, pc_under]) ⟨rfl, rfl⟩

theorem shr128 (k : Nat) (h : k < 8) : arith .shr (.int .u8 128) (.int .u64 (k : Int)) = some (.int .u8 ((2 ^ (7 - k) : Nat) : Int)) := by
  have h1 := shr_u8 (x := 128) (k' := .u64) (b := (k : Int)) (by omega) (by omega)
  have h2 : ∀ k : Fin 8, 128 / 2 ^ k.val = 2 ^ (7 - k.val) := by decide
  have h3 := h2 ⟨k, h⟩
  simp only [Int.toNat_natCast] at h1
  simp only at h3
  rw [h3] at h1
  exact h1
theorem pc_byte {v n : Int} {a : List UInt8} (ha : a.length = 16) {k : Nat} (hk : k < 16) : (List.drop (1 + k) (pc v a n))[0]? = some (.int .u8 ((a.getD k 0).toNat : Int)) := by
  have hl : (ofBytes a).length = 16 := by rw [ofBytes_length, ha]
  rw [Nat.add_comm, pc, List.drop_succ_cons, List.drop_append_of_le_length (by omega), List.getElem?_append_left (by rw [List.length_drop]; omega)]
  exact byte_at ha hk
theorem pc_setb {v n : Int} {a : List UInt8} (ha : a.length = 16) {k : Nat} (hk : k < 16) (b : UInt8) : (pc v a n).set (1 + k) (.int .u8 (b.toNat : Int)) = pc v (a.set k b) n := by
  have hl : (ofBytes a).length = 16 := by rw [ofBytes_length, ha]
  rw [Nat.add_comm, pc, pc, List.set_cons_succ, List.set_append_left _ _ (by omega), ofBytes_put]
theorem i64_add1 {n : Nat} (h : n ≤ 128) : IntKind.i64.wrap ((n : Int) + 1) = (n : Int) + 1 := w_i64 (by omega) (by omega)
theorem half_set (a : List UInt8) (n : Nat) : ((a.getD (n / 8) 0).toNat ||| 2 ^ (7 - n % 8)) = (UInt8.ofNat ((a.getD (n / 8) 0).toNat ||| 2 ^ (7 - n % 8))).toNat :=
  (UInt8.toNat_ofNat_of_lt' (by exact or_lt _ (by omega))).symm

theorem phalves_fc (h : Heap) (v n : Int) (a : List UInt8) (ha : a.length = 16) : FC Try.prog 19 [.agg (pc v a n)] h fun d h' =>
    d = .tup [.agg (pc (halfV v a n) (halfL v a n) (halfN v a n)), .agg (pc (halfV v a n) (halfH v a n) (halfN v a n)), .bool (halfB v a n)] ∧ h' = h := by
  have z1 := zeros_len 16
  have er := right_fc
  simp only [prefD_pc] at er
  refine FC.goes cf19 ?_; simp only [c19]; simp only [List.length_cons, List.length_nil, Nat.reduceAdd, Nat.reduceSub, List.replicate_succ, List.replicate_zero, List.cons_append, List.nil_append]
  simp only [c19r0, c19r1, c19r2, c19r3, c19r4, ← pc_zero]
  simp (disch := first | omega | (simp only [List.length_append, List.length_cons, List.length_nil]; omega)) only [c19r0, c19r1, c19r2, c19r3, c19r4, c19r5, c19r6, c19r7, c19r8, c19r9, c19r10, c19r11, c19r12, c19l13, c19r14, c19r15, pc_one, pc_len, pc_v, go_sem, fill_c, ↓reduceIte, reduceCtorEq, Nat.reduceAdd, Nat.reduceSub, Nat.reducePow, Nat.reduceMul, Nat.reduceEqDiff, Nat.reduceLT, Nat.reduceLeDiff, Int.reduceToNat, Int.reduceLT, Int.reduceLE, Int.reduceEq, Int.reduceNeg, Int.reduceAdd, Int.reduceSub, Int.reduceMul]
  refine gfc_same (pmost_fc _ v) ?_
  simp (disch := first | omega | (simp only [List.length_append, List.length_cons, List.length_nil]; omega)) only [pc_take, pc_len, go_sem, fill_c, ↓reduceIte, reduceCtorEq, Nat.reduceAdd, Nat.reduceSub, Nat.reducePow, Nat.reduceMul, Nat.reduceEqDiff, Nat.reduceLT, Nat.reduceLeDiff, Int.reduceToNat, Int.reduceLT, Int.reduceLE, Int.reduceEq, Int.reduceNeg, Int.reduceAdd, Int.reduceSub, Int.reduceMul]
  refine gfc_same (er _ v n a ha) ?_
  cases hb : halfB v a n with
  | false =>
    have hh : halfV v a n = 0 ∧ halfL v a n = zeros 16 ∧ halfH v a n = zeros 16 ∧ halfN v a n = 0 := by simp [halfV, halfL, halfH, halfN, hb]
    rw [hh.1, hh.2.1, hh.2.2.1, hh.2.2.2]
    by_cases hc : checkF v a n = 0
    · have hn : n = mostN v := by simpa [halfB, hc] using hb
      have e1 : decide (n = mostN v) = true := decide_eq_true hn
      simp (disch := first | omega | (simp only [List.length_append, List.length_cons, List.length_nil]; omega)) only [hc, e1, pc_n, pc_len, pc_one, z1, pc_over, pc_take, go_sem, fill_c, ↓reduceIte, reduceCtorEq, Nat.reduceAdd, Nat.reduceSub, Nat.reducePow, Nat.reduceMul, Nat.reduceEqDiff, Nat.reduceLT, Nat.reduceLeDiff, Int.reduceToNat, Int.reduceLT, Int.reduceLE, Int.reduceEq, Int.reduceNeg, Int.reduceAdd, Int.reduceSub, Int.reduceMul]
      exact FinOk.drop (.inl rfl) (by simp [underL, underD, pc_under]) ⟨rfl, rfl⟩
    · simp (disch := first | omega | (simp only [List.length_append, List.length_cons, List.length_nil]; omega)) only [hc, pc_n, pc_len, pc_one, z1, pc_over, pc_take, go_sem, fill_c, ↓reduceIte, reduceCtorEq, Nat.reduceAdd, Nat.reduceSub, Nat.reducePow, Nat.reduceMul, Nat.reduceEqDiff, Nat.reduceLT, Nat.reduceLeDiff, Int.reduceToNat, Int.reduceLT, Int.reduceLE, Int.reduceEq, Int.reduceNeg, Int.reduceAdd, Int.reduceSub, Int.reduceMul]
      exact FinOk.drop (.inl rfl) (by simp [underL, underD, pc_under]) ⟨rfl, rfl⟩
  | true =>
    have hc : checkF v a n = 0 := by
      simp only [halfB, Bool.and_eq_true, decide_eq_true_eq] at hb; exact hb.1
    have hn : ¬ n = mostN v := by
      simp only [halfB, Bool.and_eq_true, decide_eq_true_eq, Bool.not_eq_true', decide_eq_false_iff_not] at hb; exact hb.2
    obtain ⟨m, hm1, hm2, h0, h1, h2⟩ := fits_most (check_fits hc)
    obtain ⟨k, rfl⟩ := Int.eq_ofNat_of_zero_le h0
    have hk : k < 128 := by omega
    have hh : halfV v a (k : Int) = v ∧ halfL v a (k : Int) = a ∧ halfH v a (k : Int) = setA a k ∧ halfN v a (k : Int) = (k : Int) + 1 := by simp [halfV, halfL, halfH, halfN, hb]
    rw [hh.1, hh.2.1, hh.2.2.1, hh.2.2.2]
    have s1 := shr128 (k % 8) (by omega)
    have g1 := pc_byte (v := v) (n := (k : Int)) ha (k := k / 8) (by omega)
    have lt1 := (a.getD (k / 8) 0).toNat_lt
    have lt2 : 2 ^ (7 - k % 8) < 256 := Nat.lt_of_lt_of_le (Nat.pow_lt_pow_right (by omega) (show 7 - k % 8 < 8 by omega)) (by omega)
    have o1 := or_u8 (x := (a.getD (k / 8) 0).toNat) (y := 2 ^ (7 - k % 8)) lt1 lt2
    have q1 := pc_setb (v := v) (n := (k : Int)) ha (k := k / 8) (by omega) (UInt8.ofNat ((a.getD (k / 8) 0).toNat ||| 2 ^ (7 - k % 8)))
    rw [← half_set] at q1
    have hsl : (setA a k).length = 16 := by rw [setA_length, ha]
    have q2 : (pc v a (k : Int)).set (1 + k / 8) (.int .u8 (((a.getD (k / 8) 0).toNat ||| 2 ^ (7 - k % 8) : Nat) : Int)) = pc v (setA a k) (k : Int) := q1
    have w1 := i64_add1 (n := k) (by omega)
    simp (disch := first | omega | (simp only [List.length_append, List.length_cons, List.length_nil]; omega)) only [hc, hn, pc_n, pc_len, pc_one, z1, pc_over, pc_take, s1, g1, o1, q2, go_sem, fill_c, ↓reduceIte, reduceCtorEq, Nat.reduceAdd, Nat.reduceSub, Nat.reducePow, Nat.reduceMul, Nat.reduceEqDiff, Nat.reduceLT, Nat.reduceLeDiff, Int.reduceToNat, Int.reduceLT, Int.reduceLE, Int.reduceEq, Int.reduceNeg, Int.reduceAdd, Int.reduceSub, Int.reduceMul]
    refine loop_to 2 (fun i st => ∃ (j : Nat → D), st = ⟨(j 0 :: j 1 :: .ref (h.length + 1) 0 :: .ref (h.length + 2) 0 :: .bool false :: j 5 :: j 6 :: .ref (h.length + 3) 0 :: .ref (h.length + 4) 0 :: j 9 :: j 10 :: j 11 :: j 12 :: j 13 :: j 14 :: j 15 :: j 16 :: j 17 :: j 18 :: j 19 :: j 20 :: j 21 :: j 22 :: j 23 :: j 24 :: j 25 :: j 26 :: j 27 :: j 28 :: j 29 :: j 30 :: j 31 :: j 32 :: j 33 :: j 34 :: j 35 :: j 36 :: j 37 :: j 38 :: j 39 :: j 40 :: j 41 :: j 42 :: j 43 :: .agg [.ref (h.length + 3) 0, .ref (h.length + 4) 0] :: .int .i64 (i : Int) :: j 46 :: j 47 :: j 48 :: j 49 :: j 50 :: j 51 :: j 52 :: j 53 :: j 54 :: j 55 :: j 56 :: j 57 :: []), h ++ [.box (pc v a (k : Int)), .box (pc 0 (zeros 16) 0), .box (pc 0 (zeros 16) 0),
      .box (pc v a (if 0 < i then (k : Int) + 1 else (k : Int))), .box (pc v (setA a k) (if 1 < i then (k : Int) + 1 else (k : Int)))]⟩) (junk rfl) ?_
    rintro i st hi ⟨j, rfl⟩
    obtain rfl | rfl | rfl : i = 0 ∨ i = 1 ∨ i = 2 := by omega
    · simp (disch := first | omega | (simp only [List.length_append, List.length_cons, List.length_nil]; omega)) only [c19r0, c19r1, c19r2, c19r3, c19r4, c19r5, c19r6, c19r7, c19r8, c19r9, c19r10, c19r11, c19r12, c19l13, c19r14, c19r15, pc_n, pc_len, pc_setn, w1, go_sem, fill_c, ↓reduceIte, reduceCtorEq, Nat.reduceAdd, Nat.reduceSub, Nat.reducePow, Nat.reduceMul, Nat.reduceEqDiff, Nat.reduceLT, Nat.reduceLeDiff, Int.reduceToNat, Int.reduceLT, Int.reduceLE, Int.reduceEq, Int.reduceNeg, Int.reduceAdd, Int.reduceSub, Int.reduceMul]
      exact junk rfl
    · simp (disch := first | omega | (simp only [List.length_append, List.length_cons, List.length_nil]; omega)) only [c19r0, c19r1, c19r2, c19r3, c19r4, c19r5, c19r6, c19r7, c19r8, c19r9, c19r10, c19r11, c19r12, c19l13, c19r14, c19r15, pc_n, pc_len, pc_setn, w1, go_sem, fill_c, ↓reduceIte, reduceCtorEq, Nat.reduceAdd, Nat.reduceSub, Nat.reducePow, Nat.reduceMul, Nat.reduceEqDiff, Nat.reduceLT, Nat.reduceLeDiff, Int.reduceToNat, Int.reduceLT, Int.reduceLE, Int.reduceEq, Int.reduceNeg, Int.reduceAdd, Int.reduceSub, Int.reduceMul]
      exact junk rfl
    · simp (disch := first | omega | (simp only [List.length_append, List.length_cons, List.length_nil]; omega)) only [c19r0, c19r1, c19r2, c19r3, c19r4, c19r5, c19r6, c19r7, c19r8, c19r9, c19r10, c19r11, c19r12, c19l13, c19r14, c19r15, z1, hsl, pc_n, pc_len, pc_one, pc_over, pc_take, go_sem, fill_c, ↓reduceIte, reduceCtorEq, Nat.reduceAdd, Nat.reduceSub, Nat.reducePow, Nat.reduceMul, Nat.reduceEqDiff, Nat.reduceLT, Nat.reduceLeDiff, Int.reduceToNat, Int.reduceLT, Int.reduceLE, Int.reduceEq, Int.reduceNeg, Int.reduceAdd, Int.reduceSub, Int.reduceMul]
      exact FinOk.drop (.inl rfl) (by simp [underL, underD, pc_under]) ⟨rfl, rfl⟩
theorem rhalves_fc (h : Heap) (v n : Int) (a : List UInt8) (ha : a.length = 16) : FC Try.prog 20 [.agg (pc v a n)] h fun d h' =>
    d = .tup [.agg (pc (halfV v a n) (halfL v a n) (halfN v a n)), .agg (pc (halfV v a n) (halfH v a n) (halfN v a n)), .bool (halfB v a n)] ∧ h' = h := by
  have z1 := zeros_len 16
  have er := rcheck_fc
  simp only [prefD_pc] at er
  refine FC.goes cf20 ?_; simp only [c20]; simp only [List.length_cons, List.length_nil, Nat.reduceAdd, Nat.reduceSub, List.replicate_succ, List.replicate_zero, List.cons_append, List.nil_append]
  simp only [c20r0, c20r1, c20r2, c20r3, c20r4, ← pc_zero]
  simp (disch := first | omega | (simp only [List.length_append, List.length_cons, List.length_nil]; omega)) only [c20r0, c20r1, c20r2, c20r3, c20r4, c20r5, c20r6, c20r7, c20r8, c20r9, c20r10, pc_one, pc_len, pc_take, go_sem, fill_c, ↓reduceIte, reduceCtorEq, Nat.reduceAdd, Nat.reduceSub, Nat.reducePow, Nat.reduceMul, Nat.reduceEqDiff, Nat.reduceLT, Nat.reduceLeDiff, Int.reduceToNat, Int.reduceLT, Int.reduceLE, Int.reduceEq, Int.reduceNeg, Int.reduceAdd, Int.reduceSub, Int.reduceMul]
  refine xfc_same (er _ v n a ha) ?_
  cases hb : halfB v a n with
  | false =>
    have hh : halfV v a n = 0 ∧ halfL v a n = zeros 16 ∧ halfH v a n = zeros 16 ∧ halfN v a n = 0 := by simp [halfV, halfL, halfH, halfN, hb]
    rw [hh.1, hh.2.1, hh.2.2.1, hh.2.2.2]
    by_cases hc : checkF v a n = 0
    · have hn : n = mostN v := by simpa [halfB, hc] using hb
      have e0 : decide (checkF v a n = 0) = true := decide_eq_true hc
      obtain ⟨m, hm1, hm2, h0, h1, h2⟩ := fits_most (check_fits hc)
      have e1 : decide (n = mostR v) = true := decide_eq_true (by rw [mostR, hm1, hn, hm2])
      simp (disch := first | omega | (simp only [List.length_append, List.length_cons, List.length_nil]; omega)) only [e0, pc_v, pc_n, pc_len, go_sem, fill_c, ↓reduceIte, reduceCtorEq, Nat.reduceAdd, Nat.reduceSub, Nat.reducePow, Nat.reduceMul, Nat.reduceEqDiff, Nat.reduceLT, Nat.reduceLeDiff, Int.reduceToNat, Int.reduceLT, Int.reduceLE, Int.reduceEq, Int.reduceNeg, Int.reduceAdd, Int.reduceSub, Int.reduceMul]
      refine xfc_same (rmost_fc _ v) ?_
      simp (disch := first | omega | (simp only [List.length_append, List.length_cons, List.length_nil]; omega)) only [e1, pc_n, pc_len, pc_one, z1, pc_over, pc_take, go_sem, fill_c, ↓reduceIte, reduceCtorEq, Nat.reduceAdd, Nat.reduceSub, Nat.reducePow, Nat.reduceMul, Nat.reduceEqDiff, Nat.reduceLT, Nat.reduceLeDiff, Int.reduceToNat, Int.reduceLT, Int.reduceLE, Int.reduceEq, Int.reduceNeg, Int.reduceAdd, Int.reduceSub, Int.reduceMul]
      exact FinOk.drop (.inl rfl) (by simp [underL, underD, pc_under]) ⟨rfl, rfl⟩
    · simp (disch := first | omega | (simp only [List.length_append, List.length_cons, List.length_nil]; omega)) only [hc, pc_n, pc_len, pc_one, z1, pc_over, pc_take, go_sem, fill_c, ↓reduceIte, reduceCtorEq, Nat.reduceAdd, Nat.reduceSub, Nat.reducePow, Nat.reduceMul, Nat.reduceEqDiff, Nat.reduceLT, Nat.reduceLeDiff, Int.reduceToNat, Int.reduceLT, Int.reduceLE, Int.reduceEq, Int.reduceNeg, Int.reduceAdd, Int.reduceSub, Int.reduceMul]
      exact FinOk.drop (.inl rfl) (by simp [underL, underD, pc_under]) ⟨rfl, rfl⟩
  | true =>
    have hc : checkF v a n = 0 := by
      simp only [halfB, Bool.and_eq_true, decide_eq_true_eq] at hb; exact hb.1
    have hn : ¬ n = mostN v := by
      simp only [halfB, Bool.and_eq_true, decide_eq_true_eq, Bool.not_eq_true', decide_eq_false_iff_not] at hb; exact hb.2
    obtain ⟨m, hm1, hm2, h0, h1, h2⟩ := fits_most (check_fits hc)
    have e0 : decide (checkF v a n = 0) = true := decide_eq_true hc
    have e1 : ¬ n = mostR v := by rw [mostR, hm1]; rw [hm2] at hn; exact hn
    obtain ⟨k, rfl⟩ := Int.eq_ofNat_of_zero_le h0
    have hk : k < 128 := by omega
    have hh : halfV v a (k : Int) = v ∧ halfL v a (k : Int) = a ∧ halfH v a (k : Int) = setA a k ∧ halfN v a (k : Int) = (k : Int) + 1 := by simp [halfV, halfL, halfH, halfN, hb]
    rw [hh.1, hh.2.1, hh.2.2.1, hh.2.2.2]
    have hsl : (setA a k).length = 16 := by rw [setA_length, ha]
    have w1 := i64_add1 (n := k) (by omega)
    have hl : (ofBytes a).length = 16 := by rw [ofBytes_length, ha]
    have hl2 : (ofBytes (setA a k)).length = 16 := by rw [ofBytes_length, hsl]
    have ho2 := ofBytes_one (setA a k)
    have hsp : splice (pc v a ((k : Int) + 1)) 1 (ofBytes (setA a k)) = pc v (setA a k) ((k : Int) + 1) := by
      rw [splice_eq _ _ _ (by rw [pc_len ha]; omega), hl2, pc, pc, List.take_succ_cons, List.take_zero, List.drop_succ_cons, List.drop_append_of_le_length (by omega), List.drop_eq_nil_of_le (by omega)]; rfl
    simp (disch := first | omega | (simp only [List.length_append, List.length_cons, List.length_nil]; omega)) only [e0, pc_v, pc_n, pc_len, go_sem, fill_c, ↓reduceIte, reduceCtorEq, Nat.reduceAdd, Nat.reduceSub, Nat.reducePow, Nat.reduceMul, Nat.reduceEqDiff, Nat.reduceLT, Nat.reduceLeDiff, Int.reduceToNat, Int.reduceLT, Int.reduceLE, Int.reduceEq, Int.reduceNeg, Int.reduceAdd, Int.reduceSub, Int.reduceMul]
    refine xfc_same (rmost_fc _ v) ?_
    simp (disch := first | omega | (simp only [List.length_append, List.length_cons, List.length_nil]; omega)) only [e1, pc_n, pc_len, pc_one, z1, pc_over, pc_take, pc_setn, w1, pc_a, pc_dl, go_sem, fill_c, ↓reduceIte, reduceCtorEq, Nat.reduceAdd, Nat.reduceSub, Nat.reducePow, Nat.reduceMul, Nat.reduceEqDiff, Nat.reduceLT, Nat.reduceLeDiff, Int.reduceToNat, Int.reduceLT, Int.reduceLE, Int.reduceEq, Int.reduceNeg, Int.reduceAdd, Int.reduceSub, Int.reduceMul]
    refine gfc_same (set_fcR _ a ha k hk) ?_
    simp (disch := first | omega | (simp only [List.length_append, List.length_cons, List.length_nil]; omega)) only [hsp, hl2, ho2, pc_n, pc_len, pc_one, z1, hsl, pc_over, pc_take, go_sem, fill_c, ↓reduceIte, reduceCtorEq, Nat.reduceAdd, Nat.reduceSub, Nat.reducePow, Nat.reduceMul, Nat.reduceEqDiff, Nat.reduceLT, Nat.reduceLeDiff, Int.reduceToNat, Int.reduceLT, Int.reduceLE, Int.reduceEq, Int.reduceNeg, Int.reduceAdd, Int.reduceSub, Int.reduceMul]
    exact FinOk.drop (.inl rfl) (by simp [underL, underD, pc_under]) ⟨rfl, rfl⟩

theorem rlast_fc (h : Heap) (v n : Int) (a : List UInt8) (ha : a.length = 16) : FC Try.prog 25 [.agg (pc v a n)] h fun d h' => d = .agg (ofBytes (lastF v a n)) ∧ h' = h := by
  have er := rcheck_fc
  simp only [prefD_pc] at er
  have hz : ofBytes (zeros 16) = List.replicate 16 (.int .u8 0) := rfl
  have hl : (ofBytes a).length = 16 := by rw [ofBytes_length, ha]
  have ho := ofBytes_one a
  refine FC.goes cf25 ?_; simp only [c25]; simp only [List.length_cons, List.length_nil, Nat.reduceAdd, Nat.reduceSub, List.replicate_succ, List.replicate_zero, List.cons_append, List.nil_append]
  simp (disch := first | omega | (simp only [List.length_append, List.length_cons, List.length_nil]; omega)) only [c25r0, c25r1, c25r2, c25r3, c25r4, c25r5, c25r6, c25r7, c25l8, c25r9, pc_one, pc_len, pc_take, go_sem, fill_c, ↓reduceIte, reduceCtorEq, Nat.reduceAdd, Nat.reduceSub, Nat.reducePow, Nat.reduceMul, Nat.reduceEqDiff, Nat.reduceLT, Nat.reduceLeDiff, Int.reduceToNat, Int.reduceLT, Int.reduceLE, Int.reduceEq, Int.reduceNeg, Int.reduceAdd, Int.reduceSub, Int.reduceMul]
  refine gfc_same (er _ v n a ha) ?_
  by_cases hc : checkF v a n = 0
  · have e0 : decide (checkF v a n = 0) = true := decide_eq_true hc
    obtain ⟨m, hm1, hm2, h0, h1, h2⟩ := fits_most (check_fits hc)
    obtain ⟨k, rfl⟩ := Int.eq_ofNat_of_zero_le h0
    have hlast : lastF v a (k : Int) = setsTo a k (m - k) := by
      rw [sets_last ha hm1 (by omega), lastF, if_pos hc, hm2]; rfl
    rw [hlast]
    have hmr : mostR v = (m : Int) := by rw [mostR, hm1]
    simp (disch := first | omega | (simp only [List.length_append, List.length_cons, List.length_nil]; omega)) only [e0, pc_n, pc_len, pc_a, pc_dl, hl, ho, splice_all, go_sem, fill_c, ↓reduceIte, reduceCtorEq, Nat.reduceAdd, Nat.reduceSub, Nat.reducePow, Nat.reduceMul, Nat.reduceEqDiff, Nat.reduceLT, Nat.reduceLeDiff, Int.reduceToNat, Int.reduceLT, Int.reduceLE, Int.reduceEq, Int.reduceNeg, Int.reduceAdd, Int.reduceSub, Int.reduceMul]
    refine loop_to (m - k) (fun i st => ∃ j : Nat → D, st = ⟨(j 0 :: .ref h.length 0 :: .ref (h.length + 1) 0 :: .ref (h.length + 2) 0 :: .int .i64 ((k + i : Nat) : Int) :: j 5 :: j 6 :: j 7 :: j 8 :: j 9 :: j 10 :: j 11 :: j 12 :: j 13 :: j 14 :: j 15 :: j 16 :: j 17 :: j 18 :: j 19 :: j 20 :: j 21 :: j 22 :: j 23 :: []), h ++ [.box (pc v a (k : Int)), .box (List.replicate 16 (.int .u8 0)), .box (ofBytes (setsTo a k i))]⟩) (junk rfl) ?_
    rintro i st hi ⟨j, rfl⟩
    have hsl : (setsTo a k i).length = 16 := by rw [setsTo_length, ha]
    have hsl2 : (ofBytes (setsTo a k i)).length = 16 := by rw [ofBytes_length, hsl]
    have htk : List.take 16 (ofBytes (setsTo a k i)) = ofBytes (setsTo a k i) := List.take_of_length_le (by omega)
    simp (disch := first | omega | (simp only [List.length_append, List.length_cons, List.length_nil]; omega)) only [c25r0, c25r1, c25r2, c25r3, c25r4, c25r5, c25r6, c25r7, c25l8, c25r9, pc_v, go_sem, fill_c, ↓reduceIte, reduceCtorEq, Nat.reduceAdd, Nat.reduceSub, Nat.reducePow, Nat.reduceMul, Nat.reduceEqDiff, Nat.reduceLT, Nat.reduceLeDiff, Int.reduceToNat, Int.reduceLT, Int.reduceLE, Int.reduceEq, Int.reduceNeg, Int.reduceAdd, Int.reduceSub, Int.reduceMul]
    refine gfc_same (rmost_fc _ v) ?_
    rw [hmr]
    by_cases hlt : i < m - k
    · have e1 : ((k + i : Nat) : Int) < (m : Int) := by omega
      have w1 : IntKind.i64.wrap (((k + i : Nat) : Int) + 1) = ((k + (i + 1) : Nat) : Int) := by rw [w_i64 (by omega) (by omega)]; omega
      have hnl : (ofBytes (setA (setsTo a k i) (k + i))).length = 16 := by rw [ofBytes_length, setA_length, hsl]
      have hno := ofBytes_one (setA (setsTo a k i) (k + i))
      simp (disch := first | omega | (simp only [List.length_append, List.length_cons, List.length_nil]; omega)) only [e1, hsl2, htk, go_sem, fill_c, ↓reduceIte, reduceCtorEq, Nat.reduceAdd, Nat.reduceSub, Nat.reducePow, Nat.reduceMul, Nat.reduceEqDiff, Nat.reduceLT, Nat.reduceLeDiff, Int.reduceToNat, Int.reduceLT, Int.reduceLE, Int.reduceEq, Int.reduceNeg, Int.reduceAdd, Int.reduceSub, Int.reduceMul]
      refine gfc_same (set_fcR _ (setsTo a k i) hsl (k + i) (by omega)) ?_
      simp (disch := first | omega | (simp only [List.length_append, List.length_cons, List.length_nil]; omega)) only [hnl, hno, hsl2, splice_all, w1, go_sem, fill_c, ↓reduceIte, reduceCtorEq, Nat.reduceAdd, Nat.reduceSub, Nat.reducePow, Nat.reduceMul, Nat.reduceEqDiff, Nat.reduceLT, Nat.reduceLeDiff, Int.reduceToNat, Int.reduceLT, Int.reduceLE, Int.reduceEq, Int.reduceNeg, Int.reduceAdd, Int.reduceSub, Int.reduceMul]
      exact ⟨hlt, junk rfl⟩
    · obtain rfl : i = m - k := by omega
      have e1 : ¬ ((k + (m - k) : Nat) : Int) < (m : Int) := by omega
      have hno := ofBytes_one (setsTo a k (m - k))
      simp (disch := first | omega | (simp only [List.length_append, List.length_cons, List.length_nil]; omega)) only [e1, hsl2, htk, hno, splice_all, go_sem, fill_c, ↓reduceIte, reduceCtorEq, Nat.reduceAdd, Nat.reduceSub, Nat.reducePow, Nat.reduceMul, Nat.reduceEqDiff, Nat.reduceLT, Nat.reduceLeDiff, Int.reduceToNat, Int.reduceLT, Int.reduceLE, Int.reduceEq, Int.reduceNeg, Int.reduceAdd, Int.reduceSub, Int.reduceMul]
      exact FinOk.drop (.inl rfl) (by simp [underL, underD, under_bytes]) ⟨rfl, rfl⟩
  · have hlast : lastF v a n = zeros 16 := by rw [lastF, if_neg hc]
    rw [hlast, hz]
    simp (disch := first | omega | (simp only [List.length_append, List.length_cons, List.length_nil]; omega)) only [hc, splice_all, go_sem, fill_c, ↓reduceIte, reduceCtorEq, Nat.reduceAdd, Nat.reduceSub, Nat.reducePow, Nat.reduceMul, Nat.reduceEqDiff, Nat.reduceLT, Nat.reduceLeDiff, Int.reduceToNat, Int.reduceLT, Int.reduceLE, Int.reduceEq, Int.reduceNeg, Int.reduceAdd, Int.reduceSub, Int.reduceMul]
    exact FinOk.drop (.inl rfl) (by simp [underL, underD]) ⟨rfl, rfl⟩
end Go.Proofs

/-
  Own work. Spans: the walks of is, Check, All, Has, Meet, and of the document's Check, Has, Meet.
-/
namespace Go.Proofs
open Go Go.Ytodlpcoffmnmbaa
set_option linter.unusedVariables false
set_option linter.unusedSimpArgs false
set_option maxRecDepth 10000

/-! ### weighbridge/span.is, params 1 -/
def c77r0 : List AStm := [.op (some 2) none (.mv (.c (.bool false)))]
def c77r1 : List AStm := [.op (some 3) none (.mv (.t 0)),
    .op (some 4) none (.bin .geq (.t 3) (.c (.int .i64 0))),
    .op (some 5) none (.mv (.t 4)),
    .op (some 6) (some (5, true)) (.mv (.t 0)),
    .op (some 7) (some (5, true)) (.bin .leq (.t 6) (.c (.int .i64 65535))),
    .op (some 8) none (.pick (.t 5) (.t 7) (.c (.bool false))),
    .op (some 2) none (.mv (.t 8))]
def c77 : CF := ⟨.seq (.reg c77r0) (.seq (.reg c77r1) (.ret)), [.tmp 2], 9⟩
theorem cf77 : cfun Try.prog 77 = some c77 := by kernel_rfl

/-! ### weighbridge/span.Check, params 1 -/
def c48r0 : List AStm := [.op (some 1) none (.box (.t 0)),
    .op (some 2) none (.mv (.c (.int .i64 0)))]
def c48r1 : List AStm := [.op (some 4) none (.faddr 0 (.t 1)),
    .op (some 5) none (.load none (.t 4)),
    .call (some 6) none (.c (.fn (.func 77) [] [])) [(.t 5)],
    .op (some 7) none (.un .not (.t 6)),
    .op (some 8) none (.mv (.t 7)),
    .op (some 9) (some (8, false)) (.faddr 1 (.t 1)),
    .op (some 10) (some (8, false)) (.load none (.t 9)),
    .call (some 11) (some (8, false)) (.c (.fn (.func 77) [] [])) [(.t 10)],
    .op (some 12) (some (8, false)) (.un .not (.t 11)),
    .op (some 13) none (.pick (.t 8) (.c (.bool true)) (.t 12)),
    .op (some 3) none (.mv (.t 13))]
def c48r2 : List AStm := [.op (some 2) none (.mv (.c (.int .i64 1)))]
def c48r3 : List AStm := [.op (some 15) none (.faddr 0 (.t 1)),
    .op (some 16) none (.load none (.t 15)),
    .op (some 17) none (.faddr 1 (.t 1)),
    .op (some 18) none (.load none (.t 17)),
    .op (some 19) none (.bin .gtr (.t 16) (.t 18)),
    .op (some 14) none (.mv (.t 19))]
def c48r4 : List AStm := [.op (some 2) none (.mv (.c (.int .i64 6)))]
def c48r5 : List AStm := [.op (some 2) none (.mv (.c (.int .i64 0)))]
def c48 : CF := ⟨.seq (.reg c48r0) (.seq (.block 0 (.seq (.reg c48r1) (.cond (.t 3) (.seq (.reg c48r2) (.ret)) (.seq (.reg c48r3) (.cond (.t 14) (.seq (.reg c48r4) (.ret)) (.skip)))))) (.seq (.reg c48r5) (.ret))), [.tmp 2], 20⟩
theorem cf48 : cfun Try.prog 48 = some c48 := by kernel_rfl

/-! ### weighbridge/span.All, params 0 -/
def c35r0 : List AStm := [.op (some 0) none (.alloc [(.int .i64 0), (.int .i64 0)])]
def c35r1 : List AStm := [.op (some 1) none (.build [(.int .i64 0), (.int .i64 0)] [(1, 1, (.c (.int .i64 65535)))]),
    .op none none (.store 2 (.t 0) (.t 1))]
def c35 : CF := ⟨.seq (.reg c35r0) (.seq (.reg c35r1) (.ret)), [.cell 0 (some 2)], 2⟩
theorem cf35 : cfun Try.prog 35 = some c35 := by kernel_rfl

/-! ### weighbridge/span.Has, params 2 -/
def c36r0 : List AStm := [.op (some 2) none (.box (.t 0)),
    .op (some 4) none (.mv (.c (.bool false)))]
def c36r1 : List AStm := [.op (some 5) none (.load (some 2) (.t 2)),
    .call (some 6) none (.c (.fn (.func 48) [] [])) [(.t 5)],
    .op (some 7) none (.bin .eql (.t 6) (.c (.int .i64 0))),
    .op (some 8) none (.mv (.t 7)),
    .op (some 9) (some (8, true)) (.mv (.t 1)),
    .op (some 10) (some (8, true)) (.faddr 0 (.t 2)),
    .op (some 11) (some (8, true)) (.load none (.t 10)),
    .op (some 12) (some (8, true)) (.bin .geq (.t 9) (.t 11)),
    .op (some 13) none (.pick (.t 8) (.t 12) (.c (.bool false))),
    .op (some 14) none (.mv (.t 13)),
    .op (some 15) (some (14, true)) (.mv (.t 1)),
    .op (some 16) (some (14, true)) (.faddr 1 (.t 2)),
    .op (some 17) (some (14, true)) (.load none (.t 16)),
    .op (some 18) (some (14, true)) (.bin .leq (.t 15) (.t 17)),
    .op (some 19) none (.pick (.t 14) (.t 18) (.c (.bool false))),
    .op (some 4) none (.mv (.t 19))]
def c36 : CF := ⟨.seq (.reg c36r0) (.seq (.reg c36r1) (.ret)), [.tmp 4], 20⟩
theorem cf36 : cfun Try.prog 36 = some c36 := by kernel_rfl

/-! ### weighbridge/span.Meet, params 2 -/
def c73r0 : List AStm := [.op (some 2) none (.box (.t 0)),
    .op (some 3) none (.box (.t 1)),
    .op (some 4) none (.alloc [(.int .i64 0), (.int .i64 0)]),
    .op (some 5) none (.mv (.c (.bool false)))]
def c73r1 : List AStm := [.op (some 7) none (.load (some 2) (.t 2)),
    .call (some 8) none (.c (.fn (.func 48) [] [])) [(.t 7)],
    .op (some 9) none (.bin .neq (.t 8) (.c (.int .i64 0))),
    .op (some 10) none (.mv (.t 9)),
    .op (some 11) (some (10, false)) (.load (some 2) (.t 3)),
    .call (some 12) (some (10, false)) (.c (.fn (.func 48) [] [])) [(.t 11)],
    .op (some 13) (some (10, false)) (.bin .neq (.t 12) (.c (.int .i64 0))),
    .op (some 14) none (.pick (.t 10) (.c (.bool true)) (.t 13))]
def c73r2 : List AStm := [.op (some 15) none (.build [(.int .i64 0), (.int .i64 0)] []),
    .op none none (.store 2 (.t 4) (.t 15)),
    .op (some 5) none (.mv (.c (.bool false)))]
def c73r3 : List AStm := [.op (some 16) none (.faddr 0 (.t 2)),
    .op (some 17) none (.load none (.t 16)),
    .op (some 18) none (.faddr 0 (.t 3)),
    .op (some 19) none (.load none (.t 18)),
    .op (some 20) none (.mnx true (.t 17) (.t 19)),
    .op (some 21) none (.faddr 1 (.t 2)),
    .op (some 22) none (.load none (.t 21)),
    .op (some 23) none (.faddr 1 (.t 3)),
    .op (some 24) none (.load none (.t 23)),
    .op (some 25) none (.mnx false (.t 22) (.t 24)),
    .op (some 26) none (.build [(.int .i64 0), (.int .i64 0)] [(0, 1, (.t 20)), (1, 1, (.t 25))]),
    .op (some 6) none (.alloc [(.int .i64 0), (.int .i64 0)]),
    .op none none (.store 2 (.t 6) (.t 26))]
def c73r4 : List AStm := [.op (some 27) none (.faddr 0 (.t 6)),
    .op (some 28) none (.load none (.t 27)),
    .op (some 29) none (.faddr 1 (.t 6)),
    .op (some 30) none (.load none (.t 29)),
    .op (some 31) none (.bin .gtr (.t 28) (.t 30))]
def c73r5 : List AStm := [.op (some 32) none (.build [(.int .i64 0), (.int .i64 0)] []),
    .op none none (.store 2 (.t 4) (.t 32)),
    .op (some 5) none (.mv (.c (.bool false)))]
def c73r6 : List AStm := [.op (some 33) none (.load (some 2) (.t 6)),
    .op none none (.store 2 (.t 4) (.t 33)),
    .op (some 5) none (.mv (.c (.bool true)))]
def c73 : CF := ⟨.seq (.reg c73r0) (.seq (.seq (.reg c73r1) (.cond (.t 14) (.seq (.reg c73r2) (.ret)) (.skip))) (.seq (.reg c73r3) (.seq (.seq (.reg c73r4) (.cond (.t 31) (.seq (.reg c73r5) (.ret)) (.skip))) (.seq (.reg c73r6) (.ret))))), [.cell 4 (some 2), .tmp 5], 34⟩
theorem cf73 : cfun Try.prog 73 = some c73 := by kernel_rfl

/-! ### weighbridge/weighbridgeref08.Check, params 1 -/
def c78r0 : List AStm := [.op (some 1) none (.box (.t 0)),
    .op (some 2) none (.mv (.c (.int .i64 0)))]
def c78r1 : List AStm := [.op (some 3) none (.faddr 0 (.t 1)),
    .op (some 4) none (.load none (.t 3)),
    .op (some 5) none (.bin .lss (.t 4) (.c (.int .i64 0))),
    .op (some 6) none (.mv (.t 5)),
    .op (some 7) (some (6, false)) (.faddr 0 (.t 1)),
    .op (some 8) (some (6, false)) (.load none (.t 7)),
    .op (some 9) (some (6, false)) (.bin .gtr (.t 8) (.c (.int .i64 65535))),
    .op (some 10) none (.pick (.t 6) (.c (.bool true)) (.t 9)),
    .op (some 11) none (.mv (.t 10)),
    .op (some 12) (some (11, false)) (.faddr 1 (.t 1)),
    .op (some 13) (some (11, false)) (.load none (.t 12)),
    .op (some 14) (some (11, false)) (.bin .lss (.t 13) (.c (.int .i64 0))),
    .op (some 15) none (.pick (.t 11) (.c (.bool true)) (.t 14)),
    .op (some 16) none (.mv (.t 15)),
    .op (some 17) (some (16, false)) (.faddr 1 (.t 1)),
    .op (some 18) (some (16, false)) (.load none (.t 17)),
    .op (some 19) (some (16, false)) (.bin .gtr (.t 18) (.c (.int .i64 65535))),
    .op (some 20) none (.pick (.t 16) (.c (.bool true)) (.t 19))]
def c78r2 : List AStm := [.op (some 2) none (.mv (.c (.int .i64 1)))]
def c78r3 : List AStm := [.op (some 21) none (.faddr 0 (.t 1)),
    .op (some 22) none (.load none (.t 21)),
    .op (some 23) none (.faddr 1 (.t 1)),
    .op (some 24) none (.load none (.t 23)),
    .op (some 25) none (.bin .gtr (.t 22) (.t 24))]
def c78r4 : List AStm := [.op (some 2) none (.mv (.c (.int .i64 6)))]
def c78r5 : List AStm := [.op (some 2) none (.mv (.c (.int .i64 0)))]
def c78 : CF := ⟨.seq (.reg c78r0) (.seq (.seq (.reg c78r1) (.cond (.t 20) (.seq (.reg c78r2) (.ret)) (.skip))) (.seq (.seq (.reg c78r3) (.cond (.t 25) (.seq (.reg c78r4) (.ret)) (.skip))) (.seq (.reg c78r5) (.ret)))), [.tmp 2], 26⟩
theorem cf78 : cfun Try.prog 78 = some c78 := by kernel_rfl

/-! ### weighbridge/weighbridgeref08.Has, params 2 -/
def c80r0 : List AStm := [.op (some 2) none (.box (.t 0)),
    .op (some 4) none (.mv (.c (.bool false)))]
def c80r1 : List AStm := [.op (some 5) none (.load (some 2) (.t 2)),
    .call (some 6) none (.c (.fn (.func 78) [] [])) [(.t 5)],
    .op (some 7) none (.bin .eql (.t 6) (.c (.int .i64 0))),
    .op (some 8) none (.mv (.t 7)),
    .op (some 9) (some (8, true)) (.faddr 0 (.t 2)),
    .op (some 10) (some (8, true)) (.load none (.t 9)),
    .op (some 11) (some (8, true)) (.mv (.t 1)),
    .op (some 12) (some (8, true)) (.bin .leq (.t 10) (.t 11)),
    .op (some 13) none (.pick (.t 8) (.t 12) (.c (.bool false))),
    .op (some 14) none (.mv (.t 13)),
    .op (some 15) (some (14, true)) (.mv (.t 1)),
    .op (some 16) (some (14, true)) (.faddr 1 (.t 2)),
    .op (some 17) (some (14, true)) (.load none (.t 16)),
    .op (some 18) (some (14, true)) (.bin .leq (.t 15) (.t 17)),
    .op (some 19) none (.pick (.t 14) (.t 18) (.c (.bool false))),
    .op (some 4) none (.mv (.t 19))]
def c80 : CF := ⟨.seq (.reg c80r0) (.seq (.reg c80r1) (.ret)), [.tmp 4], 20⟩
theorem cf80 : cfun Try.prog 80 = some c80 := by kernel_rfl



/-! ### Spans -/
def spanChk (lo hi : Int) : Int := if 0 ≤ lo ∧ lo ≤ 65535 ∧ 0 ≤ hi ∧ hi ≤ 65535 then if hi < lo then 6 else 0 else 1
def spanHas (lo hi n : Int) : Bool := decide (spanChk lo hi = 0) && (decide (lo ≤ n) && decide (n ≤ hi))
def sp2 (lo hi : Int) : List D := [.int .i64 lo, .int .i64 hi]
theorem sis_fc (h : Heap) (n : Int) : FC Try.prog 77 [.int .i64 n] h fun d h' => d = .bool (decide (0 ≤ n) && decide (n ≤ 65535)) ∧ h' = h := by
  refine FC.goes cf77 ?_; simp only [c77]; simp only [List.length_cons, List.length_nil, Nat.reduceAdd, Nat.reduceSub, List.replicate_succ, List.replicate_zero, List.cons_append, List.nil_append]
  by_cases h0 : 0 ≤ n
  · simp (disch := first | omega | (simp only [List.length_append, List.length_cons, List.length_nil]; omega)) only [c77r0, c77r1, h0, go_sem, fill_c, ↓reduceIte, reduceCtorEq, Nat.reduceAdd, Nat.reduceSub, Nat.reducePow, Nat.reduceMul, Nat.reduceEqDiff, Nat.reduceLT, Nat.reduceLeDiff, Int.reduceToNat, Int.reduceLT, Int.reduceLE, Int.reduceEq, Int.reduceNeg, Int.reduceAdd, Int.reduceSub, Int.reduceMul]
    exact FinOk.all ⟨rfl, rfl⟩
  · simp (disch := first | omega | (simp only [List.length_append, List.length_cons, List.length_nil]; omega)) only [c77r0, c77r1, h0, Bool.false_and, go_sem, fill_c, ↓reduceIte, reduceCtorEq, Nat.reduceAdd, Nat.reduceSub, Nat.reducePow, Nat.reduceMul, Nat.reduceEqDiff, Nat.reduceLT, Nat.reduceLeDiff, Int.reduceToNat, Int.reduceLT, Int.reduceLE, Int.reduceEq, Int.reduceNeg, Int.reduceAdd, Int.reduceSub, Int.reduceMul]
    exact FinOk.all ⟨rfl, rfl⟩
theorem scheck_fc (h : Heap) (lo hi : Int) : FC Try.prog 48 [.agg [.int .i64 lo, .int .i64 hi]] h fun d h' => d = .int .i64 (spanChk lo hi) ∧ h' = h := by
  refine FC.goes cf48 ?_; simp only [c48]; simp only [List.length_cons, List.length_nil, Nat.reduceAdd, Nat.reduceSub, List.replicate_succ, List.replicate_zero, List.cons_append, List.nil_append]
  simp (disch := first | omega | (simp only [List.length_append, List.length_cons, List.length_nil]; omega)) only [c48r0, c48r1, c48r2, c48r3, c48r4, c48r5, go_sem, fill_c, ↓reduceIte, reduceCtorEq, Nat.reduceAdd, Nat.reduceSub, Nat.reducePow, Nat.reduceMul, Nat.reduceEqDiff, Nat.reduceLT, Nat.reduceLeDiff, Int.reduceToNat, Int.reduceLT, Int.reduceLE, Int.reduceEq, Int.reduceNeg, Int.reduceAdd, Int.reduceSub, Int.reduceMul]
  refine gfc_same (sis_fc _ lo) ?_
  by_cases h1 : 0 ≤ lo ∧ lo ≤ 65535
  · simp (disch := first | omega | (simp only [List.length_append, List.length_cons, List.length_nil]; omega)) only [h1.1, h1.2, go_sem, fill_c, ↓reduceIte, reduceCtorEq, Nat.reduceAdd, Nat.reduceSub, Nat.reducePow, Nat.reduceMul, Nat.reduceEqDiff, Nat.reduceLT, Nat.reduceLeDiff, Int.reduceToNat, Int.reduceLT, Int.reduceLE, Int.reduceEq, Int.reduceNeg, Int.reduceAdd, Int.reduceSub, Int.reduceMul]
    refine gfc_same (sis_fc _ hi) ?_
    by_cases h2 : 0 ≤ hi ∧ hi ≤ 65535
    · by_cases h3 : hi < lo
      · have e : spanChk lo hi = 6 := by simp [spanChk, h1, h2, h3]
        rw [e]
        simp (disch := first | omega | (simp only [List.length_append, List.length_cons, List.length_nil]; omega)) only [h2.1, h2.2, h3, go_sem, fill_c, ↓reduceIte, reduceCtorEq, Nat.reduceAdd, Nat.reduceSub, Nat.reducePow, Nat.reduceMul, Nat.reduceEqDiff, Nat.reduceLT, Nat.reduceLeDiff, Int.reduceToNat, Int.reduceLT, Int.reduceLE, Int.reduceEq, Int.reduceNeg, Int.reduceAdd, Int.reduceSub, Int.reduceMul]
        exact FinOk.drop (.inl rfl) (by simp [underL, underD]) ⟨rfl, rfl⟩
      · have e : spanChk lo hi = 0 := by simp [spanChk, h1, h2, h3]
        rw [e]
        simp (disch := first | omega | (simp only [List.length_append, List.length_cons, List.length_nil]; omega)) only [h2.1, h2.2, h3, go_sem, fill_c, ↓reduceIte, reduceCtorEq, Nat.reduceAdd, Nat.reduceSub, Nat.reducePow, Nat.reduceMul, Nat.reduceEqDiff, Nat.reduceLT, Nat.reduceLeDiff, Int.reduceToNat, Int.reduceLT, Int.reduceLE, Int.reduceEq, Int.reduceNeg, Int.reduceAdd, Int.reduceSub, Int.reduceMul]
        exact FinOk.drop (.inl rfl) (by simp [underL, underD]) ⟨rfl, rfl⟩
    · have e : spanChk lo hi = 1 := by
        unfold spanChk
        rw [if_neg]; rintro ⟨_, _, h4, h5⟩; exact h2 ⟨h4, h5⟩
      have e2 : (decide (0 ≤ hi) && decide (hi ≤ 65535)) = false := by rw [← Bool.decide_and]; exact decide_eq_false h2
      rw [e, e2]
      simp (disch := first | omega | (simp only [List.length_append, List.length_cons, List.length_nil]; omega)) only [go_sem, fill_c, ↓reduceIte, reduceCtorEq, Nat.reduceAdd, Nat.reduceSub, Nat.reducePow, Nat.reduceMul, Nat.reduceEqDiff, Nat.reduceLT, Nat.reduceLeDiff, Int.reduceToNat, Int.reduceLT, Int.reduceLE, Int.reduceEq, Int.reduceNeg, Int.reduceAdd, Int.reduceSub, Int.reduceMul]
      exact FinOk.drop (.inl rfl) (by simp [underL, underD]) ⟨rfl, rfl⟩
  · have e : spanChk lo hi = 1 := by
      unfold spanChk
      rw [if_neg]; rintro ⟨h4, h5, _⟩; exact h1 ⟨h4, h5⟩
    have e2 : (decide (0 ≤ lo) && decide (lo ≤ 65535)) = false := by rw [← Bool.decide_and]; exact decide_eq_false h1
    rw [e, e2]
    simp (disch := first | omega | (simp only [List.length_append, List.length_cons, List.length_nil]; omega)) only [go_sem, fill_c, ↓reduceIte, reduceCtorEq, Nat.reduceAdd, Nat.reduceSub, Nat.reducePow, Nat.reduceMul, Nat.reduceEqDiff, Nat.reduceLT, Nat.reduceLeDiff, Int.reduceToNat, Int.reduceLT, Int.reduceLE, Int.reduceEq, Int.reduceNeg, Int.reduceAdd, Int.reduceSub, Int.reduceMul]
    exact FinOk.drop (.inl rfl) (by simp [underL, underD]) ⟨rfl, rfl⟩
theorem sall_fc (h : Heap) : FC Try.prog 35 [] h fun d h' => d = .agg [.int .i64 0, .int .i64 65535] ∧ h' = h := by
  refine FC.goes cf35 ?_; simp only [c35]; simp only [List.length_cons, List.length_nil, Nat.reduceAdd, Nat.reduceSub, List.replicate_succ, List.replicate_zero, List.cons_append, List.nil_append]
  simp (disch := first | omega | (simp only [List.length_append, List.length_cons, List.length_nil]; omega)) only [c35r0, c35r1, fillD, splice0, go_sem, fill_c, ↓reduceIte, reduceCtorEq, Nat.reduceAdd, Nat.reduceSub, Nat.reducePow, Nat.reduceMul, Nat.reduceEqDiff, Nat.reduceLT, Nat.reduceLeDiff, Int.reduceToNat, Int.reduceLT, Int.reduceLE, Int.reduceEq, Int.reduceNeg, Int.reduceAdd, Int.reduceSub, Int.reduceMul]
  exact FinOk.drop (.inl rfl) (by simp [underL, underD]) ⟨rfl, rfl⟩
theorem shas_fc (h : Heap) (lo hi n : Int) : FC Try.prog 36 [.agg [.int .i64 lo, .int .i64 hi], .int .i64 n] h fun d h' => d = .bool (spanHas lo hi n) ∧ h' = h := by
  refine FC.goes cf36 ?_; simp only [c36]; simp only [List.length_cons, List.length_nil, Nat.reduceAdd, Nat.reduceSub, List.replicate_succ, List.replicate_zero, List.cons_append, List.nil_append]
  simp (disch := first | omega | (simp only [List.length_append, List.length_cons, List.length_nil]; omega)) only [c36r0, c36r1, go_sem, fill_c, ↓reduceIte, reduceCtorEq, Nat.reduceAdd, Nat.reduceSub, Nat.reducePow, Nat.reduceMul, Nat.reduceEqDiff, Nat.reduceLT, Nat.reduceLeDiff, Int.reduceToNat, Int.reduceLT, Int.reduceLE, Int.reduceEq, Int.reduceNeg, Int.reduceAdd, Int.reduceSub, Int.reduceMul]
  refine gfc_same (scheck_fc _ lo hi) ?_
  by_cases hc : spanChk lo hi = 0
  · have e0 : decide (spanChk lo hi = 0) = true := decide_eq_true hc
    by_cases h1 : lo ≤ n
    · have e : spanHas lo hi n = decide (n ≤ hi) := by simp [spanHas, hc, h1]
      rw [e]
      simp (disch := first | omega | (simp only [List.length_append, List.length_cons, List.length_nil]; omega)) only [e0, h1, go_sem, fill_c, ↓reduceIte, reduceCtorEq, Nat.reduceAdd, Nat.reduceSub, Nat.reducePow, Nat.reduceMul, Nat.reduceEqDiff, Nat.reduceLT, Nat.reduceLeDiff, Int.reduceToNat, Int.reduceLT, Int.reduceLE, Int.reduceEq, Int.reduceNeg, Int.reduceAdd, Int.reduceSub, Int.reduceMul]
      exact FinOk.drop (.inl rfl) (by simp [underL, underD]) ⟨rfl, rfl⟩
    · have e : spanHas lo hi n = false := by simp [spanHas, h1]
      rw [e]
      simp (disch := first | omega | (simp only [List.length_append, List.length_cons, List.length_nil]; omega)) only [e0, h1, go_sem, fill_c, ↓reduceIte, reduceCtorEq, Nat.reduceAdd, Nat.reduceSub, Nat.reducePow, Nat.reduceMul, Nat.reduceEqDiff, Nat.reduceLT, Nat.reduceLeDiff, Int.reduceToNat, Int.reduceLT, Int.reduceLE, Int.reduceEq, Int.reduceNeg, Int.reduceAdd, Int.reduceSub, Int.reduceMul]
      exact FinOk.drop (.inl rfl) (by simp [underL, underD]) ⟨rfl, rfl⟩
  · have e : spanHas lo hi n = false := by simp [spanHas, hc]
    rw [e]
    simp (disch := first | omega | (simp only [List.length_append, List.length_cons, List.length_nil]; omega)) only [hc, go_sem, fill_c, ↓reduceIte, reduceCtorEq, Nat.reduceAdd, Nat.reduceSub, Nat.reducePow, Nat.reduceMul, Nat.reduceEqDiff, Nat.reduceLT, Nat.reduceLeDiff, Int.reduceToNat, Int.reduceLT, Int.reduceLE, Int.reduceEq, Int.reduceNeg, Int.reduceAdd, Int.reduceSub, Int.reduceMul]
    exact FinOk.drop (.inl rfl) (by simp [underL, underD]) ⟨rfl, rfl⟩


/-- What is in two spans. -/
def meetB (a b c d : Int) : Bool := decide (spanChk a b = 0) && (decide (spanChk c d = 0) && !decide (min b d < max a c))
def meetLo (a b c d : Int) : Int := if meetB a b c d then max a c else 0
def meetHi (a b c d : Int) : Int := if meetB a b c d then min b d else 0
theorem mx_int (a c : Int) : (if c > a then c else a) = max a c := by omega
theorem mn_int (b d : Int) : (if d < b then d else b) = min b d := by omega
theorem smeet_fc (h : Heap) (a b c d : Int) : FC Try.prog 73 [.agg [.int .i64 a, .int .i64 b], .agg [.int .i64 c, .int .i64 d]] h fun r h' => r = .tup [.agg [.int .i64 (meetLo a b c d), .int .i64 (meetHi a b c d)], .bool (meetB a b c d)] ∧ h' = h := by
  refine FC.goes cf73 ?_; simp only [c73]; simp only [List.length_cons, List.length_nil, Nat.reduceAdd, Nat.reduceSub, List.replicate_succ, List.replicate_zero, List.cons_append, List.nil_append]
  simp (disch := first | omega | (simp only [List.length_append, List.length_cons, List.length_nil]; omega)) only [c73r0, c73r1, c73r2, c73r3, c73r4, c73r5, c73r6, go_sem, fill_c, ↓reduceIte, reduceCtorEq, Nat.reduceAdd, Nat.reduceSub, Nat.reducePow, Nat.reduceMul, Nat.reduceEqDiff, Nat.reduceLT, Nat.reduceLeDiff, Int.reduceToNat, Int.reduceLT, Int.reduceLE, Int.reduceEq, Int.reduceNeg, Int.reduceAdd, Int.reduceSub, Int.reduceMul]
  refine gfc_same (scheck_fc _ a b) ?_
  by_cases h1 : spanChk a b = 0
  · have e1 : decide (spanChk a b = 0) = true := decide_eq_true h1
    simp (disch := first | omega | (simp only [List.length_append, List.length_cons, List.length_nil]; omega)) only [e1, go_sem, fill_c, ↓reduceIte, reduceCtorEq, Nat.reduceAdd, Nat.reduceSub, Nat.reducePow, Nat.reduceMul, Nat.reduceEqDiff, Nat.reduceLT, Nat.reduceLeDiff, Int.reduceToNat, Int.reduceLT, Int.reduceLE, Int.reduceEq, Int.reduceNeg, Int.reduceAdd, Int.reduceSub, Int.reduceMul]
    refine gfc_same (scheck_fc _ c d) ?_
    by_cases h2 : spanChk c d = 0
    · have e2 : decide (spanChk c d = 0) = true := decide_eq_true h2
      simp (disch := first | omega | (simp only [List.length_append, List.length_cons, List.length_nil]; omega)) only [e2, mx_int, mn_int, fillD, splice0, go_sem, fill_c, ↓reduceIte, reduceCtorEq, Nat.reduceAdd, Nat.reduceSub, Nat.reducePow, Nat.reduceMul, Nat.reduceEqDiff, Nat.reduceLT, Nat.reduceLeDiff, Int.reduceToNat, Int.reduceLT, Int.reduceLE, Int.reduceEq, Int.reduceNeg, Int.reduceAdd, Int.reduceSub, Int.reduceMul]
      by_cases h3 : min b d < max a c
      · have hb : meetB a b c d = false := by simp [meetB, h3]
        have hl : meetLo a b c d = 0 := by simp [meetLo, hb]
        have hh : meetHi a b c d = 0 := by simp [meetHi, hb]
        rw [hb, hl, hh]
        simp (disch := first | omega | (simp only [List.length_append, List.length_cons, List.length_nil]; omega)) only [h3, fillD, splice0, go_sem, fill_c, ↓reduceIte, reduceCtorEq, Nat.reduceAdd, Nat.reduceSub, Nat.reducePow, Nat.reduceMul, Nat.reduceEqDiff, Nat.reduceLT, Nat.reduceLeDiff, Int.reduceToNat, Int.reduceLT, Int.reduceLE, Int.reduceEq, Int.reduceNeg, Int.reduceAdd, Int.reduceSub, Int.reduceMul]
        exact FinOk.drop (.inl rfl) (by simp [underL, underD]) ⟨rfl, rfl⟩
      · have hb : meetB a b c d = true := by simp [meetB, h1, h2, h3]
        have hl : meetLo a b c d = max a c := by simp [meetLo, hb]
        have hh : meetHi a b c d = min b d := by simp [meetHi, hb]
        rw [hb, hl, hh]
        simp (disch := first | omega | (simp only [List.length_append, List.length_cons, List.length_nil]; omega)) only [h3, fillD, splice0, go_sem, fill_c, ↓reduceIte, reduceCtorEq, Nat.reduceAdd, Nat.reduceSub, Nat.reducePow, Nat.reduceMul, Nat.reduceEqDiff, Nat.reduceLT, Nat.reduceLeDiff, Int.reduceToNat, Int.reduceLT, Int.reduceLE, Int.reduceEq, Int.reduceNeg, Int.reduceAdd, Int.reduceSub, Int.reduceMul]
        exact FinOk.drop (.inl rfl) (by simp [underL, underD]) ⟨rfl, rfl⟩
    · have hb : meetB a b c d = false := by simp [meetB, h2]
      have hl : meetLo a b c d = 0 := by simp [meetLo, hb]
      have hh : meetHi a b c d = 0 := by simp [meetHi, hb]
      rw [hb, hl, hh]
      simp (disch := first | omega | (simp only [List.length_append, List.length_cons, List.length_nil]; omega)) only [h2, fillD, splice0, go_sem, fill_c, ↓reduceIte, reduceCtorEq, Nat.reduceAdd, Nat.reduceSub, Nat.reducePow, Nat.reduceMul, Nat.reduceEqDiff, Nat.reduceLT, Nat.reduceLeDiff, Int.reduceToNat, Int.reduceLT, Int.reduceLE, Int.reduceEq, Int.reduceNeg, Int.reduceAdd, Int.reduceSub, Int.reduceMul]
      exact FinOk.drop (.inl rfl) (by simp [underL, underD]) ⟨rfl, rfl⟩
  · have hb : meetB a b c d = false := by simp [meetB, h1]
    have hl : meetLo a b c d = 0 := by simp [meetLo, hb]
    have hh : meetHi a b c d = 0 := by simp [meetHi, hb]
    rw [hb, hl, hh]
    simp (disch := first | omega | (simp only [List.length_append, List.length_cons, List.length_nil]; omega)) only [h1, fillD, splice0, go_sem, fill_c, ↓reduceIte, reduceCtorEq, Nat.reduceAdd, Nat.reduceSub, Nat.reducePow, Nat.reduceMul, Nat.reduceEqDiff, Nat.reduceLT, Nat.reduceLeDiff, Int.reduceToNat, Int.reduceLT, Int.reduceLE, Int.reduceEq, Int.reduceNeg, Int.reduceAdd, Int.reduceSub, Int.reduceMul]
    exact FinOk.drop (.inl rfl) (by simp [underL, underD]) ⟨rfl, rfl⟩
theorem rscheck_fc (h : Heap) (lo hi : Int) : FC Try.prog 78 [.agg [.int .i64 lo, .int .i64 hi]] h fun d h' => d = .int .i64 (spanChk lo hi) ∧ h' = h := by
  refine FC.goes cf78 ?_; simp only [c78]; simp only [List.length_cons, List.length_nil, Nat.reduceAdd, Nat.reduceSub, List.replicate_succ, List.replicate_zero, List.cons_append, List.nil_append]
  by_cases h1 : lo < 0
  · have e : spanChk lo hi = 1 := by unfold spanChk; rw [if_neg (by omega)]
    rw [e]
    simp (disch := first | omega | (simp only [List.length_append, List.length_cons, List.length_nil]; omega)) only [c78r0, c78r1, c78r2, c78r3, c78r4, c78r5, h1, go_sem, fill_c, ↓reduceIte, reduceCtorEq, Nat.reduceAdd, Nat.reduceSub, Nat.reducePow, Nat.reduceMul, Nat.reduceEqDiff, Nat.reduceLT, Nat.reduceLeDiff, Int.reduceToNat, Int.reduceLT, Int.reduceLE, Int.reduceEq, Int.reduceNeg, Int.reduceAdd, Int.reduceSub, Int.reduceMul]
    exact FinOk.drop (.inl rfl) (by simp [underL, underD]) ⟨rfl, rfl⟩
  by_cases h2 : 65535 < lo
  · have e : spanChk lo hi = 1 := by unfold spanChk; rw [if_neg (by omega)]
    rw [e]
    simp (disch := first | omega | (simp only [List.length_append, List.length_cons, List.length_nil]; omega)) only [c78r0, c78r1, c78r2, c78r3, c78r4, c78r5, h1, h2, go_sem, fill_c, ↓reduceIte, reduceCtorEq, Nat.reduceAdd, Nat.reduceSub, Nat.reducePow, Nat.reduceMul, Nat.reduceEqDiff, Nat.reduceLT, Nat.reduceLeDiff, Int.reduceToNat, Int.reduceLT, Int.reduceLE, Int.reduceEq, Int.reduceNeg, Int.reduceAdd, Int.reduceSub, Int.reduceMul]
    exact FinOk.drop (.inl rfl) (by simp [underL, underD]) ⟨rfl, rfl⟩
  by_cases h3 : hi < 0
  · have e : spanChk lo hi = 1 := by unfold spanChk; rw [if_neg (by omega)]
    rw [e]
    simp (disch := first | omega | (simp only [List.length_append, List.length_cons, List.length_nil]; omega)) only [c78r0, c78r1, c78r2, c78r3, c78r4, c78r5, h1, h2, h3, go_sem, fill_c, ↓reduceIte, reduceCtorEq, Nat.reduceAdd, Nat.reduceSub, Nat.reducePow, Nat.reduceMul, Nat.reduceEqDiff, Nat.reduceLT, Nat.reduceLeDiff, Int.reduceToNat, Int.reduceLT, Int.reduceLE, Int.reduceEq, Int.reduceNeg, Int.reduceAdd, Int.reduceSub, Int.reduceMul]
    exact FinOk.drop (.inl rfl) (by simp [underL, underD]) ⟨rfl, rfl⟩
  by_cases h4 : 65535 < hi
  · have e : spanChk lo hi = 1 := by unfold spanChk; rw [if_neg (by omega)]
    rw [e]
    simp (disch := first | omega | (simp only [List.length_append, List.length_cons, List.length_nil]; omega)) only [c78r0, c78r1, c78r2, c78r3, c78r4, c78r5, h1, h2, h3, h4, go_sem, fill_c, ↓reduceIte, reduceCtorEq, Nat.reduceAdd, Nat.reduceSub, Nat.reducePow, Nat.reduceMul, Nat.reduceEqDiff, Nat.reduceLT, Nat.reduceLeDiff, Int.reduceToNat, Int.reduceLT, Int.reduceLE, Int.reduceEq, Int.reduceNeg, Int.reduceAdd, Int.reduceSub, Int.reduceMul]
    exact FinOk.drop (.inl rfl) (by simp [underL, underD]) ⟨rfl, rfl⟩
  by_cases h5 : hi < lo
  · have e : spanChk lo hi = 6 := by unfold spanChk; rw [if_pos (by omega), if_pos h5]
    rw [e]
    simp (disch := first | omega | (simp only [List.length_append, List.length_cons, List.length_nil]; omega)) only [c78r0, c78r1, c78r2, c78r3, c78r4, c78r5, h1, h2, h3, h4, h5, go_sem, fill_c, ↓reduceIte, reduceCtorEq, Nat.reduceAdd, Nat.reduceSub, Nat.reducePow, Nat.reduceMul, Nat.reduceEqDiff, Nat.reduceLT, Nat.reduceLeDiff, Int.reduceToNat, Int.reduceLT, Int.reduceLE, Int.reduceEq, Int.reduceNeg, Int.reduceAdd, Int.reduceSub, Int.reduceMul]
    exact FinOk.drop (.inl rfl) (by simp [underL, underD]) ⟨rfl, rfl⟩
  · have e : spanChk lo hi = 0 := by unfold spanChk; rw [if_pos (by omega), if_neg h5]
    rw [e]
    simp (disch := first | omega | (simp only [List.length_append, List.length_cons, List.length_nil]; omega)) only [c78r0, c78r1, c78r2, c78r3, c78r4, c78r5, h1, h2, h3, h4, h5, go_sem, fill_c, ↓reduceIte, reduceCtorEq, Nat.reduceAdd, Nat.reduceSub, Nat.reducePow, Nat.reduceMul, Nat.reduceEqDiff, Nat.reduceLT, Nat.reduceLeDiff, Int.reduceToNat, Int.reduceLT, Int.reduceLE, Int.reduceEq, Int.reduceNeg, Int.reduceAdd, Int.reduceSub, Int.reduceMul]
    exact FinOk.drop (.inl rfl) (by simp [underL, underD]) ⟨rfl, rfl⟩
theorem rshas_fc (h : Heap) (lo hi n : Int) : FC Try.prog 80 [.agg [.int .i64 lo, .int .i64 hi], .int .i64 n] h fun d h' => d = .bool (spanHas lo hi n) ∧ h' = h := by
  refine FC.goes cf80 ?_; simp only [c80]; simp only [List.length_cons, List.length_nil, Nat.reduceAdd, Nat.reduceSub, List.replicate_succ, List.replicate_zero, List.cons_append, List.nil_append]
  simp (disch := first | omega | (simp only [List.length_append, List.length_cons, List.length_nil]; omega)) only [c80r0, c80r1, go_sem, fill_c, ↓reduceIte, reduceCtorEq, Nat.reduceAdd, Nat.reduceSub, Nat.reducePow, Nat.reduceMul, Nat.reduceEqDiff, Nat.reduceLT, Nat.reduceLeDiff, Int.reduceToNat, Int.reduceLT, Int.reduceLE, Int.reduceEq, Int.reduceNeg, Int.reduceAdd, Int.reduceSub, Int.reduceMul]
  refine gfc_same (rscheck_fc _ lo hi) ?_
  by_cases hc : spanChk lo hi = 0
  · have e0 : decide (spanChk lo hi = 0) = true := decide_eq_true hc
    by_cases h1 : lo ≤ n
    · have e : spanHas lo hi n = decide (n ≤ hi) := by simp [spanHas, hc, h1]
      rw [e]
      simp (disch := first | omega | (simp only [List.length_append, List.length_cons, List.length_nil]; omega)) only [e0, h1, go_sem, fill_c, ↓reduceIte, reduceCtorEq, Nat.reduceAdd, Nat.reduceSub, Nat.reducePow, Nat.reduceMul, Nat.reduceEqDiff, Nat.reduceLT, Nat.reduceLeDiff, Int.reduceToNat, Int.reduceLT, Int.reduceLE, Int.reduceEq, Int.reduceNeg, Int.reduceAdd, Int.reduceSub, Int.reduceMul]
      exact FinOk.drop (.inl rfl) (by simp [underL, underD]) ⟨rfl, rfl⟩
    · have e : spanHas lo hi n = false := by simp [spanHas, h1]
      rw [e]
      simp (disch := first | omega | (simp only [List.length_append, List.length_cons, List.length_nil]; omega)) only [e0, h1, go_sem, fill_c, ↓reduceIte, reduceCtorEq, Nat.reduceAdd, Nat.reduceSub, Nat.reducePow, Nat.reduceMul, Nat.reduceEqDiff, Nat.reduceLT, Nat.reduceLeDiff, Int.reduceToNat, Int.reduceLT, Int.reduceLE, Int.reduceEq, Int.reduceNeg, Int.reduceAdd, Int.reduceSub, Int.reduceMul]
      exact FinOk.drop (.inl rfl) (by simp [underL, underD]) ⟨rfl, rfl⟩
  · have e : spanHas lo hi n = false := by simp [spanHas, hc]
    rw [e]
    simp (disch := first | omega | (simp only [List.length_append, List.length_cons, List.length_nil]; omega)) only [hc, go_sem, fill_c, ↓reduceIte, reduceCtorEq, Nat.reduceAdd, Nat.reduceSub, Nat.reducePow, Nat.reduceMul, Nat.reduceEqDiff, Nat.reduceLT, Nat.reduceLeDiff, Int.reduceToNat, Int.reduceLT, Int.reduceLE, Int.reduceEq, Int.reduceNeg, Int.reduceAdd, Int.reduceSub, Int.reduceMul]
    exact FinOk.drop (.inl rfl) (by simp [underL, underD]) ⟨rfl, rfl⟩
end Go.Proofs

