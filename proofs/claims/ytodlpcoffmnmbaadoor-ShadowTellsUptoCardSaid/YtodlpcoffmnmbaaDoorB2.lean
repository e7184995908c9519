/-
  Own work. A walk cut in two: what holds after the first part, and the second part from there.
-/
import Derived.Test.YtodlpcoffmnmbaaDoorB1
namespace Go.Proofs
open Go Go.YtodlpcoffmnmbaaDoor
set_option linter.unusedVariables false
set_option linter.unusedSimpArgs false

theorem guardK_mono {t : List D} {g : Option (Nat × Bool)} {y n y' n' : Prop} (hy : y → y') (hn : n → n') (h : guardK t g y n) : guardK t g y' n' := guardK_congr (fun _ _ _ => rfl) hy hn h
theorem callK_mono {P : Program} {f : D} {args : List D} {h : Heap} {R R' : D → Heap → Prop} (hr : ∀ d h', R d h' → R' d h') (hc : CallK P f args h R) : CallK P f args h R' := by
  unfold CallK at hc ⊢
  split at hc
  · exact hc.mono hr
  · exact YC.mono hc hr
  · cases hc
theorem aregs_mono {P : Program} {K K' : St → Prop} (hk : ∀ st, K st → K' st) : ∀ {ss : List AStm} {st : St}, aregs P ss st K → aregs P ss st K'
  | [], st, h => hk _ h
  | .op dst g o :: rest, st, h => by
    simp only [aregs] at h ⊢
    exact guardK_mono (fun h => holds_mono (fun p hp => aregs_mono hk hp) h) (fun h => aregs_mono hk h) h
  | .call dst g f args :: rest, st, h => by
    simp only [aregs] at h ⊢
    exact guardK_mono (fun h => callK_mono (fun _ _ hp => aregs_mono hk hp) h) (fun h => aregs_mono hk h) h
  | .callG dst g f args :: rest, st, h => by
    simp only [aregs] at h ⊢
    exact guardK_mono (fun h => callK_mono (fun _ _ hp => ⟨hp.1, aregs_mono hk hp.2⟩) h) (fun h => aregs_mono hk h) h
  | .callL .. :: _, _, h => by simp only [aregs] at h
  | .callW .. :: _, _, h => by simp only [aregs] at h
  | .chk .. :: _, _, h => by simp only [aregs] at h
theorem aheads_mono {P : Program} {K K' : St → Prop} (hk : ∀ st, K st → K' st) : ∀ {ss : List AStm} {st : St}, aheads P ss st K → aheads P ss st K'
  | [], st, h => hk _ h
  | .op dst g o :: rest, st, h => by
    simp only [aheads] at h ⊢
    exact guardK_mono (fun h => holds_mono (fun p hp => aheads_mono hk hp) h) (fun h => aheads_mono hk h) h
  | .call dst g f args :: rest, st, h => by
    simp only [aheads] at h ⊢
    exact guardK_mono (fun ⟨d, h1, h2⟩ => ⟨d, h1, aheads_mono hk h2⟩) (fun h => aheads_mono hk h) h
  | .callL dst g f args :: rest, st, h => by
    simp only [aheads] at h ⊢
    exact guardK_mono (fun ⟨d, h1, h2⟩ => ⟨d, h1, aheads_mono hk h2⟩) (fun h => aheads_mono hk h) h
  | .callW dst f args :: rest, st, h => by
    simp only [aheads] at h ⊢
    obtain ⟨d, h2, h3, h4, h5⟩ := h
    exact ⟨d, h2, h3, h4, aheads_mono hk h5⟩
  | .callG .. :: _, _, h => by simp only [aheads] at h
  | .chk dst g o :: rest, st, h => by
    simp only [aheads] at h ⊢
    exact ⟨h.1, aheads_mono hk h.2⟩
theorem rangeQ_mono {r : Nat} {T : List D} {ps : List Nat} {xs bd : Code} {Q Q' : Exit → St → Prop} (hq : ∀ e st, Q e st → Q' e st) {h : Heap} (hr : rangeQ r T ps xs bd Q h) : rangeQ r T ps xs bd Q' h := by
  obtain ⟨s, pe, h1, h2, h3⟩ := hr
  refine ⟨s, pe, h1, h2, ?_⟩
  split at h3
  · exact hq _ _ h3
  · exact hq _ _ h3
  · exact hq _ _ h3
  · cases h3
theorem rangeK_mono {P : Program} {f : D} {r : Nat} {h : Heap} {R R' : D → Heap → Prop} (hr : ∀ d h', R d h' → R' d h') (hc : RangeK P f r h R) : RangeK P f r h R' := by
  unfold RangeK at hc ⊢
  split at hc
  · exact hc.mono hr
  · cases hc
theorem W_mono {P : Program} : ∀ {c : AC} {Q Q' : Exit → St → Prop} {st : St}, (∀ e st, Q e st → Q' e st) → W P c Q st → W P c Q' st
  | .skip, _, _, _, hq, h => hq _ _ h
  | .reg _, _, _, _, hq, h => aregs_mono (fun _ h => hq _ _ h) h
  | .dreg _ _, _, _, _, hq, h => ⟨h.1, aheads_mono (fun _ h => aregs_mono (fun _ h => hq _ _ h) h) h.2⟩
  | .seq x y, Q, Q', _, hq, h => by
    simp only [W] at h ⊢
    refine W_mono ?_ h
    intro e st he
    cases e with
    | normal => exact W_mono hq he
    | _ => exact hq _ _ he
  | .cond c x y, Q, Q', st, hq, h => by
    simp only [W] at h ⊢
    cases hd : ev st.t c with
    | bool b =>
      rw [hd] at h
      cases b with
      | true => exact W_mono hq h
      | false => exact W_mono hq h
    | _ => rw [hd] at h; cases h
  | .block _ x, Q, Q', _, hq, h => by
    simp only [W] at h ⊢
    refine W_mono ?_ h
    intro e st he
    cases e with
    | exit id' =>
      simp only [blockQ] at he ⊢
      split
      · rename_i hi; rw [if_pos hi] at he; exact hq _ _ he
      · rename_i hi; rw [if_neg hi] at he; exact hq _ _ he
    | _ => exact hq _ _ he
  | .loop _, _, _, _, hq, h => by simp only [W] at h ⊢; exact h.mono hq
  | .scope x, Q, Q', _, hq, h => by
    simp only [W] at h ⊢
    refine W_mono ?_ h
    intro e st he
    cases e with
    | goto l => exact he
    | _ => exact hq _ _ he
  | .exit _, _, _, _, hq, h => hq _ _ h
  | .bad, _, _, _, _, h => h
  | .ret, _, _, _, hq, h => hq _ _ h
  | .rfunc f ps a b, _, _, _, hq, h => by
    simp only [W] at h ⊢
    obtain ⟨nf, h⟩ := h
    exact ⟨nf, fun xs bd h1 h2 => rangeK_mono (fun _ _ hp => rangeQ_mono hq hp) (h xs bd h1 h2)⟩
/-- What holds between two parts. -/
theorem go_cut {P : Program} {x y : AC} {S : List Fr} {Q : Exit → St → Prop} {st : St} (I : St → Prop) (h1 : go P x (.k I :: S) Q st) (h2 : ∀ st', I st' → go P y S Q st') : go P (.seq x y) S Q st := by
  unfold go at h1 ⊢
  simp only [W]
  refine W_mono ?_ h1
  intro e st' he
  cases e with
  | normal => exact h2 st' he
  | _ => exact he
theorem gc_cut {P : Program} {d : D} {x y z : AC} {S : List Fr} {Q : Exit → St → Prop} {st : St} (I : St → Prop) (h1 : gc d P x y (.k I :: S) Q st) (h2 : ∀ st', I st' → go P z S Q st') : gc d P x y (.seq z :: S) Q st := by
  have hm : ∀ c, go P c (.k I :: S) Q st → go P c (.seq z :: S) Q st := by
    intro c hc
    refine W_mono ?_ hc
    intro e st' he
    cases e with
    | normal => exact h2 st' he
    | _ => exact he
  cases d with
  | bool b => cases b <;> exact hm _ h1
  | _ => exact h1
/-! Calls under a guard, for whatever further blocks. -/
def kgcallL (x : D) (b : Bool) (f : AO) (args : List AO) (P : Program) (rest : List AStm) (t : List D) (h : Heap) (dst : Option Nat) (S : List Fr) (Q : Exit → St → Prop) : Prop :=
  match x with
  | .bool c => (c = b → kcallL (ev t f) (args.map (ev t)) h P rest t dst S Q) ∧ (¬ c = b → gq P rest S Q ⟨setD t dst (.tup []), h⟩)
  | .tup [] => gq P rest S Q ⟨setD t dst (.tup []), h⟩
  | _ => False
section
variable {P : Program} {Q : Exit → St → Prop} {S : List Fr} {t : List D} {h : Heap} {rest : List AStm} {dst : Option Nat} {f : AO} {args : List AO} {s : Nat} {b : Bool}
theorem gq_callLg : gq P (.callL dst (some (s, b)) f args :: rest) S Q ⟨t, h⟩ = kgcallL (t.getD s .any) b f args P rest t h dst S Q := by
  simp only [gq, aheads, guardK, kgcallL]
  rfl
theorem kgcallL_TT : kgcallL (.bool true) true f args P rest t h dst S Q = kcallL (ev t f) (args.map (ev t)) h P rest t dst S Q := by simp [kgcallL]
theorem kgcallL_FF : kgcallL (.bool false) false f args P rest t h dst S Q = kcallL (ev t f) (args.map (ev t)) h P rest t dst S Q := by simp [kgcallL]
theorem kgcallL_TF : kgcallL (.bool true) false f args P rest t h dst S Q = gq P rest S Q ⟨setD t dst (.tup []), h⟩ := by simp [kgcallL]
theorem kgcallL_FT : kgcallL (.bool false) true f args P rest t h dst S Q = gq P rest S Q ⟨setD t dst (.tup []), h⟩ := by simp [kgcallL]
theorem kgcallL_tup : kgcallL (.tup []) b f args P rest t h dst S Q = gq P rest S Q ⟨setD t dst (.tup []), h⟩ := nr rfl
end
attribute [go_sem ↓] gq_callLg
attribute [go_sem] kgcallL_TT kgcallL_FF kgcallL_TF kgcallL_FT kgcallL_tup
theorem gq_cut {P : Program} {l tl : List AStm} {z : AC} {S : List Fr} {Q : Exit → St → Prop} {st : St} (I : St → Prop) (h1 : gq P l (.tail tl :: .k I :: S) Q st) (h2 : ∀ st', I st' → go P z S Q st') : gq P l (.tail tl :: .seq z :: S) Q st := by
  unfold gq at h1 ⊢
  exact aheads_mono (fun st' h => aregs_mono (fun st'' h => h2 st'' h) h) h1
theorem gs_cut {P : Program} {l : List AStm} {z : AC} {S : List Fr} {Q : Exit → St → Prop} {st : St} (I : St → Prop) (h1 : gs P l (.k I :: S) Q st) (h2 : ∀ st', I st' → go P z S Q st') : gs P l (.seq z :: S) Q st := by
  unfold gs at h1 ⊢
  exact aregs_mono (fun st' h => h2 st' h) h1
end Go.Proofs
