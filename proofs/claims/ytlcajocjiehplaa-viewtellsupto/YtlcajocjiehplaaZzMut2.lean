/- Contracts of functions that write what they are handed. -/
import Derived.Test.YtlcajocjiehplaaZzMut
set_option linter.unusedVariables false
set_option linter.unusedSimpArgs false
namespace Go.Abs
open Go Go.RowKit

def gb (S : Shadow) (bs : List Nat) : Ghost := { S, box := fun i => bs[i]?, own := fun _ => none, ful := fun _ => false, nxt := 0, loop := none }
def BoxesOK (S : Shadow) (w : World) (bs : List Nat) (H : List (List AV)) : Prop :=
  bs.length = H.length ∧ bs.Nodup ∧ ∀ (i b : Nat) (cs : List AV), bs[i]? = some b → H[i]? = some cs → b < w.heap.size ∧ (∀ o, S b o = none) ∧ ∃ cells E, w.heap[b]? = some (.cells (List.toArray cells) E (0, 0)) ∧ RepL (gp S) cells cs ∧ ∀ v, v ∈ cells → v.oneCell' = true

/-- A call of f that is handed variables H (their cells) and args over them: R speaks of the variables after it, the new ones that it hands back behind them, and of the result. -/
def Mut (P : Program) (f : FuncId) (H : List (List AV)) (args : List AV) (R : List (List AV) → AV → Prop) : Prop :=
  Enters P f ∧ ∀ n S w bs vs, Holds S w → BoxesOK S w bs H → RepL (gb S bs) vs args →
    CallsIn Fence.wide n P f vs.toArray w fun e w' => ∃ v S' bs' H' r, e = .returned v ∧ R H' r ∧ BoxesOK S' w' (bs ++ bs') H' ∧ (∀ b, b ∈ bs' → w.heap.size ≤ b) ∧ StepW S w S' w' (fun b => b ∉ bs) ∧ Rep (gb S' (bs ++ bs')) v r

/-- Names of variables, changed. -/
def AV.ren (ρ : Nat → Option Nat) : AV → AV
  | .bsl i off len cap => match ρ i with
    | some j => .bsl j off len cap
    | none => .undef
  | .bptr i off => match ρ i with
    | some j => .bptr j off
    | none => .undef
  | .tup vs => .tup (renL ρ vs)
  | .sl .full xs => .sl .full xs
  | a => a.weak
where renL (ρ : Nat → Option Nat) : List AV → List AV
  | [] => []
  | a :: l => a.ren ρ :: renL ρ l
theorem renL_map (ρ : Nat → Option Nat) (l : List AV) : AV.ren.renL ρ l = l.map (AV.ren ρ) := by
  induction l with
  | nil => simp [AV.ren.renL]
  | cons a l ih => simp [AV.ren.renL, ih]
theorem map_ren_getD (ρ : Nat → Option Nat) (cs : List AV) (j : Nat) : (cs.map (AV.ren ρ)).getD j .undef = (cs.getD j .undef).ren ρ := by
  rw [List.getD_eq_getElem?_getD, List.getD_eq_getElem?_getD, List.getElem?_map]
  cases cs[j]? <;> rfl

theorem Rep.weakTo {G G' : Ghost} {v : Value} {a : AV} (h : Rep G v a) (hS : Shadow.le G.S G'.S) : Rep G' v a.weak := h.weak.up hS
theorem Rep.ren {G : Ghost} {v : Value} {a : AV} (h : Rep G v a) : ∀ {G' : Ghost} {ρ : Nat → Option Nat}, Shadow.le G.S G'.S → (∀ i j b, ρ i = some j → G.box i = some b → G'.box j = some b) → Rep G' v (a.ren ρ) := by
  induction h with
  | bsl i off len cap b hb hc hm hx =>
    intro G' ρ hS hρ
    simp only [AV.ren]
    cases e : ρ i with
    | none => exact .undef
    | some j => exact .bsl j off len cap b (hρ i j b e hb) hc hm hx
  | bptr i off b hb =>
    intro G' ρ hS hρ
    simp only [AV.ren]
    cases e : ρ i with
    | none => exact .undef
    | some j => exact .bptr j off b (hρ i j b e hb)
  | tup vs cs hl h ih =>
    intro G' ρ hS hρ
    simp only [AV.ren, renL_map]
    exact .tup vs _ (by simpa using hl) fun j => by rw [map_ren_getD]; exact ih j hS hρ
  | undef => intro G' ρ hS hρ; exact .undef
  | lit h => intro G' ρ hS hρ; exact Rep.weakTo (G := G') (.lit h) (fun _ _ _ e => e)
  | slnil o => intro G' ρ hS hρ; cases o <;> exact .slnil _
  | sl o b off sz cap xs cells hl hS' hR hz hc hm hO ih =>
    intro G' ρ hS hρ
    have hw := Rep.weakTo (Rep.sl o b off sz cap xs cells hl hS' hR hz hc hm hO) hS
    cases o with
    | full => exact .sl .full b off sz cap xs cells hl (fun j hj => hS _ _ _ (hS' j hj)) (fun j => (hR j).up (G := G'.pure) hS) hz hc hm hO
    | _ => exact hw
  | agg vs cs hl h h1 ih => intro G' ρ hS hρ; exact Rep.weakTo (Rep.agg vs cs hl h h1) hS
  | cptr b off cs cells hl hS' hR ih => intro G' ρ hS hρ; exact Rep.weakTo (Rep.cptr b off cs cells hl hS' hR) hS
  | clo f vs cs hl h ih => intro G' ρ hS hρ; exact Rep.weakTo (Rep.clo f vs cs hl h) hS
  | iface t v a h ih => intro G' ρ hS hρ; exact Rep.weakTo (Rep.iface t v a h) hS
  | yld l h => intro G' ρ hS hρ; exact .undef

def ixOf (ix : List Nat) (i : Nat) : Option Nat := ix.idxOf? i
theorem ixOf_some {ix : List Nat} {i j : Nat} (h : ixOf ix i = some j) : ix[j]? = some i := by
  simp only [ixOf, List.idxOf?, List.findIdx?_eq_some_iff_getElem] at h
  obtain ⟨h1, h2, _⟩ := h
  rw [List.getElem?_eq_getElem h1]
  simpa using h2
/-- Back from a call: the names in the caller. -/
def backOf (ix : List Nat) (n : Nat) (j : Nat) : Option Nat := if j < ix.length then ix[j]? else some (n + (j - ix.length))
def setMany (H : List BoxC) : List Nat → List (List AV) → List BoxC
  | i :: ix, cs :: l => setMany (H.set i ⟨cs, true⟩) ix l
  | _, _ => H
theorem setMany_length (ix : List Nat) : ∀ (l : List (List AV)) (H : List BoxC), (setMany H ix l).length = H.length := by
  induction ix with
  | nil => intro l H; simp [setMany]
  | cons i ix ih => intro l H; cases l <;> simp [setMany, ih]
theorem setMany_out (ix : List Nat) : ∀ (l : List (List AV)) (H : List BoxC) (i : Nat), i ∉ ix → (setMany H ix l)[i]? = H[i]? := by
  induction ix with
  | nil => intro l H i _; simp [setMany]
  | cons k ix ih =>
    intro l H i hi
    simp only [List.mem_cons, not_or] at hi
    cases l with
    | nil => rfl
    | cons cs l => simp only [setMany]; rw [ih l _ i hi.2, List.getElem?_set]; rw [if_neg (Ne.symm hi.1)]
theorem setMany_in (ix : List Nat) : ∀ (l : List (List AV)) (H : List BoxC), ix.Nodup → ix.length ≤ l.length → (∀ i, i ∈ ix → i < H.length) → ∀ (j i : Nat), ix[j]? = some i → ∃ cs, l[j]? = some cs ∧ (setMany H ix l)[i]? = some ⟨cs, true⟩ := by
  induction ix with
  | nil => intro l H _ _ _ j i h; simp at h
  | cons k ix ih =>
    intro l H hn hl hb j i h
    cases l with
    | nil => simp at hl
    | cons cs l =>
      simp only [List.nodup_cons] at hn
      cases j with
      | zero =>
        simp only [List.getElem?_cons_zero, Option.some.injEq] at h
        subst h
        refine ⟨cs, rfl, ?_⟩
        simp only [setMany]
        rw [setMany_out ix l _ k hn.1, List.getElem?_set, if_pos rfl, if_pos (hb k (by simp))]
      | succ j => simpa [setMany] using ih l (H.set k ⟨cs, true⟩) hn.2 (by simpa using hl) (fun i hi => by simpa using hb i (by simp [hi])) j i (by simpa using h)

section
variable {P : Program} {C : Ctx P} {G : Ghost} {M : Nat → Prop} {σ : Sta} {a : Act} {w w' : World} {o : Oper} {K : Sta → Prop}

def retGhost (G : Ghost) (S : Shadow) (n : Nat) (bs' : List Nat) : Ghost := { G with S := S, box := fun i => if i < n then G.box i else bs'[i - n]? }

theorem SR.calledM (hs : SR C G M σ a w) {ix : List Nat} {bs bs' : List Nat} {S' : Shadow} {H' : List (List AV)} (hix : ix.Nodup) (hw : ∀ i, i ∈ ix → ∃ bc, σ.H[i]? = some bc ∧ bc.wr = true)
    (hbl : bs.length = ix.length) (hbs : ∀ (j i : Nat), ix[j]? = some i → bs[j]? = G.box i) (hok : BoxesOK S' w' (bs ++ bs') H') (hnew : ∀ b, b ∈ bs' → w.heap.size ≤ b) (hst : StepW G.S w S' w' (fun b => b ∉ bs)) :
    SR C (retGhost G S' σ.H.length bs') (fun b => M b ∨ b ∈ bs') { σ with H := setMany σ.H ix H' ++ (H'.drop ix.length).map fun cs => ⟨cs, true⟩ } a w' := by
  obtain ⟨hlen, hnd, hall⟩ := hok
  simp only [List.length_append] at hlen
  have hnb : ∀ i, σ.H.length ≤ i → G.box i = none := hs.boxn
  have hle : G.le (retGhost G S' σ.H.length bs') := ⟨hst.sub, (fun i b e => by
    simp only [retGhost]
    rw [if_pos]
    · exact e
    · rcases Nat.lt_or_ge i σ.H.length with h | h
      · exact h
      · rw [hnb i h] at e; cases e), Nat.le_refl _, fun _ _ _ e => e, fun _ _ e => e, rfl⟩
  have hmemM : ∀ b, b ∈ bs → M b := fun b hb => by
    obtain ⟨j, hj, rfl⟩ := List.mem_iff_getElem.1 hb
    have hj' : j < ix.length := by omega
    obtain ⟨bc, h1, h2⟩ := hw (ix[j]) (List.getElem_mem _)
    have h3 := hbs j ix[j] (List.getElem?_eq_getElem hj')
    rw [List.getElem?_eq_getElem hj] at h3
    obtain ⟨_, _, _, _, h4⟩ := hs.boxCells h1 h3.symm
    exact (h4 h2).1
  have hkeepM : ∀ b, M b → b ∉ bs → w'.heap[b]? = w.heap[b]? ∧ ∀ o, S' b o = G.S b o := fun b hb hk => hst.keep b (hs.mlt b hb) hk
  have hbsbox : ∀ b, b ∈ bs → ∃ i, i ∈ ix ∧ G.box i = some b := fun b hb => by
    obtain ⟨j, hj, rfl⟩ := List.mem_iff_getElem.1 hb
    have hj' : j < ix.length := by omega
    refine ⟨ix[j], List.getElem_mem _, ?_⟩
    have h3 := hbs j ix[j] (List.getElem?_eq_getElem hj')
    rw [List.getElem?_eq_getElem hj] at h3
    exact h3.symm
  have hnewlt : ∀ b, b ∈ bs' → b < w'.heap.size := fun b hb => by
    obtain ⟨j, hj, rfl⟩ := List.mem_iff_getElem.1 hb
    have h1 : (bs ++ bs')[bs.length + j]? = some bs'[j] := by rw [List.getElem?_append_right (by omega), Nat.add_sub_cancel_left, List.getElem?_eq_getElem hj]
    have h2 : H'[bs.length + j]? = some (H'[bs.length + j]'(by omega)) := List.getElem?_eq_getElem (by omega)
    exact (hall _ _ _ h1 h2).1
  have hlt : ∀ i, i ∈ ix → i < σ.H.length := fun i hi => by
    obtain ⟨bc, h1, _⟩ := hw i hi
    rcases Nat.lt_or_ge i σ.H.length with h | h
    · exact h
    · rw [List.getElem?_eq_none h] at h1; cases h1
  have hsl : (setMany σ.H ix H').length = σ.H.length := setMany_length ix H' σ.H
  exact {
    size := hs.size
    env := fun t => (hs.env t).mono hle
    holds := hst.holds
    mlt := fun b hb => by
      rcases hb with hb | hb
      · exact Nat.lt_of_lt_of_le (hs.mlt b hb) hst.size
      · exact hnewlt b hb
    boxes := fun i bc hi => by
      rcases Nat.lt_or_ge i σ.H.length with hil | hil
      · rw [List.getElem?_append_left (by omega)] at hi
        by_cases hmem : i ∈ ix
        · obtain ⟨j, hj, hji⟩ := List.mem_iff_getElem.1 hmem
          have hji' : ix[j]? = some i := by rw [List.getElem?_eq_getElem hj, hji]
          obtain ⟨cs, h1, h2⟩ := setMany_in ix H' σ.H hix (by omega) hlt j i hji'
          rw [h2] at hi; cases hi
          have hbj := hbs j i hji'
          have hj2 : j < bs.length := by omega
          rw [List.getElem?_eq_getElem hj2] at hbj
          have h3 : (bs ++ bs')[j]? = some bs[j] := by rw [List.getElem?_append_left hj2, List.getElem?_eq_getElem hj2]
          obtain ⟨k1, k2, cells, E, k3, k4, k5⟩ := hall j _ _ h3 h1
          refine ⟨bs[j], by simp only [retGhost, if_pos hil]; exact hbj.symm, cells, .inl (hmemM _ (List.getElem_mem _)), ⟨E, k3⟩, k2, RepL.up k4 (fun _ _ _ e => e), k5⟩
        · rw [setMany_out ix H' σ.H i hmem] at hi
          obtain ⟨b, h1, h2⟩ := hs.boxes i bc hi
          refine ⟨b, hle.box i b h1, h2.next hle (fun hM => hkeepM b hM fun hb => ?_) fun h => .inl h⟩
          obtain ⟨k, hk1, hk2⟩ := hbsbox b hb
          exact hmem (hs.boxinj i k b h1 hk2 ▸ hk1)
      · rw [List.getElem?_append_right (by omega), hsl, List.getElem?_map, List.getElem?_drop] at hi
        cases e : H'[ix.length + (i - σ.H.length)]? with
        | none => rw [e] at hi; cases hi
        | some cs =>
          rw [e] at hi; cases hi
          have hlt2 : ix.length + (i - σ.H.length) < H'.length := by
            rcases Nat.lt_or_ge (ix.length + (i - σ.H.length)) H'.length with h | h
            · exact h
            · rw [List.getElem?_eq_none h] at e; cases e
          have hj : i - σ.H.length < bs'.length := by omega
          have h3 : (bs ++ bs')[ix.length + (i - σ.H.length)]? = some (bs'[i - σ.H.length]) := by
            rw [List.getElem?_append_right (by omega), show ix.length + (i - σ.H.length) - bs.length = i - σ.H.length by omega, List.getElem?_eq_getElem hj]
          obtain ⟨k1, k2, cells, E, k3, k4, k5⟩ := hall _ _ _ h3 e
          refine ⟨bs'[i - σ.H.length], by simp only [retGhost, if_neg (Nat.not_lt.2 hil)]; exact List.getElem?_eq_getElem hj, cells, .inr (List.getElem_mem _), ⟨E, k3⟩, k2, RepL.up k4 (fun _ _ _ e => e), k5⟩
    boxn := fun i hi => by
      simp only [List.length_append, hsl, List.length_map, List.length_drop] at hi
      simp only [retGhost]
      rw [if_neg (by omega)]
      exact List.getElem?_eq_none (by omega)
    boxlt := fun i b e => by
      simp only [retGhost] at e
      split at e
      · exact Nat.lt_of_lt_of_le (hs.boxlt i b e) hst.size
      · exact hnewlt b (List.mem_of_getElem? e)
    boxinj := fun i j b e1 e2 => by
      have hold : ∀ k, G.box k = some b → b ∉ bs' := fun k e h => by have := hs.boxlt k b e; have := hnew b h; omega
      simp only [retGhost] at e1 e2
      split at e1 <;> split at e2
      · exact hs.boxinj i j b e1 e2
      · exact absurd (List.mem_of_getElem? e2) (hold i e1)
      · exact absurd (List.mem_of_getElem? e1) (hold j e2)
      · have hnd' : bs'.Nodup := (List.nodup_append.1 hnd).2.1
        have h1 : i - σ.H.length < bs'.length := by
          rcases Nat.lt_or_ge (i - σ.H.length) bs'.length with h | h
          · exact h
          · rw [List.getElem?_eq_none h] at e1; cases e1
        have h2 : i - σ.H.length = j - σ.H.length := (List.getElem?_inj h1 hnd').1 (e1.trans e2.symm)
        omega
    live := hs.live
    nxt := hs.nxt
    owns := fun s r e => (hs.owns s r e).next (fun hM => hkeepM _ hM fun hb => by
      obtain ⟨k, _, hk2⟩ := hbsbox _ hb
      exact hs.ownbox s r k e hk2) fun h => .inl h
    owninj := hs.owninj
    ownbox := fun s r i e => by
      simp only [retGhost]
      split
      · exact hs.ownbox s r i e
      · intro e2
        have h1 := hnew _ (List.mem_of_getElem? e2)
        have h2 := hs.mlt _ (hs.owns s r e).m
        omega
    loop := hs.loop
    base := hs.base.trans hle
    defers := fun d hd => by
      obtain ⟨D, f1, f2, f3⟩ := hs.defers d hd
      refine ⟨D, f1, .inl f2, (hkeepM D f2 fun hb => ?_).1.trans f3⟩
      obtain ⟨k, hk1, hk2⟩ := hbsbox D hb
      obtain ⟨bc, h1, h2⟩ := hw k hk1
      obtain ⟨_, _, _, _, h4⟩ := hs.boxCells h1 hk2
      obtain ⟨_, _, E, h5⟩ := h4 h2
      rw [f3] at h5; cases h5
    dnd := hs.dnd
    ctx := C.stable _ _ _ _ _ _ _ _ hs.ctx hs.holds (hst.mono fun b hb h => hb (hmemM b h)) (fun _ h => .inl h) (fun b h => h.imp id fun hb => hnew b hb) (fun b h => by
      rcases h with h | h
      · exact Nat.lt_of_lt_of_le (hs.mlt b h) hst.size
      · exact hnewlt b h) }
end
end Go.Abs
