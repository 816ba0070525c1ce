/- Calls that read slices of our own; calls that write them. -/
import Derived.Test.YtlcajocjiehplaaZzBox2
set_option linter.unusedVariables false
set_option linter.unusedSimpArgs false
namespace Go.Abs
open Go Go.RowKit

/-- What refers to no memory. -/
def AV.plain : AV → Bool
  | .undef | .lit _ => true
  | .agg cs => plainL cs
  | .tup cs => plainL cs
  | _ => false
where plainL : List AV → Bool
  | [] => true
  | a :: l => a.plain && plainL l
theorem plainL_iff (l : List AV) : AV.plain.plainL l = true ↔ ∀ x, x ∈ l → x.plain = true := by
  induction l with
  | nil => simp [AV.plain.plainL]
  | cons a l ih => simp [AV.plain.plainL, ih]
theorem Rep.plain {G : Ghost} {v : Value} {a : AV} (h : Rep G v a) : a.plain = true → ∀ G', Rep G' v a := by
  have hg : ∀ (cs : List AV) (j : Nat), (∀ x, x ∈ cs → x.plain = true) → (cs.getD j .undef).plain = true := fun cs j hc => by
    rw [List.getD_eq_getElem?_getD]
    cases e : cs[j]? with
    | none => rfl
    | some x => exact hc x (List.mem_of_getElem? e)
  induction h with
  | undef => exact fun _ _ => .undef
  | lit h => exact fun _ _ => .lit h
  | agg vs cs hl h h1 ih =>
    intro hp G'
    simp only [AV.plain, plainL_iff] at hp
    exact .agg vs cs hl (fun j => ih j (hg cs j hp) G') h1
  | tup vs cs hl h ih =>
    intro hp G'
    simp only [AV.plain, plainL_iff] at hp
    exact .tup vs cs hl fun j => ih j (hg cs j hp) G'
  | _ => intro hp; cases hp

section
variable {P : Program} {C : Ctx P} {G : Ghost} {M : Nat → Prop} {σ : Sta} {a : Act} {w w' : World} {o : Oper} {K : Sta → Prop}

/-- As what an argument is lent: a slice of our own as one to read. -/
def Lends (σ : Sta) (x y : AV) : Prop :=
  y = x.weak ∨ ∃ i off len cap bc xs z, x = .bsl i off len cap ∧ σ.H[i]? = some bc ∧ y = .sl .no (xs.map AV.weak) ∧ flats xs = (bc.cells.drop off).take (len * z) ∧ (∀ x, x ∈ xs → x.flat.length = z) ∧ len = xs.length ∧ off + len * z ≤ bc.cells.length

open Classical in
/-- What is known while our boxes stay as they are. -/
noncomputable def lentS (G : Ghost) (σ : Sta) (w : World) : Shadow := fun b o =>
  match G.S b o with
  | some v => some v
  | none => if ∃ i bc, G.box i = some b ∧ σ.H[i]? = some bc ∧ bc.wr = true then
      match w.cell? ⟨b, o, none⟩ with
      | some v => if v.oneCell' = true then some v else none
      | none => none
    else none

theorem lentS_le : Shadow.le G.S (lentS G σ w) := fun b o v e => by simp only [lentS, e]
theorem lentS_holds (hs : SR C G M σ a w) : Holds (lentS G σ w) w := fun b o v e => by
  simp only [lentS] at e
  split at e
  · rename_i v' e'; cases e; exact hs.holds b o _ e'
  · split at e
    · split at e
      · split at e
        · cases e; exact ⟨by assumption, by assumption⟩
        · cases e
      · cases e
    · cases e

theorem lends_rep (hs : SR C G M σ a w) {v : Value} {x y : AV} (hr : Rep G v x) (h : Lends σ x y) : Rep (gp (lentS G σ w)) v y := by
  rcases h with rfl | ⟨i, off, len, cap, bc, xs, z, rfl, hi, rfl, hx, hz, hl, hle⟩
  · exact hr.weak.up lentS_le
  · cases hr with
    | bsl i off len cap b hb hc hm hx' =>
      obtain ⟨cells, k1, k2, k3, k4⟩ := hs.boxCells hi hb
      have hcl := k1.1
      have hS : ∀ j, j < cells.length → lentS G σ w b j = some (cells.getD j undef) := fun j hj => by
        simp only [lentS]
        cases e : G.S b j with
        | some v' =>
          have := (hs.holds b j v' e).1
          rw [k3 j hj] at this
          exact this.symm
        | none =>
          cases hw : bc.wr with
          | true =>
            have hex : ∃ i bc, G.box i = some b ∧ σ.H[i]? = some bc ∧ bc.wr = true := ⟨i, bc, hb, hi, hw⟩
            simp only [if_pos hex, k3 j hj]
            have := k2 (cells.getD j undef) (by rw [List.getD_eq_getElem?_getD, List.getElem?_eq_getElem hj]; simp)
            rw [if_pos this]
          | false =>
            obtain ⟨b', e1, cells', e2⟩ := hs.boxes i bc hi
            rw [hb] at e1; cases e1
            rw [hw] at e2
            have h1 := e2.1 j (by have := e2.2.1; omega)
            rw [e] at h1; cases h1
      have hW := k1.weak.window off (len * z)
      have hfl : flats (xs.map AV.weak) = ((bc.cells.map AV.weak).drop off).take (len * z) := by rw [weak_flats, hx, List.map_take, List.map_drop]
      rw [← hfl] at hW
      have := Rep.sl (G := gp (lentS G σ w)) .no b off z cap (xs.map AV.weak) ((cells.drop off).take (len * z)) hW.1 (fun j hj => by
          simp only [List.length_take, List.length_drop] at hj
          rw [getD_drop_take _ _ _ _ _ (by omega)]
          exact hS _ (by omega)) (fun j => (hW.2 j).up (G := gp (lentS G σ w)) lentS_le) (fun x hx => by
          obtain ⟨y, hy, rfl⟩ := List.mem_map.1 hx
          rw [weak_flat, List.length_map]; exact hz y hy) (by rw [List.length_map]; omega) (by rw [List.length_map]; omega) trivial
      rw [List.length_map, ← hl] at this
      exact this

inductive All2 {α β : Type} (R : α → β → Prop) : List α → List β → Prop
  | nil : All2 R [] []
  | cons {x y l m} : R x y → All2 R l m → All2 R (x :: l) (y :: m)
theorem lends_repL (hs : SR C G M σ a w) {xs ys : List AV} (h : All2 (Lends σ) xs ys) : ∀ {vs : List Value}, RepL G vs xs → RepL (gp (lentS G σ w)) vs ys := by
  induction h with
  | nil => intro vs hr; exact ⟨hr.1, fun j => by simpa using Rep.undef⟩
  | cons hxy _ ih =>
    intro vs hr
    cases vs with
    | nil => have := hr.1; simp at this
    | cons v vs =>
      refine RepL.cons (lends_rep hs (by simpa using hr.2 0) hxy) (ih ⟨by simpa using hr.1, fun j => by simpa using hr.2 (j + 1)⟩)

/-- A call that reads slices of our own: what comes back refers to no memory. -/
theorem aop_call_l {f : FuncId} {F : Operand} {args : Array Operand} {ats : Array TypeId} {caps ys : List AV} {r : AV} (ho : o.op = .call { callee := .value F, args, argTypes := ats })
    (he : σ.eval F = .clo f caps) (hy : All2 (Lends σ) (args.toList.map σ.eval ++ caps) ys) (hp : Pure P f ys r) (hpl : r.plain = true) (hK : K (σ.put o.dst r)) : aop C o K σ := by
  intro ro n G M a w next Q hs hn
  have hr := eval_rep hs F
  rw [he] at hr
  generalize hv : a.eval F = v at hr
  cases hr with
  | clo f vs cs hl h =>
    have hcaps : RepL G vs.toList caps := ⟨by simpa using hl, fun j => by simpa [Array.getD_eq_getD_getElem?, List.getD_eq_getElem?_getD] using h j⟩
    have hall := lends_repL hs hy ((evals_rep hs args.toList fun _ _ => rfl).append hcaps)
    have hrun := run_call_value (P := P) (w := w) ho hv hp.1
    refine wpIn_of_run (by rw [ho]; rfl) hrun ?_
    refine ⟨(fun h => nomatch h), ?_⟩
    have hc := hp.2 (n - 1) (lentS G σ w) w _ (lentS_holds hs) hall
    have hargs : (args.toList.map a.eval ++ vs.toList).toArray = args.map a.eval ++ vs := by apply Array.ext'; simp
    rw [hargs] at hc
    refine CallsIn.mono (show CallsIn (fw ro) (n - 1) P f _ w _ from hc) ?_
    rintro e w' ⟨v', S', rfl, hst, hrep⟩
    let S2 : Shadow := fun b o => if b < w.heap.size then G.S b o else S' b o
    have hst2 : StepW G.S w S2 w' (fun _ => True) := by
      refine ⟨hst.os, hst.tape, hst.output, hst.size, fun b o v e => ?_, fun b o v e => ?_, fun b hb _ => ⟨(hst.keep b hb trivial).1, fun o => if_pos hb⟩⟩
      · show (if b < w.heap.size then G.S b o else S' b o) = some v
        rw [if_pos (hs.holds.lt e)]; exact e
      · simp only [S2] at e
        split at e
        · exact hst.holds b o v (hst.sub b o v (lentS_le b o v e))
        · exact hst.holds b o v e
    exact hn _ _ _ _ _ hK ((hs.called hst2).put o.dst (hrep.plain hpl _))
end
end Go.Abs
