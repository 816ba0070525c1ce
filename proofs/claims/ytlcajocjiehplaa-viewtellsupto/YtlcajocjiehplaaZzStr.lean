/- Texts in order; the model's own functions that the library calls. -/
import Derived.Test.YtlcajocjiehplaaZzSet
import Derived.Lib.Bytealg
import Derived.Laws.Externs
import Derived.Lib.Overlaps
set_option linter.unusedVariables false
set_option linter.unusedSimpArgs false
namespace Go.Abs
open Go Go.RowKit

/-! ### Bytes in order -/
theorem bl_irrefl : ∀ a : List UInt8, Op.bytesLess a a = false
  | [] => rfl
  | a :: l => by simp [Op.bytesLess, bl_irrefl l]
theorem bl_trans : ∀ a b c : List UInt8, Op.bytesLess a b = true → Op.bytesLess b c = true → Op.bytesLess a c = true
  | a, b, [], h, k => by cases b <;> simp [Op.bytesLess] at k
  | [], b, _ :: _, h, k => rfl
  | a :: x, [], c :: z, h, k => by simp [Op.bytesLess] at h
  | a :: x, b :: y, c :: z, h, k => by
    simp only [Op.bytesLess, Bool.or_eq_true, decide_eq_true_eq, Bool.and_eq_true, beq_iff_eq] at h k ⊢
    rcases h with h | ⟨rfl, h⟩ <;> rcases k with k | ⟨rfl, k⟩
    · exact .inl (UInt8.lt_trans h k)
    · exact .inl h
    · exact .inl k
    · exact .inr ⟨rfl, bl_trans x y z h k⟩
theorem bl_total : ∀ a b : List UInt8, a ≠ b → Op.bytesLess a b = true ∨ Op.bytesLess b a = true
  | [], [], h => absurd rfl h
  | [], _ :: _, h => .inl rfl
  | _ :: _, [], h => .inr rfl
  | a :: x, b :: y, h => by
    simp only [Op.bytesLess, Bool.or_eq_true, decide_eq_true_eq, Bool.and_eq_true, beq_iff_eq]
    by_cases hab : a = b
    · subst hab
      have := bl_total x y (fun e => h (by rw [e]))
      rcases this with h | h
      · exact .inl (.inr ⟨rfl, h⟩)
      · exact .inr (.inr ⟨rfl, h⟩)
    · rcases UInt8.lt_or_lt_of_ne hab with h | h
      · exact .inl (.inl h)
      · exact .inr (.inl h)
theorem cb_eq : ∀ a b : List UInt8, Lib.compareBytes a b = if Op.bytesLess a b = true then -1 else if Op.bytesLess b a = true then 1 else 0
  | [], [] => rfl
  | [], _ :: _ => rfl
  | _ :: _, [] => rfl
  | a :: x, b :: y => by
    simp only [Lib.compareBytes, Op.bytesLess, cb_eq x y]
    by_cases h1 : a < b
    · simp [h1]
    · by_cases h2 : b < a
      · have h3 : ¬ a = b := fun e => by subst e; exact h1 h2
        simp [h1, h2, h3]
      · have h3 : a = b := by
          by_cases e : a = b
          · exact e
          · rcases UInt8.lt_or_lt_of_ne e with h | h
            · exact absurd h h1
            · exact absurd h h2
        subst h3; simp [h1]

theorem slt_irrefl (a : ByteArray) : slt a a = false := bl_irrefl _
theorem slt_trans {a b c : ByteArray} (h : slt a b = true) (k : slt b c = true) : slt a c = true := bl_trans _ _ _ h k
theorem slt_total {a b : ByteArray} (h : a ≠ b) : slt a b = true ∨ slt b a = true := bl_total _ _ fun e => h (bytes_ext e)
theorem slt_asymm {a b : ByteArray} (h : slt a b = true) : slt b a = false := by
  cases k : slt b a with
  | false => rfl
  | true => have := slt_trans h k; rw [slt_irrefl] at this; cases this

def cmpS (a b : ByteArray) : Int := if slt a b = true then -1 else if slt b a = true then 1 else 0
theorem cmpS_lt {a b : ByteArray} : cmpS a b < 0 ↔ slt a b = true := by
  unfold cmpS; split
  · simp [*]
  · split <;> simp [*]
theorem cmpS_gt {a b : ByteArray} : 0 < cmpS a b ↔ slt b a = true := by
  unfold cmpS; split
  · rename_i h; simp [slt_asymm h]
  · split <;> simp [*]
theorem cmpS_eq {a b : ByteArray} : cmpS a b = 0 ↔ a = b := by
  unfold cmpS; split
  · rename_i h
    constructor
    · intro e; exact absurd e (by decide)
    · intro e; subst e; rw [slt_irrefl] at h; cases h
  · split
    · rename_i h
      constructor
      · intro e; exact absurd e (by decide)
      · intro e; subst e; rw [slt_irrefl] at h; cases h
    · rename_i h1 h2
      simp only [true_iff]
      exact Classical.byContradiction fun h => (slt_total h).elim h1 h2

theorem cmpI_lt {a b : Int} : cmpI a b < 0 ↔ a < b := by unfold cmpI; split <;> (try split) <;> omega
theorem cmpI_gt {a b : Int} : 0 < cmpI a b ↔ b < a := by unfold cmpI; split <;> (try split) <;> omega
theorem cmpI_eq {a b : Int} : cmpI a b = 0 ↔ a = b := by unfold cmpI; split <;> (try split) <;> omega

/-! ### Calls of the model's own -/
section
variable {P : Program} {σ : Sta}
theorem repL_one {G : Ghost} {vs : List Value} {a : AV} (h : RepL G vs [a]) : ∃ v, vs = [v] ∧ Rep G v a := by
  obtain ⟨h1, h2⟩ := h
  match vs, h1 with
  | [v], _ => exact ⟨v, rfl, by simpa using h2 0⟩
theorem repL_two {G : Ghost} {vs : List Value} {a b : AV} (h : RepL G vs [a, b]) : ∃ v u, vs = [v, u] ∧ Rep G v a ∧ Rep G u b := by
  obtain ⟨h1, h2⟩ := h
  match vs, h1 with
  | [v, u], _ => exact ⟨v, u, rfl, by simpa using h2 0, by simpa using h2 1⟩

theorem ext_cmpstr {f : FuncId} {fn : Func} (hf : P.funcs[f]? = some fn) (hname : (fn.name == "runtime.NumGoroutine") = false) (hb : fn.body.isNone = true) (hn : Extern.findNext fn = none)
    (he : Extern.find fn = some Extern.BytealgCompare.compare) (x y : ByteArray) : Ext P f σ [.lit (.string x), .lit (.string y)] (.lit (.int .i64 (cmpS x y))) := by
  intro C G M a w vs hs hr
  obtain ⟨v, u, rfl, h1, h2⟩ := repL_two hr
  obtain ⟨rfl, _⟩ := h1.lit_eq
  obtain ⟨rfl, _⟩ := h2.lit_eq
  refine ⟨.int .i64 (cmpS x y), ?_, .lit ?_⟩
  · rw [run_callFunc_extern hf hname hb hn he, Lib.run_compareString]
    simp only [Result.andThen]
    rw [cb_eq, ← ByteArray.toList_eq, ← ByteArray.toList_eq]; rfl
  · have : cmpS x y = -1 ∨ cmpS x y = 1 ∨ cmpS x y = 0 := by
      unfold cmpS; split
      · exact .inl rfl
      · split
        · exact .inr (.inl rfl)
        · exact .inr (.inr rfl)
    simp only [litOK]
    rcases this with e | e | e <;> rw [e] <;> decide

theorem overlaps_eq (t tb : TypeId) (a b : Option Addr) (la ca lb cb : Nat) : Extern.SlicesOverlaps.overlaps #[t, t] #[tb] #[.slice a la ca, .slice b lb cb] = (do
    let some t := (#[t, t] : Array TypeId)[0]? | stuck "slices.overlaps: no parameter types"
    let .slice elem ← underlying t | stuck "slices.overlaps: slice type expected"
    let size ← sizeOf elem
    match a, b with
    | some a, some b =>
      if la = 0 ∨ lb = 0 ∨ size = 0 then pure (Value.bool false)
      else if a.block != b.block && (← frozen a) && (← frozen b) then unsupported .addressObserved
      else do
        if a.block != b.block then do
          noView a; noView b
          if ← mayBeOne a b then return Value.bool ((← choose (.extern "sameAddr.stringBytes" 2)) == 1)
        pure (Value.bool (a.block == b.block && a.off < b.off + lb * size && b.off < a.off + la * size))
    | _, _ => pure (Value.bool false)) := rfl
theorem run_overlaps {t tb e : TypeId} {dt de : TyD} (ht : tyd P t = some dt) (hdt : dt.desc = .slice e) (he : tyd P e = some de) (w : World) (a b : Addr) (la ca lb cb : Nat) (hne : a.block ≠ b.block)
    (tA tB : TypeId) (kA kB : Nat) (h0 : ¬ (la = 0 ∨ lb = 0 ∨ de.size = 0)) (hsa : w.shape? a.block = some (tA, kA + 1)) (hsb : w.shape? b.block = some (tB, kB + 1)) (hfb : w.frozen? b = false) (hfe : w.frozen? { block := b.block, off := kB + 1 } = false) :
    (Extern.SlicesOverlaps.overlaps #[t, t] #[tb] #[.slice (some a) la ca, .slice (some b) lb cb]).run P w = .ok (.bool false) w := by
  have hnb : (a.block != b.block) = true := by simpa using hne
  have hnb' : (a.block == b.block) = false := by simpa using hne
  have hu := run_underlying' (w := w) ht
  rw [hdt] at hu
  rw [overlaps_eq]
  cases hfa : w.frozen? a <;> cases hfa' : w.frozen? { block := a.block, off := kA + 1 } <;>
    simp [hu, run_sizeOf' he, h0, hnb, hnb', frozen, noView, viewAt, mayBeOne, stringish, shape, Sem.run, hsa, hsb, hfa, hfb, hfe, hfa']

theorem ext_overlaps {f : FuncId} {fn : Func} {t tb e : TypeId} {dt de : TyD} (hf : P.funcs[f]? = some fn) (hname : (fn.name == "runtime.NumGoroutine") = false) (hb : fn.body.isNone = true) (hn : Extern.findNext fn = none)
    (he : Extern.find fn = some (Extern.SlicesOverlaps.overlaps #[t, t] #[tb])) (ht : tyd P t = some dt) (hdt : dt.desc = .slice e) (hde : tyd P e = some de) {ow : Own} {xs : List AV} {i off len cap : Nat} {bc : BoxC}
    (hx : ∀ x, x ∈ xs → x.flat.length = de.size) (hi : σ.H[i]? = some bc) (hw : bc.wr = true) (hlen : off + len * de.size ≤ bc.cells.length) : Ext P f σ [.sl ow xs, .bsl i off len cap] (.lit (.bool false)) := by
  intro C G M a w vs hs hr
  obtain ⟨v, u, rfl, h1, h2⟩ := repL_two hr
  refine ⟨.bool false, ?_, .lit trivial⟩
  rw [run_callFunc_extern hf hname hb hn he]
  have hu := run_underlying' (w := w) ht
  rw [hdt] at hu
  have key : (Extern.SlicesOverlaps.overlaps #[t, t] #[tb] #[v, u]).run P w = .ok (.bool false) w := by
    cases h2 with
    | bsl _ _ _ _ b hbx hc hm hmx =>
      obtain ⟨cells, k1, k2, k3, k4⟩ := hs.boxCells hi hbx
      obtain ⟨k5, k6, E, k7⟩ := k4 hw
      have hcl := k1.1
      cases h1 with
      | slnil =>
        rw [overlaps_eq]
        simp [hu, run_sizeOf' hde]
      | sl _ b' off' sz cap' _ cells' hl hS hR hz hc' hm' hO =>
        by_cases h0 : xs.length = 0 ∨ len = 0 ∨ de.size = 0
        · rw [overlaps_eq]
          simp only [List.getElem?_toArray, List.getElem?_cons_zero, Sem.run_bind, hu, run_sizeOf' hde, Result.andThen_ok, if_pos h0, Sem.run_pure]
        · have hne0 : ¬ xs.length = 0 := fun e => h0 (.inl e)
          have hz0 : ¬ de.size = 0 := fun e => h0 (.inr (.inr e))
          have hl0 : ¬ len = 0 := fun e => h0 (.inr (.inl e))
          have hpos : 0 < cells'.length := by
            rw [hl]
            cases xs with
            | nil => simp at hne0
            | cons x l =>
              have := hx x (by simp)
              simp only [flats, List.flatMap_cons, List.length_append]; omega
          have hS0 := hS 0 hpos
          have hne : b' ≠ b := fun e => by subst e; rw [k6] at hS0; cases hS0
          have hcell := (hs.holds _ _ _ hS0).1
          obtain ⟨tA, kA, hsa⟩ : ∃ tA kA, w.shape? b' = some (tA, kA + 1) := by
            unfold World.cell? at hcell
            unfold World.shape?
            cases hh : w.heap[b']? with
            | none => simp [hh] at hcell
            | some o =>
              cases o with
              | cells c el fr =>
                refine ⟨el, c.size - 1, ?_⟩
                simp only [hh] at hcell
                have : off' + 0 < c.size := by
                  rcases Nat.lt_or_ge (off' + 0) c.size with h | h
                  · exact h
                  · rw [Array.getElem?_eq_none h] at hcell; simp at hcell
                simp; omega
              | _ => simp [hh] at hcell
          have hcpos : 0 < cells.length := by
            have : 0 < len * de.size := Nat.mul_pos (by omega) (by omega)
            omega
          obtain ⟨kB, hkB⟩ : ∃ kB, cells.length = kB + 1 := ⟨cells.length - 1, by omega⟩
          exact run_overlaps ht hdt hde w ⟨b', off', none⟩ ⟨b, off, none⟩ _ _ _ _ hne tA E kA kB h0 hsa (by simp [World.shape?, k7, hkB]) (by simp [World.frozen?, k7]) (by simp [World.frozen?, k7])
  rw [show ([v, u] : List Value).toArray = #[v, u] from rfl, key]
  rfl
end
end Go.Abs
