/- Rules for fields, elements, lengths, pieces. -/
import Derived.Test.YtlcajocjiehplaaZzOps3
set_option linter.unusedVariables false
set_option linter.unusedSimpArgs false
namespace Go.Abs
open Go Go.RowKit

section
variable {P : Program} {C : Ctx P} {G : Ghost} {M : Nat → Prop} {σ : Sta} {a : Act} {w : World} {o : Oper} {K : Sta → Prop}

def fieldOf (d : TyD) (f : Nat) : Option Field :=
  match d.desc with
  | .struct fs => fs[f]?
  | _ => none

theorem run_fieldPlace {b off : Nat} {fl : Field} {fd : TyD} (hf : tyd P fl.type = some fd) (hz : fd.size ≠ 0) : (fieldPlace ⟨b, off, none⟩ fl).run P w = .ok ⟨b, off + fl.offset, none⟩ w := by
  simp only [fieldPlace, Sem.run_bind, run_sizeOf' hf, Result.andThen_ok, if_neg hz, addr_add]
  rfl

theorem aop_fieldAddr_c {s : TypeId} {X : Operand} {f : Nat} {d fd : TyD} {fl : Field} {cs : List AV} (ho : o.op = .fieldAddr s X f) (hX : Op.ok X = true) (hd : tyd P s = some d) (hfl : fieldOf d f = some fl) (hf : tyd P fl.type = some fd) (hz : fd.size ≠ 0)
    (he : σ.eval X = .cptr cs) (hK : K (σ.put o.dst (.cptr (cs.drop fl.offset)))) : aop C o K σ := by
  refine aop_pure (by rw [ho]; rfl) hK fun G M a w hs => ?_
  have hr := eval_rep hs X (opOK hX)
  rw [he] at hr
  generalize hv : a.eval X = v at hr
  cases hr with
  | cptr b off cs cells hl hS hR =>
    refine ⟨.pointer (some ⟨b, off + fl.offset, none⟩), ?_, .cptr b (off + fl.offset) _ (cells.drop fl.offset) (by simp [hl]) (fun j hj => ?_) (fun j => ?_)⟩
    · unfold fieldOf at hfl
      split at hfl
      · rename_i fs hdesc
        simp only [execOp, ho, hv, Instr.fieldAt, Sem.run_bind, run_underlying' hd, Result.andThen_ok, hdesc, hfl, Instr.sureAddr, Sem.run_pure, run_fieldPlace hf hz]
      · cases hfl
    · simp only [List.length_drop] at hj
      have := hS (fl.offset + j) (by omega)
      rw [← Nat.add_assoc] at this
      rw [this]
      simp [List.getD_eq_getElem?_getD, List.getElem?_drop]
    · have := hR (fl.offset + j)
      simpa [List.getD_eq_getElem?_getD, List.getElem?_drop] using this

theorem aop_fieldAddr_b {s : TypeId} {X : Operand} {f : Nat} {d fd : TyD} {fl : Field} {i off : Nat} (ho : o.op = .fieldAddr s X f) (hX : Op.ok X = true) (hd : tyd P s = some d) (hfl : fieldOf d f = some fl) (hf : tyd P fl.type = some fd) (hz : fd.size ≠ 0)
    (he : σ.eval X = .bptr i off) (hK : K (σ.put o.dst (.bptr i (off + fl.offset)))) : aop C o K σ := by
  refine aop_pure (by rw [ho]; rfl) hK fun G M a w hs => ?_
  have hr := eval_rep hs X (opOK hX)
  rw [he] at hr
  generalize hv : a.eval X = v at hr
  cases hr with
  | bptr i off b hb =>
    refine ⟨.pointer (some ⟨b, off + fl.offset, none⟩), ?_, .bptr _ _ b hb⟩
    unfold fieldOf at hfl
    split at hfl
    · rename_i fs hdesc
      simp only [execOp, ho, hv, Instr.fieldAt, Sem.run_bind, run_underlying' hd, Result.andThen_ok, hdesc, hfl, Instr.sureAddr, Sem.run_pure, run_fieldPlace hf hz]
    · cases hfl

theorem run_part' {t : TypeId} {d : TyD} (ht : tyd P t = some d) (vs : Array Value) (off : Nat) (h1 : d.agg = true ∨ d.size = 1) (hl : off + d.size ≤ vs.size) :
    (part t vs off).run P w = .ok (if d.agg then .agg (vs.extract off (off + d.size)) else vs.getD off undef) w := by
  simp only [part, Sem.run_bind, run_isAgg ht, Result.andThen_ok]
  cases hd : d.agg with
  | true => simp only [if_true, Sem.run_bind, run_sizeOf' ht, Result.andThen_ok, Sem.run_pure]
  | false =>
    have hz : d.size = 1 := h1.resolve_left (by simp [hd])
    have : off < vs.size := by omega
    simp [this, Array.getD_eq_getD_getElem?]

theorem aop_field {s : TypeId} {X : Operand} {f : Nat} {d fd : TyD} {fl : Field} {cs : List AV} (ho : o.op = .field s X f) (hX : Op.ok X = true) (hd : tyd P s = some d) (hfl : fieldOf d f = some fl) (hf : tyd P fl.type = some fd) (h1 : fd.agg = true ∨ fd.size = 1)
    (he : σ.eval X = .agg cs) (hl : fl.offset + fd.size ≤ cs.length) (hK : K (σ.put o.dst (packed fd ((cs.drop fl.offset).take fd.size)))) : aop C o K σ := by
  refine aop_pure (by rw [ho]; rfl) hK fun G M a w hs => ?_
  have hr := eval_rep hs X (opOK hX)
  rw [he] at hr
  generalize hv : a.eval X = v at hr
  cases hr with
  | agg vs cs hl' h h1' =>
    unfold fieldOf at hfl
    split at hfl
    · rename_i fs hdesc
      refine ⟨if fd.agg then .agg (vs.extract fl.offset (fl.offset + fd.size)) else vs.getD fl.offset undef, ?_, ?_⟩
      · simp only [execOp, ho, hv, Instr.field, Sem.run_bind, run_underlying' hd, Result.andThen_ok, hdesc, hfl, asAgg, Sem.run_pure, run_part' hf vs fl.offset h1 (by omega)]
      · have hR : RepL G vs.toList cs := ⟨by simpa using hl', fun j => by simpa [Array.getD_eq_getD_getElem?, List.getD_eq_getElem?_getD] using h j⟩
        have hw := rep_packed (d := fd) (hR.window fl.offset fd.size) (fun v hv => h1' v (by simpa using List.mem_of_mem_drop (List.mem_of_mem_take hv)))
        have e : (vs.extract fl.offset (fl.offset + fd.size)) = ((vs.toList.drop fl.offset).take fd.size).toArray := by
          apply Array.ext'
          simp [Array.toList_extract, List.take_drop, Nat.add_comm]
        rw [e]
        cases hda : fd.agg with
        | true => rw [hda] at hw; exact hw
        | false =>
          rw [hda] at hw
          have hz : fd.size = 1 := h1.resolve_left (by simp [hda])
          simp only [Bool.false_eq_true, if_false, hz] at hw ⊢
          have : vs.getD fl.offset undef = (((vs.toList.drop fl.offset).take 1).getD 0 undef) := by
            rw [getD_drop_take _ _ _ _ _ (by omega)]; simp [Array.getD_eq_getD_getElem?, List.getD_eq_getElem?_getD]
          rw [this]; exact hw
    · cases hfl

def elemOf (d : TyD) : Option TypeId :=
  match d.desc with
  | .slice e => some e
  | _ => none
theorem elemOf_some {d : TyD} {e : TypeId} (h : Abs.elemOf d = some e) : d.desc = .slice e := by
  unfold Abs.elemOf at h; split at h
  · cases h; assumption
  · cases h

/-- The cells of the element i of a list of equal elements. -/
theorem flats_window {xs : List AV} {sz : Nat} (hz : ∀ x, x ∈ xs → x.flat.length = sz) (i : Nat) (hi : i < xs.length) : ((flats xs).drop (i * sz)).take sz = (xs.getD i .undef).flat := by
  induction xs generalizing i with
  | nil => simp at hi
  | cons x xs ih =>
    have hx := hz x (by simp)
    have hz' : ∀ y, y ∈ xs → y.flat.length = sz := fun y hy => hz y (by simp [hy])
    cases i with
    | zero => simp [flats, List.take_append, hx, List.take_of_length_le]
    | succ i =>
      have := ih hz' i (by simpa using hi)
      simp only [flats, List.flatMap_cons, Nat.succ_mul] at this ⊢
      rw [show i * sz + sz = x.flat.length + i * sz by omega, List.drop_append, List.drop_of_length_le (by omega)]
      simpa [Nat.add_sub_cancel_left] using this
theorem flats_length {xs : List AV} {sz : Nat} (hz : ∀ x, x ∈ xs → x.flat.length = sz) : (flats xs).length = xs.length * sz := by
  induction xs with
  | nil => simp [flats]
  | cons x xs ih =>
    have := ih fun y hy => hz y (by simp [hy])
    simp only [flats, List.flatMap_cons, List.length_append, List.length_cons, Nat.succ_mul] at this ⊢
    rw [this, hz x (by simp)]; omega

theorem aop_indexAddr {t e : TypeId} {X I : Operand} {d ed : TyD} {ow : Own} {xs : List AV} {k : IntKind} {i : Int} (ho : o.op = .indexAddr t X I) (hX : Op.ok X = true) (hI : Op.ok I = true) (ht : tyd P t = some d) (he : Abs.elemOf d = some e) (hed : tyd P e = some ed)
    (h1 : σ.eval X = .sl ow xs) (h2 : σ.eval I = .lit (.int k i)) (h0 : 0 ≤ i) (hi : i < (xs.length : Int)) (hz : (xs.getD i.toNat .undef).flat.length = ed.size) (hK : K (σ.put o.dst (.cptr (xs.getD i.toNat .undef).flat))) : aop C o K σ := by
  refine aop_pure (by rw [ho]; rfl) hK fun G M a w hs => ?_
  have hr := eval_rep hs X (opOK hX)
  rw [h1] at hr
  have hi2 := (eval_lit hs hI h2).1
  generalize hv : a.eval X = v at hr
  have hdesc := elemOf_some he
  have hlt : i.toNat < xs.length := by omega
  cases hr with
  | slnil ow => simp at hi; omega
  | sl ow b off sz cap xs cells hl hS hR hzz hc hm hO =>
    have hsz : sz = ed.size := by
      have := hzz (xs.getD i.toNat .undef) (by rw [List.getD_eq_getElem?_getD, List.getElem?_eq_getElem hlt]; simp)
      omega
    subst hsz
    have hfl := flats_length hzz
    have hwin := flats_window hzz i.toNat hlt
    have hmul : i.toNat * ed.size + ed.size ≤ xs.length * ed.size := by
      rw [← Nat.succ_mul]; exact Nat.mul_le_mul_right _ hlt
    refine ⟨.pointer (some ⟨b, off + i.toNat * ed.size, none⟩), ?_, ?_⟩
    · simp only [execOp, ho, hv, hi2, Instr.indexAt, asIntOf, Sem.run_bind, Sem.run_pure, Result.andThen_ok, run_underlying' ht, hdesc, run_sizeOf' hed]
      rw [if_pos ⟨h0, hi⟩]
      simp only [Sem.run_bind, run_sizeOf' hed, Result.andThen_ok, Sem.run_pure, addr_add]
    · have hR' : RepL G.pure cells (flats xs) := ⟨hl, hR⟩
      have hW := hR'.window (i.toNat * ed.size) ed.size
      rw [hwin] at hW
      refine .cptr b _ _ ((cells.drop (i.toNat * ed.size)).take ed.size) hW.1 (fun j hj => ?_) hW.2
      simp only [List.length_take, List.length_drop] at hj
      rw [getD_drop_take _ _ _ _ _ (by omega), Nat.add_assoc]
      exact hS _ (by omega)

/-- A byte of a text. -/
theorem aop_index_str {t : TypeId} {X I : Operand} {d : TyD} {s : ByteArray} {k : IntKind} {i : Int} (ho : o.op = .index t X I) (hX : Op.ok X = true) (hI : Op.ok I = true) (ht : tyd P t = some d) (hd : d.desc = .string)
    (h1 : σ.eval X = .lit (.string s)) (h2 : σ.eval I = .lit (.int k i)) (h0 : 0 ≤ i) (hi : i < (s.size : Int)) (hK : K (σ.put o.dst (.lit (.int .u8 ((s.data.getD i.toNat 0).toNat : Int))))) : aop C o K σ := by
  have hlt : i.toNat < s.size := by omega
  refine aop_pure (by rw [ho]; rfl) hK fun G M a w hs => ?_
  have e1 := (eval_lit hs hX h1).1
  have e2 := (eval_lit hs hI h2).1
  refine ⟨.int .u8 ((s.data.getD i.toNat 0).toNat : Int), ?_, .lit ?_⟩
  · have hb : s[i.toNat]? = some (s.data.getD i.toNat 0) := by
      have : i.toNat < s.data.size := hlt
      simp [getElem?_def, hlt, Array.getD_eq_getD_getElem?, this]
      rfl
    simp only [execOp, ho, e1, e2, Instr.index, asIntOf, Sem.run_bind, Sem.run_pure, Result.andThen_ok, run_underlying' ht, hd, if_pos h0, hb]
  · have h := (s.data.getD i.toNat 0).toNat_lt
    have e1 : IntKind.u8.min = 0 := rfl
    have e2 : IntKind.u8.max = 255 := rfl
    exact ⟨by rw [e1]; omega, by rw [e2]; omega⟩

/-- Pieces. -/
def bound (x : Option Operand) (σ : Sta) (dflt : Nat) : Option Nat :=
  match x with
  | none => some dflt
  | some p => match σ.eval p with
    | .lit (.int _ n) => if 0 ≤ n then some n.toNat else none
    | _ => none
def ok? (x : Option Operand) : Bool :=
  match x with
  | none => true
  | some p => Op.ok p
theorem run_bound {p : Operand} {y l dflt : Nat} (hs : SR C G M σ a w) (hp : Op.ok p = true) (h : bound (some p) σ dflt = some l) (hl : l ≤ y) (code : BoundsCode) :
    (Instr.sliceBound (a.eval p) y code).run P w = .ok l w := by
  simp only [bound] at h
  split at h
  · rename_i k n he
    split at h
    · rename_i h0
      cases h
      rw [(eval_lit hs hp he).1]
      exact run_sliceBound w k n y code h0 (by omega)
    · cases h
  · cases h
theorem run_sliceBounds {lo hi : Option Operand} {len cap l h : Nat} (hs : SR C G M σ a w) (isS : Bool) (hlo : ok? lo = true) (hhi : ok? hi = true) (e1 : bound lo σ 0 = some l) (e2 : bound hi σ len = some h) (hlh : l ≤ h) (hh : h ≤ cap) :
    (Instr.sliceBounds isS len cap (lo.map a.eval) (hi.map a.eval) none).run P w = .ok (l, h, cap) w := by
  have k2 : ∀ (f : Nat → Sem (Nat × Nat × Nat)), (match hi.map a.eval, (none : Option Value) with
      | some v, some _ => Instr.sliceBound v cap .slice3B
      | some v, none => Instr.sliceBound v cap (if isS then .sliceAcap else .sliceAlen)
      | none, none => pure len
      | none, some _ => stuck "Slice: max without high" : Sem Nat).run P w = .ok h w := fun _ => by
    cases hi with
    | none => simp only [bound] at e2; cases e2; rfl
    | some p => exact run_bound hs hhi e2 hh _
  have k1 : (match lo.map a.eval with
      | some v => Instr.sliceBound v h .sliceB
      | none => pure 0 : Sem Nat).run P w = .ok l w := by
    cases lo with
    | none => simp only [bound] at e1; cases e1; rfl
    | some p => exact run_bound hs hlo e1 hlh _
  unfold Instr.sliceBounds
  cases hi with
  | none =>
    simp only [bound] at e2; cases e2
    cases lo with
    | none => simp only [bound] at e1; cases e1; simp
    | some p =>
      have := run_bound hs hlo e1 hlh .sliceB
      simp [this]
  | some q =>
    have h2 := run_bound hs hhi e2 hh (if isS then .sliceAcap else .sliceAlen)
    cases lo with
    | none => simp only [bound] at e1; cases e1; simp [h2]
    | some p =>
      have := run_bound hs hlo e1 hlh .sliceB
      simp [h2, this]

theorem aop_slice_str {t : TypeId} {X : Operand} {lo hi : Option Operand} {d : TyD} {s : ByteArray} {l h : Nat} (ho : o.op = .slice t X lo hi none) (hX : Op.ok X = true) (hlo : ok? lo = true) (hhi : ok? hi = true) (ht : tyd P t = some d) (hd : d.desc = .string)
    (h1 : σ.eval X = .lit (.string s)) (e1 : bound lo σ 0 = some l) (e2 : bound hi σ s.size = some h) (hlh : l ≤ h) (hh : h ≤ s.size) (hK : K (σ.put o.dst (.lit (.string (s.extract l h))))) : aop C o K σ := by
  refine aop_pure (by rw [ho]; rfl) hK fun G M a w hs => ?_
  obtain ⟨ex, kx⟩ := eval_lit hs hX h1
  refine ⟨_, ?_, .lit (v := .string (s.extract l h)) ?_⟩
  · have hb := run_sliceBounds (P := P) hs false hlo hhi e1 e2 hlh hh
    simp only [execOp, ho, ex, Instr.sliceAt, Instr.slice, Sem.run_bind, run_underlying' ht, Result.andThen_ok, hd, Option.map_none]
    simp [hb]
  · simp only [litOK, ByteArray.size_extract] at kx ⊢
    omega
end
end Go.Abs
