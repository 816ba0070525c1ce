/- Rules for single operations. -/
import Derived.Test.YtlcajocjiehplaaZzSta
import Derived.Laws.AppendOwn
import Derived.Laws.CopyRow
import Derived.Laws.Append
import Derived.Laws.Slices
import Derived.Laws.MakeOwn
set_option linter.unusedVariables false
set_option linter.unusedSimpArgs false
namespace Go.Abs
open Go Go.RowKit

def isDefer : Op → Bool
  | .defer _ => true
  | _ => false

theorem agetD_set (l : Array Value) (d t : Nat) (x : Value) : (l.setIfInBounds d x).getD t undef = if d = t ∧ d < l.size then x else l.getD t undef := by
  simp only [Array.getD_eq_getD_getElem?, Array.getElem?_setIfInBounds]
  by_cases h : d = t
  · subst h
    by_cases hl : d < l.size
    · simp [hl]
    · simp [hl]
  · simp [h]

section
variable {P : Program} {C : Ctx P} {G : Ghost} {M : Nat → Prop} {σ : Sta} {a : Act} {w : World}

@[simp] theorem put_H (σ : Sta) (d : Option Tmp) (x : AV) : (σ.put d x).H = σ.H := by cases d <;> rfl
@[simp] theorem put_n (σ : Sta) (d : Option Tmp) (x : AV) : (σ.put d x).n = σ.n := by cases d <;> rfl
@[simp] theorem put_L (σ : Sta) (d : Option Tmp) (x : AV) : (σ.put d x).L = σ.L := by cases d <;> rfl
@[simp] theorem put_tr (σ : Sta) (d : Option Tmp) (x : AV) : (σ.put d x).tr = σ.tr := by cases d <;> rfl
@[simp] theorem put_stop (σ : Sta) (d : Option Tmp) (x : AV) : (σ.put d x).stop = σ.stop := by cases d <;> rfl
@[simp] theorem aput_defers (a : Act) (d : Option Tmp) (v : Value) : (a.put d v).defers = a.defers := by cases d <;> rfl

/-- The environment alone: all else of a state relation is carried. -/
theorem SR.env' (hs : SR C G M σ a w) {σ' : Sta} {a' : Act} (hH : σ'.H = σ.H) (hL : σ'.L = σ.L) (ht : σ'.tr = σ.tr) (hst : σ'.stop = σ.stop) (hd : a'.defers = a.defers)
    (hz : a'.tmps.size = σ'.n) (he : ∀ t, Rep G (a'.tmps.getD t undef) (σ'.get t)) : SR C G M σ' a' w where
  size := hz
  env := he
  holds := hs.holds
  mlt := hs.mlt
  boxes := by rw [hH]; exact hs.boxes
  boxn := by rw [hH]; exact hs.boxn
  boxlt := hs.boxlt
  boxinj := hs.boxinj
  live := by rw [hL]; exact hs.live
  nxt := hs.nxt
  owns := hs.owns
  owninj := hs.owninj
  ownbox := hs.ownbox
  loop := hs.loop
  base := hs.base
  defers := by rw [hd]; exact hs.defers
  dnd := by rw [hd]; exact hs.dnd
  ctx := by rw [ht, hst]; exact hs.ctx

theorem SR.put (hs : SR C G M σ a w) {v : Value} {x : AV} (d : Option Tmp) (h : Rep G v x) : SR C G M (σ.put d x) (a.put d v) w := by
  refine hs.env' (by simp) (by simp) (by simp) (by simp) (by simp) ?_ ?_
  · cases d with
    | none => exact hs.size
    | some d => simpa [Sta.put, Act.put] using hs.size
  · intro t
    cases d with
    | none => exact hs.env t
    | some d =>
      simp only [Sta.put, Act.put, Sta.get]
      rw [agetD_set, hs.size]
      by_cases h' : d = t ∧ d < σ.n
      · rw [if_pos h', if_pos ⟨h'.1.symm, h'.2⟩]; exact h
      · rw [if_neg h', if_neg (fun k => h' ⟨k.1.symm, k.2⟩)]; exact hs.env t

theorem wpIn_of_run {ro : Option Nat} {n : Nat} {o : Oper} {next : Act → World → Prop} {Q : Exit → Act → World → Prop} (hd : isDefer o.op = false) {r : Result Next}
    (hr : (execOp a.eval o).run P w = r) (h : o.uponIn (fw ro) n P a next Q r) : o.wpIn (fw ro) n P a w next Q := by
  refine ⟨fun _ _ => trivial, ?_⟩
  subst hr
  cases ro with
  | none => exact h
  | some l =>
    have : Oper.semAt (some l) a.eval o = execOp a.eval o := Oper.semAt_some l a.eval o (fun c e => by rw [e] at hd; cases hd)
    show o.uponIn (fw (some l)) n P a next Q ((o.semAt (some l) a.eval).run P w)
    rw [this]; exact h

/-- An operation that only computes. -/
theorem aop_pure {o : Oper} {K : Sta → Prop} {x : AV} (hd : isDefer o.op = false) (hK : K (σ.put o.dst x))
    (h : ∀ G M a w, SR C G M σ a w → ∃ v, (execOp a.eval o).run P w = .ok (.value v) w ∧ Rep G v x) : aop C o K σ := by
  intro ro n G M a w next Q hs hn
  obtain ⟨v, hr, hv⟩ := h G M a w hs
  exact wpIn_of_run hd hr (hn G M _ _ w hK (hs.put o.dst hv))

end

/-! ### The types' facts -/
structure TyD where
  size : Nat
  bytes : Nat
  agg : Bool
  desc : TypeDesc
  zero : Option Value
def tyd (P : Program) (t : TypeId) : Option TyD :=
  match P.info? t, P.underlying t with
  | some i, some d => some ⟨i.size, i.bytes, (match d with | .struct _ | .array _ _ => true | _ => false), d, i.zero⟩
  | _, _ => none
theorem tyd_some {P : Program} {t : TypeId} {d : TyD} (h : tyd P t = some d) :
    ∃ i, P.info? t = some i ∧ P.underlying t = some d.desc ∧ i.size = d.size ∧ i.bytes = d.bytes ∧ i.zero = d.zero ∧ d.agg = (match d.desc with | .struct _ | .array _ _ => true | _ => false) := by
  unfold tyd at h
  split at h
  · rename_i i e h1 h2; cases h; exact ⟨i, h1, h2, rfl, rfl, rfl, rfl⟩
  · cases h

section
variable {P : Program} {w : World}
theorem run_isAgg {t : TypeId} {d : TyD} (h : tyd P t = some d) : (isAgg t).run P w = .ok d.agg w := by
  obtain ⟨i, h1, h2, h3, h4, h5, h6⟩ := tyd_some h
  simp only [isAgg, Sem.run_bind, run_underlying h2, Result.andThen_ok, h6]
  cases d.desc <;> rfl
theorem run_sizeOf' {t : TypeId} {d : TyD} (h : tyd P t = some d) : (sizeOf t).run P w = .ok d.size w := by
  obtain ⟨i, h1, h2, h3, h4, h5, h6⟩ := tyd_some h
  simp [sizeOf, typeInfo, h1, h3]
theorem run_zeroValue' {t : TypeId} {d : TyD} {z : Value} (h : tyd P t = some d) (hz : d.zero = some z) : (zeroValue t).run P w = .ok z w := by
  obtain ⟨i, h1, h2, h3, h4, h5, h6⟩ := tyd_some h
  simp [zeroValue, typeInfo, h1, h5, hz]
theorem run_underlying' {t : TypeId} {d : TyD} (h : tyd P t = some d) : (underlying t).run P w = .ok d.desc w := by
  obtain ⟨i, h1, h2, h3, h4, h5, h6⟩ := tyd_some h
  exact run_underlying h2 w
theorem addr_add (b off j : Nat) : (⟨b, off, none⟩ : Addr).add j = ⟨b, off + j, none⟩ := by unfold Addr.add; split <;> simp_all
/-- Loading a variable of which the cells are known. -/
theorem run_loadVar' {t : TypeId} {d : TyD} (h : tyd P t = some d) {b off : Nat} (cells : List Value) (hl : cells.length = d.size)
    (hc : ∀ j, j < cells.length → w.cell? ⟨b, off + j, none⟩ = some (cells.getD j undef)) (h1 : d.agg = true ∨ d.size = 1) :
    (loadVar t ⟨b, off, none⟩).run P w = .ok (if d.agg then .agg cells.toArray else cells.getD 0 undef) w := by
  have hcs : ∀ j v, cells[j]? = some v → w.cell? ((⟨b, off, none⟩ : Addr).add j) = some v := fun j v e => by
    have hj : j < cells.length := by
      rcases Nat.lt_or_ge j cells.length with h | h
      · exact h
      · rw [List.getElem?_eq_none h] at e; cases e
    rw [addr_add, hc j hj, List.getD_eq_getElem?_getD, e]; rfl
  have hL := run_loadCells_list (P := P) w ⟨b, off, none⟩ cells hcs
  simp only [loadVar, Sem.run_bind, run_isAgg h, Result.andThen_ok]
  cases hd : d.agg with
  | true =>
    simp only [if_true, Sem.run_bind, run_sizeOf' h, Result.andThen_ok]
    rw [← hl, hL]; rfl
  | false =>
    have hz : d.size = 1 := h1.resolve_left (by simp [hd])
    have := hc 0 (by omega)
    simp only [Bool.false_eq_true, if_false, run_load]
    rw [Nat.add_zero] at this
    rw [this]
end
end Go.Abs
