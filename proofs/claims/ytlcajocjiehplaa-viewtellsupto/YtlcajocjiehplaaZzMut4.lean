/- Returns of slices of our own; calls, as one condition. -/
import Derived.Test.YtlcajocjiehplaaZzMut3
set_option linter.unusedVariables false
set_option linter.unusedSimpArgs false
namespace Go.Abs
open Go Go.RowKit
section
variable {P : Program} {C : Ctx P} {σ : Sta} {o : Oper} {K : Sta → Prop}

/-- Left by a return, after another reading of the state. -/
def RetT (P : Program) (C : Ctx P) (fn : Func) (R : AV → Prop) : Exit → Sta → Prop := fun e σ => ∃ σ', Sta.to C σ σ' ∧ RetQ P fn R e σ'
theorem RetT.now {fn : Func} {R : AV → Prop} {e : Exit} (h : RetQ P fn R e σ) : RetT P C fn R e σ := ⟨σ, .refl, h⟩
theorem RetT.sl {fn : Func} {R : AV → Prop} {ex : Exit} {e : Nat → AV} {n : Nat} {H : List BoxC} {L : List Bool} {tr : List (List AV)} {st : Bool} (t : Nat) {i off len cap z : Nat} {bc : BoxC} (xs : List AV) (ht : e t = .bsl i off len cap) (hi : H[i]? = some bc) (hx : flats xs = (bc.cells.drop off).take (len * z)) (hz : ∀ x, x ∈ xs → x.flat.length = z) (hl : len = xs.length) (hle : off + len * z ≤ bc.cells.length)
    (k : RetT P C fn R ex (Sta.mk (fun k => if k = t then .sl .no (xs.map AV.weak) else e k) n (H.set i ⟨bc.cells.map AV.weak, false⟩) L tr st)) : RetT P C fn R ex (Sta.mk e n H L tr st) := by
  obtain ⟨σ', h1, h2⟩ := k
  exact ⟨σ', (to_sl (σ := Sta.mk e n H L tr st) ht hi hx hz hl hle).trans h1, h2⟩
theorem Pure.introB (ow : Nat → Bool) {f : FuncId} {fn : Func} {c : Code} {args : List AV} {r : AV} (hf : P.funcs[f]? = some fn) (hb : fn.body = some c) (hn : (fn.name == "runtime.NumGoroutine") = false)
    (h : ∀ S0 w0, awp (pureCtx P S0 w0 ow) c (RetT P (pureCtx P S0 w0 ow) fn (· = r)) (sta0 args fn.ntmps)) : Pure P f args r :=
  Pure.introW hf hb hn fun S0 w0 => awp_post_to (h S0 w0)

/-- A call of a function of the model's own, that has no body here: it reads, and answers at once. -/
def Ext (P : Program) (f : FuncId) (σ : Sta) (args : List AV) (r : AV) : Prop :=
  ∀ (C : Ctx P) (G : Ghost) (M : Nat → Prop) (a : Act) (w : World) (vs : List Value), SR C G M σ a w → RepL G vs args → ∃ v, (callFunc f vs.toArray).run P w = .ok (.value v) w ∧ Rep G v r
theorem aop_call_x {f : FuncId} {F : Operand} {args : Array Operand} {ats : Array TypeId} {caps : List AV} {r : AV} (ho : o.op = .call { callee := .value F, args, argTypes := ats })
    (he : σ.eval F = .clo f caps) (hp : Ext P f σ (args.toList.map σ.eval ++ caps) r) (hK : K (σ.put o.dst r)) : aop C o K σ := by
  refine aop_pure (by rw [ho]; rfl) hK fun G M a w hs => ?_
  have hr := eval_rep hs F
  rw [he] at hr
  generalize hv : a.eval F = v at hr
  cases hr with
  | clo f vs cs hl h =>
    have hcaps : RepL G vs.toList caps := ⟨by simpa using hl, fun j => by simpa [Array.getD_eq_getD_getElem?, List.getD_eq_getElem?_getD] using h j⟩
    obtain ⟨v, h1, h2⟩ := hp C G M a w _ hs ((evals_rep hs args.toList fun _ _ => rfl).append hcaps)
    have hargs : (args.toList.map a.eval ++ vs.toList).toArray = args.map a.eval ++ vs := by apply Array.ext'; simp
    rw [hargs] at h1
    refine ⟨v, ?_, h2⟩
    simp only [execOp, ho, resolve, hv, Deferred.ofValue, Sem.run_bind, Sem.run_pure, Result.andThen_ok, invoke, Array.empty_append]
    exact h1

/-- A call of a known function. -/
def vclo (P : Program) (f : FuncId) (args : List AV) (dst : Option Tmp) (K : Sta → Prop) (σ : Sta) : Prop :=
  (∃ r, Pure P f (args.map AV.weak) r ∧ K (σ.put dst r)) ∨
  (∃ ys r, All2 (Lends σ) args ys ∧ Pure P f ys r ∧ r.plain = true ∧ K (σ.put dst r)) ∨
  (∃ r, Ext P f σ args r ∧ K (σ.put dst r)) ∨
  (∃ (ix : List Nat) (H0 : List (List AV)) (ys : List AV) (R : List (List AV) → AV → Prop), ix.Nodup ∧ Hands σ ix H0 ∧ All2 (fun x y => y = x.ren (ixOf ix) ∨ y = x.weak) args ys ∧ Mut P f H0 ys R ∧
    ∀ H' r, R H' r → ix.length ≤ H'.length → K ({ σ with H := setMany σ.H ix H' ++ (H'.drop ix.length).map fun cs => BoxC.mk cs true }.put dst (r.ren (backOf ix σ.H.length))))
theorem aop_vclo {f : FuncId} {F : Operand} {args : Array Operand} {ats : Array TypeId} {caps : List AV} (ho : o.op = .call { callee := .value F, args, argTypes := ats })
    (he : σ.eval F = .clo f caps) (h : vclo P f (args.toList.map σ.eval ++ caps) o.dst K σ) : aop C o K σ := by
  rcases h with ⟨r, h1, h2⟩ | ⟨ys, r, h1, h2, h3, h4⟩ | ⟨r, h1, h2⟩ | ⟨ix, H0, ys, R, h1, h2, h5, h3, h4⟩
  · exact aop_call ho rfl (fun _ _ => rfl) he h1 h2
  · exact aop_call_l ho he h1 h2 h3 h4
  · exact aop_call_x ho he h1 h2
  · exact aop_call_m ho he h1 h2 h5 h3 h4
variable {f : FuncId} {args : List AV} {dst : Option Tmp}
theorem call_p {ys : List AV} {r : AV} (h : Pure P f ys r) (hy : args.map AV.weak = ys) (hK : K (σ.put dst r)) : vclo P f args dst K σ := .inl ⟨r, hy ▸ h, hK⟩
theorem call_l {ys : List AV} {r : AV} (h : Pure P f ys r) (hy : All2 (Lends σ) args ys) (hr : r.plain = true) (hK : K (σ.put dst r)) : vclo P f args dst K σ := .inr (.inl ⟨ys, r, hy, h, hr, hK⟩)
theorem call_m {ys : List AV} {R : List (List AV) → AV → Prop} (ix : List Nat) {H0 : List (List AV)} (h : Mut P f H0 ys R) (hix : ix.Nodup) (hh : Hands σ ix H0) (hy : All2 (fun x y => y = x.ren (ixOf ix) ∨ y = x.weak) args ys)
    (hK : ∀ H' r, R H' r → ix.length ≤ H'.length → K ({ σ with H := setMany σ.H ix H' ++ (H'.drop ix.length).map fun cs => BoxC.mk cs true }.put dst (r.ren (backOf ix σ.H.length)))) : vclo P f args dst K σ :=
  .inr (.inr (.inr ⟨ix, H0, ys, R, hix, hh, hy, h, hK⟩))
theorem call_x {r : AV} (h : Ext P f σ args r) (hK : K (σ.put dst r)) : vclo P f args dst K σ := .inr (.inr (.inl ⟨r, h, hK⟩))

/-- As computed: what can be copied out of. -/
def vsrc (σ : Sta) (z : Nat) (y : AV) (f : Nat → List AV → Prop) : Prop :=
  match y with
  | .sl _ ys => (∀ x, x ∈ ys → x.flat.length = z) ∧ f ys.length (flats ys)
  | .bsl i off len _ => match σ.H[i]? with
    | some bc => off + len * z ≤ bc.cells.length ∧ f len ((bc.cells.drop off).take (len * z))
    | none => False
  | _ => False
theorem vsrc_sound {z : Nat} {y : AV} {f : Nat → List AV → Prop} (h : vsrc σ z y f) : ∃ n cs, Src σ z y n cs ∧ f n cs := by
  unfold vsrc at h
  split at h
  · exact ⟨_, _, ⟨rfl, rfl, h.1⟩, h.2⟩
  · split at h
    · rename_i bc hi
      exact ⟨_, _, ⟨bc, hi, rfl, rfl, h.1⟩, h.2⟩
    · exact h.elim
  · exact h.elim
end
end Go.Abs
