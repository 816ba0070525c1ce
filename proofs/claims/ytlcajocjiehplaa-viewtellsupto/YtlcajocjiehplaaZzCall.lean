/- Contracts of functions that only compute; calls; yields; returns. -/
import Derived.Test.YtlcajocjiehplaaZzApp
set_option linter.unusedVariables false
set_option linter.unusedSimpArgs false
namespace Go.Abs
open Go Go.RowKit

def Enters (P : Program) (f : FuncId) : Prop := ∀ args w, (callFunc f args).run P w = .ok (.enter f args) w
theorem enters_of {P : Program} {f : FuncId} {fn : Func} {c : Code} (hf : P.funcs[f]? = some fn) (hb : fn.body = some c) (hn : (fn.name == "runtime.NumGoroutine") = false) : Enters P f := by
  intro args w
  simp [callFunc, hf, hb]
  simpa using hn

/-- A call of f at what represents 'args' ends in what represents 'r'; nothing that was there has turned. -/
def Pure (P : Program) (f : FuncId) (args : List AV) (r : AV) : Prop :=
  Enters P f ∧ ∀ n S w vs, Holds S w → RepL (gp S) vs args →
    CallsIn Fence.wide n P f vs.toArray w fun e w' => ∃ v S', e = .returned v ∧ StepW S w S' w' (fun _ => True) ∧ Rep (gp S') v r

section
variable {P : Program} {C : Ctx P} {G : Ghost} {M : Nat → Prop} {σ : Sta} {a : Act} {w w' : World} {o : Oper} {K : Sta → Prop}

def Ghost.withS (G : Ghost) (S : Shadow) : Ghost := { G with S := S }
theorem withS_le {S : Shadow} (h : Shadow.le G.S S) : G.le (G.withS S) := ⟨h, fun _ _ e => e, Nat.le_refl _, fun _ _ _ e => e, fun _ _ e => e, rfl⟩

theorem SR.called (hs : SR C G M σ a w) {S' : Shadow} (h : StepW G.S w S' w' (fun _ => True)) : SR C (G.withS S') M σ a w' :=
  hs.next (h.mono fun _ _ => trivial) (withS_le h.sub) (fun b hb => h.keep b (hs.mlt b hb) trivial) (fun _ h => h) (fun _ h => .inl h) (fun b hb => Nat.lt_of_lt_of_le (hs.mlt b hb) h.size) rfl rfl rfl rfl

theorem evals_rep (hs : SR C G M σ a w) (xs : List Operand) (h : ∀ x, x ∈ xs → Op.ok x = true) : RepL G (xs.map a.eval) (xs.map σ.eval) :=
  RepL.of_map xs a.eval σ.eval fun x hx => eval_rep hs x (opOK (h x hx))

theorem run_call_value {f : FuncId} {F : Operand} {args : Array Operand} {ats : Array TypeId} {caps : Array Value} (ho : o.op = .call { callee := .value F, args, argTypes := ats }) (hF : a.eval F = .func (.func f) #[] caps) (he : Enters P f) :
    (execOp a.eval o).run P w = .ok (.enter f (args.map a.eval ++ caps)) w := by
  simp only [execOp, ho, resolve, hF, Deferred.ofValue, Sem.run_bind, Sem.run_pure, Result.andThen_ok, invoke, Array.empty_append]
  exact he _ _

theorem aop_call {f : FuncId} {F : Operand} {args : Array Operand} {ats : Array TypeId} {caps : List AV} {r : AV} (ho : o.op = .call { callee := .value F, args, argTypes := ats }) (hF : Op.ok F = true) (ha : ∀ x, x ∈ args.toList → Op.ok x = true)
    (he : σ.eval F = .clo f caps) (hp : Pure P f ((args.toList.map σ.eval ++ caps).map AV.weak) r) (hK : K (σ.put o.dst r)) : aop C o K σ := by
  intro ro n G M a w next Q hs hn
  have hr := eval_rep hs F (opOK hF)
  rw [he] at hr
  generalize hv : a.eval F = v at hr
  cases hr with
  | clo f vs cs hl h =>
    have hcaps : RepL G vs.toList caps := ⟨by simpa using hl, fun j => by simpa [Array.getD_eq_getD_getElem?, List.getD_eq_getElem?_getD] using h j⟩
    have hall := ((evals_rep hs args.toList ha).append hcaps).weak
    have hrun := run_call_value (P := P) (w := w) ho hv hp.1
    refine wpIn_of_run (by rw [ho]; rfl) hrun ?_
    refine ⟨(fun h => nomatch h), ?_⟩
    have hc := hp.2 (n - 1) G.S w _ hs.holds hall
    have hargs : (args.toList.map a.eval ++ vs.toList).toArray = args.map a.eval ++ vs := by apply Array.ext'; simp
    rw [hargs] at hc
    refine CallsIn.mono (show CallsIn (fw ro) (n - 1) P f _ w _ from hc) ?_
    rintro e w' ⟨v', S', rfl, hst, hrep⟩
    exact hn _ _ _ _ _ hK ((hs.called hst).put o.dst (hrep.up (G := G.withS S') fun _ _ _ e => e))

/-- What is yielded. -/
theorem aop_yield {F : Operand} {args : Array Operand} {ats : Array TypeId} (ho : o.op = .call { callee := .value F, args, argTypes := ats }) (hF : Op.ok F = true) (ha : ∀ x, x ∈ args.toList → Op.ok x = true)
    (he : σ.eval F = .yld) (hstop : σ.stop = false) (hmay : C.may σ.tr ((args.toList.map σ.eval).map AV.weak))
    (hK : ∀ b, K ({ σ with tr := σ.tr ++ [(args.toList.map σ.eval).map AV.weak], stop := !b }.put o.dst (.lit (.bool b)))) : aop C o K σ := by
  intro ro n G M a w next Q hs hn
  have hr := eval_rep hs F (opOK hF)
  rw [he] at hr
  generalize hv : a.eval F = v at hr
  cases hr with
  | yld l hl =>
    have hall := (evals_rep hs args.toList ha).weak
    rw [hs.loop] at hl
    have hctx := hs.ctx
    rw [hstop] at hctx
    obtain ⟨fn, tmps, assign, body, hy, hround⟩ := C.yield l hl σ.tr _ G.S M w _ (n - 1) hctx hs.holds hs.mlt hmay hall
    have hargs : (args.toList.map a.eval).toArray = args.map a.eval := by apply Array.ext'; simp
    rw [hargs] at hy
    have hrun : (execOp a.eval o).run P w = .ok (.round l fn tmps assign body) w := by
      simp only [execOp, ho, resolve, hv, Deferred.ofValue, Sem.run_bind, Sem.run_pure, Result.andThen_ok, invoke, Array.empty_append]
      exact hy
    refine wpIn_of_run (by rw [ho]; rfl) hrun ?_
    refine ⟨(fun h => nomatch h), ?_⟩
    refine RoundIn.mono (show RoundIn (fw ro) (n - 1) P l fn tmps assign body w _ from hround) ?_
    rintro e w' ⟨b, S', rfl, hJ, hst⟩
    have hle : G.le (G.withS S') := withS_le hst.sub
    have hs' : SR C (G.withS S') M { σ with tr := σ.tr ++ [(args.toList.map σ.eval).map AV.weak], stop := !b } a w' := {
      size := hs.size
      env := fun t => (hs.env t).mono hle
      holds := hst.holds
      mlt := fun c hc => Nat.lt_of_lt_of_le (hs.mlt c hc) hst.size
      boxes := fun i bc hi => by
        obtain ⟨c, f1, f2⟩ := hs.boxes i bc hi
        exact ⟨c, f1, f2.next hle (fun hM => hst.keep c (hs.boxlt i c f1) hM) fun h => h⟩
      boxn := hs.boxn
      boxlt := fun i c e => Nat.lt_of_lt_of_le (hs.boxlt i c e) hst.size
      boxinj := hs.boxinj
      live := hs.live
      nxt := hs.nxt
      owns := fun s r e => (hs.owns s r e).next (fun hM => hst.keep _ (hs.mlt _ hM) hM) fun h => h
      owninj := hs.owninj
      ownbox := hs.ownbox
      loop := hs.loop
      base := hs.base.trans hle
      defers := fun d hd => by
        obtain ⟨D, f1, f2, f3⟩ := hs.defers d hd
        exact ⟨D, f1, f2, (hst.keep D (hs.mlt D f2) f2).1.trans f3⟩
      dnd := hs.dnd
      ctx := hJ }
    exact hn _ _ _ _ _ (hK b) (hs'.put o.dst (.lit trivial))
end

/-! ### Returns -/
section
variable {P : Program}

def botG (l : Option Nat) : Ghost := { S := fun _ _ => none, box := fun _ => none, own := fun _ => none, ful := fun _ => false, nxt := 0, loop := l }
theorem botG_le {l : Option Nat} {G : Ghost} (h : G.loop = l) : (botG l).le G := ⟨(fun _ _ _ e => nomatch e), (fun _ _ e => nomatch e), Nat.zero_le _, (fun _ _ h => absurd h (Nat.not_lt_zero _)), (fun _ h => absurd h (Nat.not_lt_zero _)), h⟩
/-- The contract's own circumstances: nothing that was there may turn. -/
def pureCtx (P : Program) (S0 : Shadow) (w0 : World) (ow : Nat → Bool) : Ctx P where
  J := fun tr st S X W => StepW S0 w0 S W (fun _ => True) ∧ ∀ b, X b → w0.heap.size ≤ b
  stable := fun tr st S X W S' X' W' hJ hh hst h1 h2 h3 => by
    obtain ⟨k1, k2⟩ := hJ
    refine ⟨⟨hst.os.trans k1.os, hst.tape.trans k1.tape, hst.output.trans k1.output, Nat.le_trans k1.size hst.size, fun b o v e => hst.sub b o v (k1.sub b o v e), hst.holds, fun b hb _ => ?_⟩, fun b hb => ?_⟩
    · have hk := hst.keep b (Nat.lt_of_lt_of_le hb k1.size) (fun hX => by have := k2 b hX; omega)
      have hk1 := k1.keep b hb trivial
      exact ⟨hk.1.trans hk1.1, fun o => (hk.2 o).trans (hk1.2 o)⟩
    · rcases h2 b hb with h | h
      · exact k2 b h
      · exact Nat.le_trans k1.size h
  loop := none
  ro := none
  own := ow
  G0 := botG none
  may := fun _ _ => False
  yield := fun l h => by cases h

def sta0 (args : List AV) (n : Nat) : Sta := { env := fun t => args.getD t .undef, n := max args.length n, H := [], L := [], tr := [], stop := false }

/-- What a function's result variables read as. -/
def resAV (P : Program) (σ : Sta) : ResultVar → Option AV
  | .tmp t => some (σ.get t).weak
  | .cell t ty =>
    match σ.get t, tyd P ty with
    | .bptr i off, some d =>
      match σ.H[i]? with
      | some bc => if (d.agg = true ∨ d.size = 1) ∧ off + d.size ≤ bc.cells.length then some (packed d ((bc.cells.drop off).take d.size)).weak else none
      | none => none
    | _, _ => none
def oneOf : List AV → AV
  | [x] => x
  | l => .tup l
/-- Left by a return, with r for result. -/
def RetQ (P : Program) (fn : Func) (R : AV → Prop) : Exit → Sta → Prop := fun e σ => (e = .normal ∨ e = .ret) ∧ ∃ l, fn.results.toList.mapM (resAV P σ) = some l ∧ R (oneOf l)

theorem mapM_some {α β : Type} {f : α → Option β} : ∀ {l : List α} {r : List β}, l.mapM f = some r → r.length = l.length ∧ ∀ (j : Nat) (x : α), l[j]? = some x → ∃ y, r[j]? = some y ∧ f x = some y
  | [], r, h => by simp at h; subst h; simp
  | x :: l, r, h => by
    simp only [List.mapM_cons] at h
    cases hx : f x with
    | none => rw [hx] at h; cases h
    | some y =>
      cases hl : l.mapM f with
      | none => rw [hx, hl] at h; cases h
      | some ys =>
        rw [hx, hl] at h
        cases h
        obtain ⟨h1, h2⟩ := mapM_some hl
        refine ⟨by simp [h1], fun j z hz => ?_⟩
        cases j with
        | zero => simp at hz; subst hz; exact ⟨y, rfl, hx⟩
        | succ j => simpa using h2 j z (by simpa using hz)

variable {C : Ctx P} {G : Ghost} {M : Nat → Prop} {σ : Sta} {a : Act} {w w' : World}

theorem run_result (hs : SR C G M σ a w) {r : ResultVar} {x : AV} (h : resAV P σ r = some x) :
    ∃ v, ((match r with | .tmp t => pure (a.tmps.getD t undef) | .cell b t => do loadVar t (← asAddr (a.tmps.getD b undef))) : Sem Value).run P w = .ok v w ∧ Rep (gp G.S) v x := by
  cases r with
  | tmp t => simp only [resAV, Option.some.injEq] at h; subst h; exact ⟨_, rfl, (hs.env t).weak⟩
  | cell t ty =>
    simp only [resAV] at h
    split at h
    · rename_i i off d he hd
      split at h
      · rename_i bc hi
        split at h
        · rename_i hc
          obtain ⟨ha, hl⟩ := hc
          cases h
          have hr := hs.env t
          rw [he] at hr
          generalize hv : a.tmps.getD t undef = v at hr
          cases hr with
          | bptr i off b hb =>
            obtain ⟨b', e1, cells, e2⟩ := hs.boxes i bc hi
            rw [hb] at e1; cases e1
            have key : RepL G cells bc.cells ∧ (∀ v, v ∈ cells → v.oneCell' = true) ∧ ∀ j, j < cells.length → w.cell? ⟨b, j, none⟩ = some (cells.getD j undef) := by
              cases hw : bc.wr with
              | true =>
                rw [hw] at e2
                obtain ⟨_, ⟨E, h2⟩, _, h4, h5⟩ := e2
                refine ⟨h4, h5, fun j hj => ?_⟩
                simp [World.cell?, h2, List.getD_eq_getElem?_getD, hj]
              | false =>
                rw [hw] at e2
                refine ⟨RepL.up e2.2 (fun _ _ _ e => e), fun v hv' => ?_, fun j hj => (hs.holds _ _ _ (e2.1 j hj)).1⟩
                obtain ⟨j, hj, rfl⟩ := List.mem_iff_getElem.1 hv'
                have := (hs.holds _ _ _ (e2.1 j hj)).2
                rwa [List.getD_eq_getElem?_getD, List.getElem?_eq_getElem hj] at this
            obtain ⟨k1, k2, k3⟩ := key
            have hlen : ((cells.drop off).take d.size).length = d.size := by have := k1.1; simp only [List.length_take, List.length_drop]; omega
            have hc : ∀ j, j < ((cells.drop off).take d.size).length → w.cell? ⟨b, off + j, none⟩ = some (((cells.drop off).take d.size).getD j undef) := fun j hj => by
              rw [getD_drop_take _ _ _ _ _ (by omega)]
              exact k3 (off + j) (by have := k1.1; omega)
            have hrun := run_loadVar' (w := w) hd (b := b) (off := off) _ hlen hc ha
            refine ⟨_, ?_, (rep_packed (d := d) (k1.window off d.size) fun v hv' => k2 v (List.mem_of_mem_drop (List.mem_of_mem_take hv'))).weak⟩
            simp only [Sem.run_bind, hv, asAddr, Sem.run_pure, Result.andThen_ok]
            exact hrun
        · cases h
      · cases h
    · cases h

theorem run_results (hs : SR C G M σ a w) {fn : Func} {l : List AV} (h : fn.results.toList.mapM (resAV P σ) = some l) : ∃ v, (results fn a.tmps).run P w = .ok v w ∧ Rep (gp G.S) v (oneOf l) := by
  have key : ∀ (rs : List ResultVar) (l : List AV), rs.mapM (resAV P σ) = some l →
      ∃ vs : List Value, (rs.mapM (fun r => (match r with | .tmp t => pure (a.tmps.getD t undef) | .cell b t => do loadVar t (← asAddr (a.tmps.getD b undef)) : Sem Value))).run P w = .ok vs w ∧ RepL (gp G.S) vs l := by
    intro rs
    induction rs with
    | nil => intro l h; simp at h; subst h; exact ⟨[], rfl, .nil _⟩
    | cons r rs ih =>
      intro l h
      simp only [List.mapM_cons] at h
      cases hx : resAV P σ r with
      | none => rw [hx] at h; cases h
      | some y =>
        cases hl : rs.mapM (resAV P σ) with
        | none => rw [hx, hl] at h; cases h
        | some ys =>
          rw [hx, hl] at h
          cases h
          obtain ⟨v, hv1, hv2⟩ := run_result hs hx
          obtain ⟨vs, hv3, hv4⟩ := ih ys hl
          refine ⟨v :: vs, ?_, .cons hv2 hv4⟩
          simp only [List.mapM_cons, Sem.run_bind, hv1, Result.andThen_ok, hv3, Sem.run_pure]
  obtain ⟨vs, h1, h2⟩ := key _ l h
  have hrun : (results fn a.tmps).run P w = .ok (if h : vs.toArray.size = 1 then vs.toArray[0] else .tuple vs.toArray) w := by
    unfold results
    simp only [Array.mapM_eq_mapM_toList, Sem.run_bind, Sem.run_map, Sem.run_pure]
    refine Eq.trans (congrArg (fun r => (Result.andThen r fun a w' => Result.ok a.toArray w').andThen fun a w' => Result.ok (if h : a.size = 1 then a[0] else Value.tuple a) w') (?_ : _ = Result.ok vs w)) rfl
    exact h1
  refine ⟨_, hrun, ?_⟩
  have hlen := h2.1
  cases l with
  | nil =>
    have hv : vs = [] := List.eq_nil_of_length_eq_zero hlen
    subst hv
    simp only [oneOf]
    exact .tup #[] [] rfl fun j => by simpa using Rep.undef
  | cons x l =>
    cases l with
    | nil =>
      obtain ⟨v, rfl⟩ : ∃ v, vs = [v] := by
        match vs, hlen with
        | [v], _ => exact ⟨v, rfl⟩
      have := h2.2 0
      simpa [oneOf] using this
    | cons y l =>
      have hne : ¬ vs.toArray.size = 1 := by simp [hlen]
      rw [dif_neg hne]
      simp only [oneOf]
      exact .tup _ _ (by simpa using hlen) fun j => by simpa [Array.getD_eq_getD_getElem?, List.getD_eq_getElem?_getD] using h2.2 j
end
end Go.Abs
