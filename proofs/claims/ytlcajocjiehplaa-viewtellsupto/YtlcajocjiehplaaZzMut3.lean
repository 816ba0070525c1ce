/- The call of a function that writes what it is handed; its contract out of its body. -/
import Derived.Test.YtlcajocjiehplaaZzMut2
set_option linter.unusedVariables false
set_option linter.unusedSimpArgs false
namespace Go.Abs
open Go Go.RowKit

theorem All2.get {α β : Type} {R : α → β → Prop} {l : List α} {m : List β} (h : All2 R l m) : l.length = m.length ∧ ∀ (j : Nat) (x : α), l[j]? = some x → ∃ y, m[j]? = some y ∧ R x y := by
  induction h with
  | nil => exact ⟨rfl, fun j x h => by simp at h⟩
  | cons hxy _ ih =>
    refine ⟨by simp [ih.1], fun j x h => ?_⟩
    cases j with
    | zero => simp at h; subst h; exact ⟨_, rfl, hxy⟩
    | succ j => simpa using ih.2 j x (by simpa using h)

/-- The cells that a list of our variables holds, to be handed on. -/
abbrev Hands (σ : Sta) : List Nat → List (List AV) → Prop := All2 fun i cs => ∃ bc, σ.H[i]? = some bc ∧ bc.wr = true ∧ cs = bc.cells.map AV.weak

section
variable {P : Program} {C : Ctx P} {G : Ghost} {M : Nat → Prop} {σ : Sta} {a : Act} {w w' : World} {o : Oper} {K : Sta → Prop}

theorem hands_ok (hs : SR C G M σ a w) {ix : List Nat} {H0 : List (List AV)} (hix : ix.Nodup) (hh : Hands σ ix H0) :
    ∃ bs : List Nat, bs.length = ix.length ∧ (∀ (j i : Nat), ix[j]? = some i → bs[j]? = G.box i) ∧ BoxesOK G.S w bs H0 := by
  obtain ⟨h1, h2⟩ := hh.get
  have hb : ∀ (j i : Nat), ix[j]? = some i → ∃ b, G.box i = some b := fun j i hj => by
    obtain ⟨cs, _, bc, h3, _⟩ := h2 j i hj
    obtain ⟨b, h4, _⟩ := hs.boxes i bc h3
    exact ⟨b, h4⟩
  refine ⟨ix.map fun i => (G.box i).getD 0, by simp, fun j i hj => ?_, ?_⟩
  · obtain ⟨b, h3⟩ := hb j i hj
    rw [List.getElem?_map, hj]; simp [h3]
  · have hbx : ∀ (j b : Nat), (ix.map fun i => (G.box i).getD 0)[j]? = some b → ∃ i, ix[j]? = some i ∧ G.box i = some b := fun j b e => by
      rw [List.getElem?_map] at e
      cases e2 : ix[j]? with
      | none => rw [e2] at e; cases e
      | some i =>
        rw [e2] at e
        obtain ⟨b', h3⟩ := hb j i e2
        simp [h3] at e
        subst e
        exact ⟨i, rfl, h3⟩
    refine ⟨by simpa using h1, ?_, fun j b cs e1 e2 => ?_⟩
    · rw [List.nodup_iff_pairwise_ne, List.pairwise_iff_getElem]
      intro i j hi hj hij e
      have hj' : j < ix.length := by simpa using hj
      obtain ⟨b, eb⟩ : ∃ b, (ix.map fun i => (G.box i).getD 0)[j]? = some b := ⟨_, List.getElem?_eq_getElem hj⟩
      obtain ⟨p, e3, e4⟩ := hbx j b eb
      obtain ⟨q, e5, e6⟩ := hbx i b (by rw [List.getElem?_eq_getElem hi, e, ← List.getElem?_eq_getElem hj]; exact eb)
      have := hs.boxinj _ _ _ e4 e6
      subst this
      have := (List.getElem?_inj hj' hix).1 (e3.trans e5.symm)
      omega
    · obtain ⟨i, e3, e4⟩ := hbx j b e1
      obtain ⟨cs', e5, bc, h3, h4, h5⟩ := h2 j i e3
      rw [e2] at e5; cases e5
      obtain ⟨cells, k1, k2, k3, k4⟩ := hs.boxCells h3 e4
      obtain ⟨g1, g2, E, g3⟩ := k4 h4
      exact ⟨hs.mlt b g1, g2, cells, E, g3, h5 ▸ k1.weak, k2⟩

theorem ren_repL {G G' : Ghost} {vs : List Value} {cs : List AV} {ρ : Nat → Option Nat} (h : RepL G vs cs) (hS : Shadow.le G.S G'.S) (hρ : ∀ i j b, ρ i = some j → G.box i = some b → G'.box j = some b) : RepL G' vs (cs.map (AV.ren ρ)) :=
  ⟨by simpa using h.1, fun j => by rw [map_ren_getD]; exact (h.2 j).ren hS hρ⟩

/-- A call that is handed variables of ours, to write. -/
theorem aop_call_m {f : FuncId} {F : Operand} {args : Array Operand} {ats : Array TypeId} {caps ys : List AV} {ix : List Nat} {H0 : List (List AV)} {R : List (List AV) → AV → Prop} (ho : o.op = .call { callee := .value F, args, argTypes := ats })
    (he : σ.eval F = .clo f caps) (hix : ix.Nodup) (hh : Hands σ ix H0) (hy : All2 (fun x y => y = x.ren (ixOf ix) ∨ y = x.weak) (args.toList.map σ.eval ++ caps) ys) (hp : Mut P f H0 ys R)
    (hK : ∀ H' r, R H' r → ix.length ≤ H'.length → K ({ σ with H := setMany σ.H ix H' ++ (H'.drop ix.length).map fun cs => BoxC.mk cs true }.put o.dst (r.ren (backOf ix σ.H.length)))) : aop C o K σ := by
  intro ro n G M a w next Q hs hn
  have hr := eval_rep hs F
  rw [he] at hr
  generalize hv : a.eval F = v at hr
  cases hr with
  | clo f vs cs hl h =>
    have hcaps : RepL G vs.toList caps := ⟨by simpa using hl, fun j => by simpa [Array.getD_eq_getD_getElem?, List.getD_eq_getElem?_getD] using h j⟩
    have hall := (evals_rep hs args.toList fun _ _ => rfl).append hcaps
    obtain ⟨bs, hb1, hb2, hb3⟩ := hands_ok hs hix hh
    have hys : RepL (gb G.S bs) (args.toList.map a.eval ++ vs.toList) ys := by
      have hg := hy.get
      refine ⟨hall.1.trans hg.1, fun j => ?_⟩
      have hj := hall.2 j
      simp only [List.getD_eq_getElem?_getD] at hj ⊢
      cases e : (args.toList.map σ.eval ++ caps)[j]? with
      | none =>
        have : ys[j]? = none := List.getElem?_eq_none (by rw [← hg.1]; exact List.getElem?_eq_none_iff.1 e)
        rw [this]; exact .undef
      | some x =>
        obtain ⟨y, hy1, hy2⟩ := hg.2 j x e
        rw [hy1]
        rw [e] at hj
        simp only [Option.getD_some] at hj ⊢
        rcases hy2 with rfl | rfl
        · exact hj.ren (fun _ _ _ e => e) fun i j b e1 e2 => by
            show bs[j]? = some b
            rw [hb2 j i (ixOf_some e1), e2]
        · exact hj.weak.up (fun _ _ _ e => e)
    have hrun := run_call_value (P := P) (w := w) ho hv hp.1
    refine wpIn_of_run (by rw [ho]; rfl) hrun ?_
    refine ⟨(fun h => nomatch h), ?_⟩
    have hc := hp.2 (n - 1) G.S w bs _ hs.holds hb3 hys
    have hargs : (args.toList.map a.eval ++ vs.toList).toArray = args.map a.eval ++ vs := by apply Array.ext'; simp
    rw [hargs] at hc
    refine CallsIn.mono (show CallsIn (fw ro) (n - 1) P f _ w _ from hc) ?_
    rintro e w' ⟨v', S', bs', H', r, rfl, hR, hok, hnew, hst, hrep⟩
    have hlen := hok.1
    simp only [List.length_append] at hlen
    have hs' := hs.calledM hix (fun i hi => by
      obtain ⟨j, hj, rfl⟩ := List.mem_iff_getElem.1 hi
      obtain ⟨_, _, bc, h3, h4, _⟩ := hh.get.2 j _ (List.getElem?_eq_getElem hj)
      exact ⟨bc, h3, h4⟩) hb1 hb2 hok hnew hst
    refine hn _ _ _ _ _ (hK H' r hR (by omega)) (hs'.put o.dst (hrep.ren (fun _ _ _ e => e) fun i j b e1 e2 => ?_))
    have e2' : (bs ++ bs')[i]? = some b := e2
    simp only [backOf] at e1
    show (if j < σ.H.length then G.box j else bs'[j - σ.H.length]?) = some b
    split at e1
    · rename_i hi
      rw [List.getElem?_append_left (by omega), hb2 i j e1] at e2'
      rw [if_pos, e2']
      rcases Nat.lt_or_ge j σ.H.length with h | h
      · exact h
      · rw [hs.boxn j h] at e2'; cases e2'
    · rename_i hi
      cases e1
      rw [List.getElem?_append_right (by omega), hb1] at e2'
      rw [if_neg (by omega), Nat.add_sub_cancel_left]; exact e2'

/-! ### Out of the body -/
def mutG (bs : List Nat) : Ghost := { S := fun _ _ => none, box := fun i => bs[i]?, own := fun _ => none, ful := fun _ => false, nxt := 0, loop := none }
def mutCtx (P : Program) (S0 : Shadow) (w0 : World) (bs : List Nat) : Ctx P where
  J := fun tr st S X W => StepW S0 w0 S W (fun b => b ∉ bs) ∧ ∀ b, X b → b ∈ bs ∨ w0.heap.size ≤ b
  stable := fun tr st S X W S' X' W' hJ hh hst h1 h2 h3 => by
    obtain ⟨k1, k2⟩ := hJ
    refine ⟨⟨hst.os.trans k1.os, hst.tape.trans k1.tape, hst.output.trans k1.output, Nat.le_trans k1.size hst.size, fun b o v e => hst.sub b o v (k1.sub b o v e), hst.holds, fun b hb hnb => ?_⟩, fun b hb => ?_⟩
    · have hk := hst.keep b (Nat.lt_of_lt_of_le hb k1.size) (fun hX => by
        rcases k2 b hX with h | h
        · exact hnb h
        · omega)
      have hk1 := k1.keep b hb hnb
      exact ⟨hk.1.trans hk1.1, fun o => (hk.2 o).trans (hk1.2 o)⟩
    · rcases h2 b hb with h | h
      · exact k2 b h
      · exact .inr (Nat.le_trans k1.size h)
  loop := none
  ro := none
  own := fun _ => true
  G0 := mutG bs
  may := fun _ _ => False
  yield := fun l h => by cases h

def staM (H : List (List AV)) (args : List AV) (n : Nat) : Sta := { env := fun t => args.getD t .undef, n := max args.length n, H := H.map fun cs => BoxC.mk cs true, L := [], tr := [], stop := false }

def resAVu (P : Program) (σ : Sta) : ResultVar → Option AV
  | .tmp t => some (σ.get t)
  | r => resAV P σ r
/-- Left by a return: x out of the results; the variables that go out behind the first k. -/
def MutQ (P : Program) (fn : Func) (k : Nat) (R : List (List AV) → AV → Prop) : Exit → Sta → Prop := fun e σ =>
  (e = .normal ∨ e = .ret) ∧ ∃ l ex H', fn.results.toList.mapM (resAVu P σ) = some l ∧ ex.Nodup ∧ (∀ i, i ∈ ex → k ≤ i) ∧ Hands σ (List.range k ++ ex) H' ∧ R H' ((oneOf l).ren (ixOf (List.range k ++ ex)))

theorem run_result_u (hs : SR C G M σ a w) {r : ResultVar} {x : AV} (h : resAVu P σ r = some x) :
    ∃ v, ((match r with | .tmp t => pure (a.tmps.getD t undef) | .cell b t => do loadVar t (← asAddr (a.tmps.getD b undef))) : Sem Value).run P w = .ok v w ∧ Rep G v x := by
  cases r with
  | tmp t => simp only [resAVu, Option.some.injEq] at h; subst h; exact ⟨_, rfl, hs.env t⟩
  | cell t ty =>
    obtain ⟨v, h1, h2⟩ := run_result hs (show resAV P σ (.cell t ty) = some x from h)
    exact ⟨v, h1, h2.up (fun _ _ _ e => e)⟩

theorem run_results_u (hs : SR C G M σ a w) {fn : Func} {l : List AV} (h : fn.results.toList.mapM (resAVu P σ) = some l) : ∃ v, (results fn a.tmps).run P w = .ok v w ∧ Rep G v (oneOf l) := by
  have key : ∀ (rs : List ResultVar) (l : List AV), rs.mapM (resAVu P σ) = some l →
      ∃ vs : List Value, (rs.mapM (fun r => (match r with | .tmp t => pure (a.tmps.getD t undef) | .cell b t => do loadVar t (← asAddr (a.tmps.getD b undef)) : Sem Value))).run P w = .ok vs w ∧ RepL G vs l := by
    intro rs
    induction rs with
    | nil => intro l h; simp at h; subst h; exact ⟨[], rfl, .nil _⟩
    | cons r rs ih =>
      intro l h
      simp only [List.mapM_cons] at h
      cases hx : resAVu P σ r with
      | none => rw [hx] at h; cases h
      | some y =>
        cases hl : rs.mapM (resAVu P σ) with
        | none => rw [hx, hl] at h; cases h
        | some ys =>
          rw [hx, hl] at h
          cases h
          obtain ⟨v, hv1, hv2⟩ := run_result_u hs hx
          obtain ⟨vs, hv3, hv4⟩ := ih ys hl
          refine ⟨v :: vs, ?_, .cons hv2 hv4⟩
          simp only [List.mapM_cons, Sem.run_bind, hv1, Result.andThen_ok, hv3, Sem.run_pure]
  obtain ⟨vs, h1, h2⟩ := key _ l h
  have hrun : (results fn a.tmps).run P w = .ok (if h : vs.toArray.size = 1 then vs.toArray[0] else .tuple vs.toArray) w := by
    unfold results
    simp only [Array.mapM_eq_mapM_toList, Sem.run_bind, Sem.run_map, Sem.run_pure]
    refine Eq.trans (congrArg (fun r => (Result.andThen r fun a w' => Result.ok a.toArray w').andThen fun a w' => Result.ok (if h : a.size = 1 then a[0] else Value.tuple a) w') (?_ : _ = Result.ok vs w)) rfl
    exact h1
  refine ⟨_, hrun, ?_⟩
  have hlen := h2.1
  cases l with
  | nil =>
    have hv : vs = [] := List.eq_nil_of_length_eq_zero hlen
    subst hv
    simp only [oneOf]
    exact .tup #[] [] rfl fun j => by simpa using Rep.undef
  | cons x l =>
    cases l with
    | nil =>
      obtain ⟨v, rfl⟩ : ∃ v, vs = [v] := by
        match vs, hlen with
        | [v], _ => exact ⟨v, rfl⟩
      have := h2.2 0
      simpa [oneOf] using this
    | cons y l =>
      have hne : ¬ vs.toArray.size = 1 := by simp [hlen]
      rw [dif_neg hne]
      simp only [oneOf]
      exact .tup _ _ (by simpa using hlen) fun j => by simpa [Array.getD_eq_getD_getElem?, List.getD_eq_getElem?_getD] using h2.2 j
end

theorem srM {P : Program} {S0 : Shadow} {w0 : World} {bs : List Nat} {vs : List Value} {args : List AV} {H : List (List AV)} (n : Nat) (hh : Holds S0 w0) (hb : BoxesOK S0 w0 bs H) (hr : RepL (gb S0 bs) vs args) :
    SR (mutCtx P S0 w0 bs) (gb S0 bs) (fun b => b ∈ bs) (staM H args n) { tmps := vs.toArray ++ Array.replicate (n - vs.toArray.size) undef, defers := [] } w0 where
  size := by simp [staM, hr.1]; omega
  env := fun t => by
    simp only [Sta.get, staM]
    have h2 := hr.2 t
    simp only [Array.getD_eq_getD_getElem?, List.getD_eq_getElem?_getD, Array.getElem?_append, List.size_toArray] at h2 ⊢
    by_cases ht : t < vs.length
    · rw [if_pos ht]
      simpa using h2
    · rw [if_neg ht]
      have : args[t]?.getD AV.undef = .undef := by rw [List.getElem?_eq_none (by have := hr.1; omega)]; rfl
      rw [this]; exact .undef
  holds := hh
  mlt := fun b h => by
    obtain ⟨j, hj, rfl⟩ := List.mem_iff_getElem.1 h
    have hj2 : j < H.length := by rw [← hb.1]; exact hj
    exact (hb.2.2 j _ _ (List.getElem?_eq_getElem hj) (List.getElem?_eq_getElem hj2)).1
  boxes := fun i bc h => by
    simp only [staM, List.getElem?_map] at h
    cases e : H[i]? with
    | none => rw [e] at h; cases h
    | some cs =>
      rw [e] at h; cases h
      have hi : i < bs.length := by
        rcases Nat.lt_or_ge i H.length with h | h
        · rw [hb.1]; exact h
        · rw [List.getElem?_eq_none h] at e; cases e
      obtain ⟨h1, h2, cells, E, h3, h4, h5⟩ := hb.2.2 i _ _ (List.getElem?_eq_getElem hi) e
      exact ⟨bs[i], List.getElem?_eq_getElem hi, cells, List.getElem_mem _, ⟨E, h3⟩, h2, RepL.up h4 (fun _ _ _ e => e), h5⟩
  boxn := fun i hi => by
    simp only [staM, List.length_map] at hi
    exact List.getElem?_eq_none (by rw [hb.1]; exact hi)
  boxlt := fun i b h => by
    have hi : i < bs.length := by
      rcases Nat.lt_or_ge i bs.length with h' | h'
      · exact h'
      · have : bs[i]? = some b := h
        rw [List.getElem?_eq_none h'] at this; cases this
    have hi2 : i < H.length := by rw [← hb.1]; exact hi
    exact (hb.2.2 i b _ h (List.getElem?_eq_getElem hi2)).1
  boxinj := fun i j b h1 h2 => by
    have h1' : bs[i]? = some b := h1
    have h2' : bs[j]? = some b := h2
    have hi : i < bs.length := by
      rcases Nat.lt_or_ge i bs.length with h' | h'
      · exact h'
      · rw [List.getElem?_eq_none h'] at h1'; cases h1'
    exact (List.getElem?_inj hi hb.2.1).1 (h1'.trans h2'.symm)
  live := ⟨rfl, fun s h => by simp [staM] at h⟩
  nxt := fun _ _ h => by cases h
  owns := fun _ _ h => by cases h
  owninj := fun _ _ _ _ h => by cases h
  ownbox := fun _ _ _ h => by cases h
  loop := rfl
  base := ⟨(fun _ _ _ e => nomatch e), (fun _ _ e => e), Nat.zero_le _, (fun _ _ h => absurd h (Nat.not_lt_zero _)), (fun _ h => absurd h (Nat.not_lt_zero _)), rfl⟩
  defers := fun d h => by cases h
  dnd := by simp
  ctx := ⟨StepW.refl hh _, fun b h => .inl h⟩

/-- **THE CONTRACT OF A FUNCTION THAT WRITES WHAT IT IS HANDED, OUT OF ITS BODY.** -/
theorem Mut.intro {P : Program} {f : FuncId} {fn : Func} {c : Code} {H : List (List AV)} {args : List AV} {R : List (List AV) → AV → Prop} (hf : P.funcs[f]? = some fn) (hb : fn.body = some c) (hn : (fn.name == "runtime.NumGoroutine") = false)
    (h : ∀ S0 w0 bs, awp (mutCtx P S0 w0 bs) c (MutQ P fn H.length R) (staM H args fn.ntmps)) : Mut P f H args R := by
  refine ⟨enters_of hf hb hn, fun n S w bs vs hh hbx hr => callsIn_of_wp_marks hf hb trivial ?_⟩
  have hs := srM (P := P) fn.ntmps hh hbx hr
  refine Go.wpIn_mono (h S w bs n _ _ _ _ hs) ?_
  rintro e a w' ⟨G, M, σ, ⟨he, l, ex, H', hl, hex, hexk, hhd, hR⟩, hs'⟩
  have fin : ∀ a' : Act, a'.tmps = a.tmps → ∀ w', SR (mutCtx P S w bs) G M σ a' w' → ∃ v, (results fn a.tmps).run P w' = .ok v w' ∧
      ∃ v' S' bs' H' r, (Ending.returned v) = .returned v' ∧ R H' r ∧ BoxesOK S' w' (bs ++ bs') H' ∧ (∀ b, b ∈ bs' → w.heap.size ≤ b) ∧ StepW S w S' w' (fun b => b ∉ bs) ∧ Rep (gb S' (bs ++ bs')) v' r := by
    intro a' ha w' hs
    obtain ⟨v, h1, h2⟩ := run_results_u hs hl
    rw [ha] at h1
    have hnd : (List.range H.length ++ ex).Nodup := by
      rw [List.nodup_append]
      refine ⟨List.nodup_range, hex, fun x hx y hy e => ?_⟩
      subst e
      have := hexk x hy
      have := List.mem_range.1 hx
      omega
    obtain ⟨bs2, k1, k2, k3⟩ := hands_ok hs hnd hhd
    have hbl : bs.length = H.length := hbx.1
    have hfirst : ∀ (j : Nat), j < H.length → bs2[j]? = bs[j]? := fun j hj => by
      have e1 := k2 j j (by rw [List.getElem?_append_left (by simpa using hj)]; simp [hj])
      have e2 : (mutG bs).box j = some bs[j] := List.getElem?_eq_getElem (by omega)
      rw [e1, hs.base.box j _ e2]
      exact e2.symm
    have hbs2 : bs2 = bs ++ bs2.drop H.length := by
      apply List.ext_getElem?
      intro j
      rcases Nat.lt_or_ge j H.length with hj | hj
      · rw [hfirst j hj, List.getElem?_append_left (by omega)]
      · rw [List.getElem?_append_right (by omega), List.getElem?_drop]
        congr 1; omega
    rw [hbs2] at k3
    refine ⟨v, h1, v, G.S, bs2.drop H.length, H', _, rfl, hR, k3, fun b hb => ?_, hs.ctx.1, h2.ren (fun _ _ _ e => e) fun i j b e1 e2 => ?_⟩
    · obtain ⟨j, hj, rfl⟩ := List.mem_iff_getElem.1 hb
      simp only [List.length_drop] at hj
      have hj1 : H.length + j < (List.range H.length ++ ex).length := by rw [← k1]; omega
      have e1 := k2 (H.length + j) _ (List.getElem?_eq_getElem hj1)
      obtain ⟨cs, e3, bc, e4, e5, _⟩ := hhd.get.2 _ _ (List.getElem?_eq_getElem hj1)
      have e6 : bs2[H.length + j]? = some (bs2.drop H.length)[j] := by
        rw [← List.getElem?_eq_getElem (by simp only [List.length_drop]; omega), List.getElem?_drop]
      rw [e6] at e1
      obtain ⟨_, _, _, _, g⟩ := hs.boxCells e4 e1.symm
      rcases hs.ctx.2 _ (g e5).1 with h | h
      · exfalso
        have hnd2 : (bs ++ bs2.drop H.length).Nodup := k3.2.1
        exact (List.nodup_append.1 hnd2).2.2 _ h _ (List.getElem_mem _) rfl
      · exact h
    · show (bs ++ bs2.drop H.length)[j]? = some b
      rw [← hbs2, k2 j i (ixOf_some e1), e2]
  rcases he with rfl | rfl
  · exact leaves a.defers a w' rfl hs' fun w' hs => fin { a with defers := [] } rfl w' hs
  · exact leaves a.defers a w' rfl hs' fun w' hs => fin { a with defers := [] } rfl w' hs

/-- A function that is handed nothing to write is one of these too. -/
theorem Pure.mut {P : Program} {f : FuncId} {args : List AV} {r : AV} (h : Pure P f args r) : Mut P f [] args fun H' x => H' = [] ∧ x = r := by
  refine ⟨h.1, fun n S w bs vs hh hb hr => ?_⟩
  have hbs : bs = [] := List.eq_nil_of_length_eq_zero hb.1
  subst hbs
  refine CallsIn.mono (h.2 n S w vs hh hr) ?_
  rintro e w' ⟨v, S', rfl, hst, hrep⟩
  refine ⟨v, S', [], [], r, rfl, ⟨rfl, rfl⟩, ⟨rfl, List.nodup_nil, fun i b cs e => by simp at e⟩, by simp, hst.mono fun _ _ => trivial, hrep⟩
end Go.Abs
