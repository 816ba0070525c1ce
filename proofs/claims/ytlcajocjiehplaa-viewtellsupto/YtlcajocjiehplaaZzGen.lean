/- Statements whose order is drawn, in general: operations that no edge orders commute. -/
import Derived.Test.YtlcajocjiehplaaZzSimp2
set_option linter.unusedVariables false
set_option linter.unusedSimpArgs false
set_option linter.unnecessarySimpa false
namespace Go.Abs
open Go Go.RowKit

inductive Cls where
  | pure | app | alc | eff
  deriving DecidableEq

/-- Of which class an operation is: those that are listed, and those that write, have whatever effect. -/
def clsO : Op → Cls
  | .alloc _ | .box _ _ => .alc
  | .store _ _ _ => .eff
  | .call c => match c.callee with
    | .builtin .append => .app
    | .builtin .copy => .eff
    | _ => .pure
  | _ => .pure
def clsOf : List Nat → Nat → Oper → Cls
  | [], _, o => clsO o.op
  | i :: E, j, o => if j = i then .eff else clsOf E j o

section
variable {P : Program}

/-- A guard, met or not. -/
def gd (ops : List Oper) (o : Oper) (body : (Sta → Prop) → Sta → Prop) (K : Sta → Prop) (σ : Sta) : Prop :=
  match o.guard with
  | none => body K σ
  | some (j, want) =>
    match (ops[j]?).bind (·.dst) with
    | some t => t < σ.n ∧ match σ.get t with
      | .lit (.bool b) => (b = want → body K σ) ∧ (b ≠ want → K (σ.put o.dst (.tup [])))
      | .tup [] => K (σ.put o.dst (.tup []))
      | _ => False
    | none => False

/-- The operation runs at the place, with its guard. -/
def gop (C : Ctx P) (ops : List Oper) (o : Oper) (K : Sta → Prop) (σ : Sta) : Prop := gd ops o (aop C o) K σ

/-- What an operation of no great effect does to a state. -/
structure Eft where
  x : AV
  L : Option (List Bool)
  bc : Option BoxC
def Eft.run (f : Eft) (o : Oper) (σ : Sta) : Sta := { σ with L := f.L.getD σ.L, H := σ.H ++ f.bc.toList }.put o.dst f.x
def Eft.fits (f : Eft) : Cls → Prop
  | .pure => f.L = none ∧ f.bc = none
  | .app => f.bc = none
  | .alc => f.L = none
  | .eff => False

/-- States alike for an operation. -/
structure Like (ops : List Oper) (c : Cls) (o : Oper) (σ σ' : Sta) : Prop where
  slots : ∀ t, t ∈ slotsOf ops o → σ'.get t = σ.get t
  n : σ'.n = σ.n
  H : needH o.op = true → ∀ (i : Nat) (bc : BoxC), σ.H[i]? = some bc → σ'.H[i]? = some bc
  L : c = .app → σ'.L = σ.L
  len : c = .alc → σ'.H.length = σ.H.length

/-- An operation's condition, so that it may be moved. -/
def X (C : Ctx P) (ops : List Oper) (c : Cls) (o : Oper) (K : Sta → Prop) (σ : Sta) : Prop :=
  match c with
  | .eff => gop C ops o K σ
  | c => ∃ f : Eft, f.fits c ∧ (∀ σ', Like ops c o σ σ' → ∀ K' : Sta → Prop, K' (f.run o σ') → gop C ops o K' σ') ∧ K (f.run o σ)

variable {C : Ctx P} {ops : List Oper}
theorem gd_mono {o : Oper} {b b' : (Sta → Prop) → Sta → Prop} {K K' : Sta → Prop} {σ : Sta} (hb : b K σ → b' K' σ) (hk : ∀ σ, K σ → K' σ) (h : gd ops o b K σ) : gd ops o b' K' σ := by
  unfold gd at *
  split at h
  · exact hb h
  · split at h
    · refine ⟨h.1, ?_⟩
      have h := h.2
      split at h
      · exact ⟨fun e => hb (h.1 e), fun e => hk _ (h.2 e)⟩
      · exact hk _ h
      · exact h.elim
    · exact h.elim
theorem aop_mono {o : Oper} {K K' : Sta → Prop} {σ : Sta} (h : aop C o K σ) (hk : ∀ σ, K σ → K' σ) : aop C o K' σ :=
  fun ro n G M a w next Q hs hn => h ro n G M a w next Q hs fun G' M' σ' a' w' k s => hn G' M' σ' a' w' (hk _ k) s
theorem gop_mono {o : Oper} {K K' : Sta → Prop} {σ : Sta} (h : gop C ops o K σ) (hk : ∀ σ, K σ → K' σ) : gop C ops o K' σ := gd_mono (fun h => aop_mono h hk) hk h
theorem Like.refl (c : Cls) (o : Oper) (σ : Sta) : Like ops c o σ σ := ⟨fun _ _ => rfl, rfl, fun _ _ _ h => h, fun _ => rfl, fun _ => rfl⟩
theorem X_mono {c : Cls} {o : Oper} {K K' : Sta → Prop} {σ : Sta} (h : X C ops c o K σ) (hk : ∀ σ, K σ → K' σ) : X C ops c o K' σ := by
  cases c with
  | eff => exact gop_mono h hk
  | pure => obtain ⟨f, h1, h2, h3⟩ := h; exact ⟨f, h1, h2, hk _ h3⟩
  | app => obtain ⟨f, h1, h2, h3⟩ := h; exact ⟨f, h1, h2, hk _ h3⟩
  | alc => obtain ⟨f, h1, h2, h3⟩ := h; exact ⟨f, h1, h2, hk _ h3⟩
theorem X_gop {c : Cls} {o : Oper} {K : Sta → Prop} {σ : Sta} (h : X C ops c o K σ) : gop C ops o K σ := by
  cases c with
  | eff => exact h
  | pure => obtain ⟨f, h1, h2, h3⟩ := h; exact h2 σ (.refl _ _ _) K h3
  | app => obtain ⟨f, h1, h2, h3⟩ := h; exact h2 σ (.refl _ _ _) K h3
  | alc => obtain ⟨f, h1, h2, h3⟩ := h; exact h2 σ (.refl _ _ _) K h3

/-- Two operations, the first of which may as well be done behind the second. -/
def commOK (ops : List Oper) (ca cb : Cls) (a b : Oper) : Bool :=
  (match a.dst with
    | some d => !(slotsOf ops b).contains d && (match b.dst with
      | some e => decide (d ≠ e)
      | none => true)
    | none => true) &&
  (match b.dst with
    | some e => !(slotsOf ops a).contains e
    | none => true) &&
  match ca, cb with
  | .pure, .pure | .pure, .app | .app, .pure | .pure, .alc | .app, .alc => true
  | .alc, .pure | .alc, .app => !needH b.op
  | _, _ => false

theorem run_get {f : Eft} {o : Oper} {σ : Sta} {t : Nat} (h : ∀ d, o.dst = some d → d ≠ t) : (f.run o σ).get t = σ.get t := by
  unfold Eft.run
  cases hd : o.dst with
  | none => rfl
  | some d => simp [Sta.put, Sta.get, Ne.symm (h d hd)]
theorem run_n {f : Eft} {o : Oper} {σ : Sta} : (f.run o σ).n = σ.n := by unfold Eft.run; cases o.dst <;> rfl
theorem run_H {f : Eft} {o : Oper} {σ : Sta} : (f.run o σ).H = σ.H ++ f.bc.toList := by unfold Eft.run; cases o.dst <;> rfl
theorem run_L {f : Eft} {o : Oper} {σ : Sta} : (f.run o σ).L = f.L.getD σ.L := by unfold Eft.run; cases o.dst <;> rfl

theorem run_comm {f g : Eft} {a b : Oper} {σ : Sta} (hd : ∀ d e, a.dst = some d → b.dst = some e → d ≠ e) (hL : f.L = none ∨ g.L = none) (hH : f.bc = none ∨ g.bc = none) : f.run a (g.run b σ) = g.run b (f.run a σ) := by
  unfold Eft.run
  cases ha : a.dst with
  | none =>
    cases hb : b.dst with
    | none => rcases hL with h | h <;> rcases hH with k | k <;> simp [Sta.put, h, k]
    | some e => rcases hL with h | h <;> rcases hH with k | k <;> simp [Sta.put, h, k] <;> rfl
  | some d =>
    cases hb : b.dst with
    | none => rcases hL with h | h <;> rcases hH with k | k <;> simp [Sta.put, h, k] <;> rfl
    | some e =>
      have hne := hd d e ha hb
      have henv : (fun t => if t = d ∧ d < σ.n then f.x else if t = e ∧ e < σ.n then g.x else σ.env t) = fun t => if t = e ∧ e < σ.n then g.x else if t = d ∧ d < σ.n then f.x else σ.env t := by
        funext t
        by_cases h1 : t = d
        · subst h1; simp [hne]
        · simp [h1]
      rcases hL with h | h <;> rcases hH with k | k <;> simp [Sta.put, h, k, henv]

theorem X_comm {ca cb : Cls} {a b : Oper} {K : Sta → Prop} {σ : Sta} (hc : commOK ops ca cb a b = true) (h : X C ops ca a (X C ops cb b K) σ) : X C ops cb b (X C ops ca a K) σ := by
  simp only [commOK, Bool.and_eq_true] at hc
  obtain ⟨⟨h1, h2⟩, h3⟩ := hc
  have d1 : ∀ d, a.dst = some d → d ∉ slotsOf ops b := fun d hd => by
    rw [hd] at h1; simp only [Bool.and_eq_true] at h1
    simpa using h1.1
  have d2 : ∀ d e, a.dst = some d → b.dst = some e → d ≠ e := fun d e hd he => by
    rw [hd, he] at h1; simp only [Bool.and_eq_true] at h1
    simpa using h1.2
  have d3 : ∀ e, b.dst = some e → e ∉ slotsOf ops a := fun e he => by
    rw [he] at h2; simpa using h2
  have key : ∀ f g : Eft, f.fits ca → g.fits cb → (f.L = none ∨ g.L = none) → (f.bc = none ∨ g.bc = none) → (ca = .app → g.L = none) → (cb = .app → f.L = none) → (ca = .alc → g.bc = none) → (cb = .alc → f.bc = none) → (needH b.op = true → f.bc = none) →
      (∀ σ', Like ops ca a σ σ' → ∀ K' : Sta → Prop, K' (f.run a σ') → gop C ops a K' σ') → (∀ σ', Like ops cb b (f.run a σ) σ' → ∀ K' : Sta → Prop, K' (g.run b σ') → gop C ops b K' σ') → K (g.run b (f.run a σ)) →
      ∃ g' : Eft, g'.fits cb ∧ (∀ σ', Like ops cb b σ σ' → ∀ K' : Sta → Prop, K' (g'.run b σ') → gop C ops b K' σ') ∧ ∃ f' : Eft, f'.fits ca ∧ (∀ σ', Like ops ca a (g'.run b σ) σ' → ∀ K' : Sta → Prop, K' (f'.run a σ') → gop C ops a K' σ') ∧ K (f'.run a (g'.run b σ)) := by
    intro f g hf hg hL hH e1 e2 e3 e4 e5 hva hvb hK
    refine ⟨g, hg, fun σ' hl K' hK' => hvb σ' ⟨fun t ht => ?_, hl.n.trans run_n.symm, fun hn i bc hi => ?_, fun hca => ?_, fun hca => ?_⟩ K' hK', f, hf, fun σ' hl K' hK' => hva σ' ⟨fun t ht => ?_, hl.n.trans run_n, fun hn i bc hi => ?_, fun hca => ?_, fun hca => ?_⟩ K' hK', ?_⟩
    · rw [run_get fun d hd e => d1 d hd (e ▸ ht)]; exact hl.slots t ht
    · rw [run_H, e5 hn] at hi; exact hl.H hn i bc (by simpa using hi)
    · rw [run_L, e2 hca]; exact hl.L hca
    · rw [run_H, e4 hca]; simpa using hl.len hca
    · rw [hl.slots t ht, run_get fun d hd e => d3 d hd (e ▸ ht)]
    · refine hl.H hn i bc ?_
      rw [run_H]
      rw [List.getElem?_append_left (List.getElem?_eq_some_iff.1 hi).1]; exact hi
    · rw [hl.L hca, run_L, e1 hca]; rfl
    · rw [hl.len hca, run_H, e3 hca]; simp
    · rw [run_comm d2 hL hH]; exact hK
  cases ca <;> cases cb <;> simp only [Bool.false_eq_true] at h3
  case pure.pure =>
    obtain ⟨f, hf, hva, g, hg, hvb, hK⟩ := h
    exact key f g hf hg (.inl hf.1) (.inl hf.2) (fun e => nomatch e) (fun e => nomatch e) (fun e => nomatch e) (fun e => nomatch e) (fun _ => hf.2) hva hvb hK
  case pure.app =>
    obtain ⟨f, hf, hva, g, hg, hvb, hK⟩ := h
    exact key f g hf hg (.inl hf.1) (.inl hf.2) (fun e => nomatch e) (fun e => hf.1) (fun e => nomatch e) (fun e => nomatch e) (fun _ => hf.2) hva hvb hK
  case pure.alc =>
    obtain ⟨f, hf, hva, g, hg, hvb, hK⟩ := h
    exact key f g hf hg (.inl hf.1) (.inl hf.2) (fun e => nomatch e) (fun e => nomatch e) (fun e => nomatch e) (fun e => hf.2) (fun _ => hf.2) hva hvb hK
  case app.pure =>
    obtain ⟨f, hf, hva, g, hg, hvb, hK⟩ := h
    exact key f g hf hg (.inr hg.1) (.inl hf) (fun e => hg.1) (fun e => nomatch e) (fun e => nomatch e) (fun e => nomatch e) (fun _ => hf) hva hvb hK
  case app.alc =>
    obtain ⟨f, hf, hva, g, hg, hvb, hK⟩ := h
    exact key f g hf hg (.inr hg) (.inl hf) (fun e => hg) (fun e => nomatch e) (fun e => nomatch e) (fun e => hf) (fun _ => hf) hva hvb hK
  case alc.pure =>
    obtain ⟨f, hf, hva, g, hg, hvb, hK⟩ := h
    exact key f g hf hg (.inl hf) (.inr hg.2) (fun e => nomatch e) (fun e => nomatch e) (fun e => hg.2) (fun e => nomatch e) (fun hn => by rw [hn] at h3; cases h3) hva hvb hK
  case alc.app =>
    obtain ⟨f, hf, hva, g, hg, hvb, hK⟩ := h
    have hnb : needH b.op = true → f.bc = none := fun hn => by rw [hn] at h3; cases h3
    exact key f g hf hg (.inl hf) (.inr hg) (fun e => nomatch e) (fun e => hf) (fun e => hg) (fun e => nomatch e) hnb hva hvb hK

/-! ### Whatever order -/
/-- Those that an operation stands behind, as bits. -/
def maskOf (M : List Nat) (o : Oper) : Nat := o.after.toList.foldl (fun m e => if Region.binds .any e = true then m ||| (1 <<< e.on ||| M.getD e.on 0) else m) 0
def masks (ops : List Oper) : List Nat := ops.foldl (fun acc o => acc ++ [maskOf acc o]) []
def genOK (E : List Nat) (ops : List Oper) : Bool :=
  let M := masks ops
  ops.zipIdx.all fun (o, j) =>
    (o.after.toList.all fun e => !Region.binds .any e || decide (e.on < j)) && (M.getD j 0 == maskOf M o) &&
    ops.zipIdx.all fun (p, i) => !decide (i < j) || (M.getD j 0).testBit i || commOK ops (clsOf E i p) (clsOf E j o) p o

theorem mask_spec {M : List Nat} {i : Nat} : ∀ (l : List Edge) (m : Nat), (l.foldl (fun m e => if Region.binds .any e = true then m ||| (1 <<< e.on ||| M.getD e.on 0) else m) m).testBit i = true →
    m.testBit i = true ∨ ∃ e, e ∈ l ∧ Region.binds .any e = true ∧ (e.on = i ∨ (M.getD e.on 0).testBit i = true)
  | [], m, h => .inl h
  | e :: l, m, h => by
    rcases mask_spec l _ h with h | ⟨e', h1, h2, h3⟩
    · dsimp only at h
      by_cases hb : Region.binds .any e = true
      · rw [if_pos hb, Nat.testBit_or, Nat.testBit_or, Bool.or_eq_true, Bool.or_eq_true] at h
        rcases h with h | h | h
        · exact .inl h
        · refine .inr ⟨e, by simp, hb, .inl ?_⟩
          rw [Nat.one_shiftLeft, Nat.testBit_two_pow] at h
          simpa using h
        · exact .inr ⟨e, by simp, hb, .inr h⟩
      · rw [if_neg hb] at h; exact .inl h
    · exact .inr ⟨e', by simp [h1], h2, h3⟩

theorem gen_spec {E : List Nat} {ops : List Oper} (h : genOK E ops = true) :
    (∀ j o, ops[j]? = some o → ∀ e, e ∈ o.after → Region.binds .any e = true → e.on < j) ∧
    (∀ (L : Nat → Prop), (∀ i p, ops[i]? = some p → L i → ∀ e, e ∈ p.after → Region.binds .any e = true → L e.on) → ∀ i j p o, ops[i]? = some p → ops[j]? = some o → i < j → ¬ L i → (∀ e, e ∈ o.after → Region.binds .any e = true → L e.on) →
      commOK ops (clsOf E i p) (clsOf E j o) p o = true) := by
  simp only [genOK, List.all_eq_true, Bool.and_eq_true] at h
  have h1 : ∀ j o, ops[j]? = some o → ∀ e, e ∈ o.after → Region.binds .any e = true → e.on < j := fun j o ho e he hb => by
    have := (h (o, j) (List.mem_zipIdx_iff_getElem?.2 ho)).1.1 e (by simpa using he)
    simpa [hb] using this
  refine ⟨h1, fun L hcl i j p o hp ho hij hL hready => ?_⟩
  have hj := h (o, j) (List.mem_zipIdx_iff_getElem?.2 ho)
  have hi := hj.2 (p, i) (List.mem_zipIdx_iff_getElem?.2 hp)
  simp only [hij, decide_true, Bool.not_true, Bool.false_or, Bool.or_eq_true] at hi
  rcases hi with hi | hi
  · exfalso
    have key : ∀ (j : Nat) (o : Oper), ops[j]? = some o → (∀ e, e ∈ o.after → Region.binds .any e = true → L e.on) → ((masks ops).getD j 0).testBit i = true → L i := by
      intro j
      induction j using Nat.strongRecOn with
      | _ j ih =>
        intro o ho hready hbit
        have hm := (h (o, j) (List.mem_zipIdx_iff_getElem?.2 ho)).1.2
        simp only [beq_iff_eq] at hm
        rw [hm] at hbit
        rcases mask_spec _ _ hbit with hz | ⟨e, he, hb, hor⟩
        · simp at hz
        · have he' : e ∈ o.after := by simpa using he
          have hon := hready e he' hb
          rcases hor with rfl | hbit'
          · exact hon
          · have hlt := h1 j o ho e he' hb
            have hjl : j < ops.length := (List.getElem?_eq_some_iff.1 ho).1
            obtain ⟨q, hq⟩ : ∃ q, ops[e.on]? = some q := ⟨ops[e.on], List.getElem?_eq_getElem (by omega)⟩
            exact ih e.on hlt q hq (fun e2 he2 hb2 => hcl e.on q hq hon e2 he2 hb2) hbit'
    exact hL (key j o ho hready hi)
  · exact hi

/-- The conditions of what is still to be done, in the text's order. -/
def semL (C : Ctx P) (ops : List Oper) (E : List Nat) (K : Sta → Prop) : List Nat → Sta → Prop
  | [], σ => K σ
  | i :: l, σ => match ops[i]? with
    | some o => X C ops (clsOf E i o) o (semL C ops E K l) σ
    | none => False

theorem semL_bubble {E : List Nat} {K : Sta → Prop} {i : Nat} {o : Oper} (ho : ops[i]? = some o) : ∀ (pre post : List Nat) (σ : Sta), (∀ a p, a ∈ pre → ops[a]? = some p → commOK ops (clsOf E a p) (clsOf E i o) p o = true) →
    semL C ops E K (pre ++ i :: post) σ → X C ops (clsOf E i o) o (semL C ops E K (pre ++ post)) σ
  | [], post, σ, _, h => by simpa [semL, ho] using h
  | a :: pre, post, σ, hc, h => by
    simp only [List.cons_append, semL] at h ⊢
    cases hp : ops[a]? with
    | none => rw [hp] at h; exact h.elim
    | some p =>
      rw [hp] at h
      simp only at h ⊢
      exact X_comm (hc a p (by simp) hp) (X_mono h fun σ' h' => semL_bubble ho pre post σ' (fun a' p' ha' => hc a' p' (by simp [ha'])) h')

/-- **A STATEMENT WHOSE ORDER IS DRAWN: as in the text's order, where what no edge orders commutes.** -/
theorem awp_any {id : Nat} {Q : Exit → Sta → Prop} {σ : Sta} (E : List Nat) (hm : P.follows .mixedOrders = true) (hf : genOK E ops = true) (h : semL C ops E (Q .normal) (List.range ops.length) σ) : awp C (.region id ops.toArray true) Q σ := by
  obtain ⟨hf1, hf2⟩ := gen_spec hf
  intro n G M a w hs
  obtain ⟨ro, hro⟩ : ∃ ro, ro = C.ro := ⟨_, rfl⟩
  rw [← hro]
  refine wpIn_region_any hm ?_
  have hs := hs.drew
  have key : ∀ (fuel : Nat) (listed : Array Bool) (U : List Nat) (τ : Sta) (G : Ghost) (M : Nat → Prop) (a : Act) (w : World), listed.size = ops.length → U.Pairwise (· < ·) → U.length = fuel → (∀ i, i ∈ U ↔ i < ops.length ∧ listed.getD i false = false) →
      semL C ops E (Q .normal) U τ → (∀ i p, ops[i]? = some p → listed.getD i false = true → ∀ e, e ∈ p.after → Region.binds .any e = true → listed.getD e.on false = true) → SR C G M τ a w →
      wpAnyIn (fw ro) n P .any ops.toArray (post C Q) fuel listed a w := by
    intro fuel
    induction fuel with
    | zero =>
      intro listed U τ G M a w hsz hnd hlen hU hp hcl hs
      have hU0 : U = [] := List.eq_nil_of_length_eq_zero hlen
      subst hU0
      refine ⟨?_, G, M, τ, hp, hs⟩
      refine List.eq_nil_iff_forall_not_mem.2 fun j hj => ?_
      obtain ⟨h0, o, ho, _⟩ := mem_ready.1 hj
      have hlt : j < ops.length := by simpa using (Array.getElem?_eq_some_iff.1 ho).1
      have : j ∈ ([] : List Nat) := (hU j).2 ⟨hlt, by rw [Array.getD_eq_getD_getElem?, Array.getElem?_eq_getElem (by omega)] at h0 ⊢; simpa using h0⟩
      cases this
    | succ fuel ih =>
      intro listed U τ G M a w hsz hnd hlen hU hp hcl hs
      constructor
      · intro hnil
        exfalso
        obtain ⟨i, U', rfl⟩ : ∃ i U', U = i :: U' := by
          cases U with
          | nil => simp at hlen
          | cons u U => exact ⟨u, U, rfl⟩
        obtain ⟨hi, hbi⟩ := (hU i).1 (by simp)
        have hmin : ∀ k, k < i → ¬ (k < ops.length ∧ listed.getD k false = false) := fun k hk hk2 => by
          have := (hU k).2 hk2
          rcases List.mem_cons.1 this with rfl | hk3
          · omega
          · have := List.rel_of_pairwise_cons hnd hk3; omega
        have ho : ops[i]? = some ops[i] := List.getElem?_eq_getElem hi
        have hmem : i ∈ Region.ready .any ops.toArray listed := by
          refine mem_ready.2 ⟨?_, ops[i], by simpa using ho, fun e he hb => ?_⟩
          · rw [Array.getD_eq_getD_getElem?, Array.getElem?_eq_getElem (by omega)] at hbi ⊢
            simpa using hbi
          · have hlt := hf1 _ _ ho e he hb
            cases hb' : listed.getD e.on false with
            | true => rfl
            | false => exact absurd ⟨by omega, hb'⟩ (hmin _ hlt)
        rw [hnil] at hmem; cases hmem
      · intro i hi
        obtain ⟨h0, o, ho, hedges⟩ := mem_ready.1 hi
        have ho' : ops[i]? = some o := by simpa using ho
        have hlt : i < ops.length := (List.getElem?_eq_some_iff.1 ho').1
        have hbi : listed.getD i false = false := by
          rw [Array.getD_eq_getD_getElem?, Array.getElem?_eq_getElem (by omega)] at h0 ⊢
          simpa using h0
        obtain ⟨pre, post, rfl⟩ := List.append_of_mem ((hU i).2 ⟨hlt, hbi⟩)
        have hpre : ∀ k, k ∈ pre → k < i := fun k hk => (List.pairwise_append.1 hnd).2.2 k hk i (by simp)
        have hX := semL_bubble ho' pre post τ (fun k p hk hkp => hf2 (fun j => listed.getD j false = true) hcl k i p o hkp ho' (hpre k hk) (by rw [((hU k).1 (by simp [hk])).2]; simp) hedges) hp
        have hg := X_gop hX
        have next : ∀ G' M' τ' a' w', semL C ops E (Q .normal) (pre ++ post) τ' → SR C G' M' τ' a' w' → wpAnyIn (fw ro) n P .any ops.toArray (Abs.post C Q) fuel (listed.setIfInBounds i true) a' w' := by
          intro G' M' τ' a' w' hK hs'
          have hset : ∀ k, (listed.setIfInBounds i true).getD k false = true ↔ (listed.getD k false = true ∨ k = i) := fun k => by
            by_cases hk : k = i
            · subst hk; simp [Array.getD_eq_getD_getElem?, Array.getElem?_setIfInBounds, hsz, hlt]
            · rw [getD_set_ne false (Ne.symm hk)]; simp [hk]
          have hni : ∀ k, k ∈ pre ++ post → k ≠ i := fun k hk e => by
            subst e
            rcases List.mem_append.1 hk with h | h
            · exact absurd (hpre k h) (Nat.lt_irrefl k)
            · have h1 := (List.pairwise_append.1 hnd).2.1
              exact absurd (List.rel_of_pairwise_cons h1 h) (Nat.lt_irrefl k)
          refine ih _ (pre ++ post) τ' G' M' a' w' (by simpa using hsz) ?_ (by simp at hlen ⊢; omega) (fun k => ?_) hK (fun k p hk hLk e he hb => ?_) hs'
          · exact hnd.sublist (by simp)
          · constructor
            · intro hk
              have h1 := (hU k).1 (by
                rcases List.mem_append.1 hk with h | h
                · simp [h]
                · simp [h])
              refine ⟨h1.1, ?_⟩
              rw [getD_set_ne false (Ne.symm (hni k hk))]; exact h1.2
            · rintro ⟨hk1, hk2⟩
              have hki : k ≠ i := fun e => by
                have := (hset k).2 (.inr e)
                rw [hk2] at this; cases this
              rw [getD_set_ne false (Ne.symm hki)] at hk2
              have := (hU k).2 ⟨hk1, hk2⟩
              simp only [List.mem_append, List.mem_cons] at this ⊢
              rcases this with h | h | h
              · exact .inl h
              · exact absurd h hki
              · exact .inr h
          · rcases (hset k).1 hLk with h | h
            · exact (hset _).2 (.inl (hcl k p hk h e he hb))
            · subst h
              rw [ho'] at hk; cases hk
              exact (hset _).2 (.inl (hedges e he hb))
        unfold wpOpIn
        rw [ho]
        simp only
        unfold gop gd at hg
        split at hg
        · rename_i hgd
          simp only [Region.wanted, hgd, if_true]
          exact hg ro n G M a w _ _ hs next
        · rename_i j want hgd
          split at hg
          · rename_i t ht
            obtain ⟨htn, hg⟩ := hg
            split at hg
            · rename_i b hb
              have hy := yielded_of hs ht htn hb
              simp only [Region.wanted, hgd, hy]
              by_cases e : b = want
              · rw [if_pos (by simp [e])]
                exact hg.1 e ro n G M a w _ _ hs next
              · rw [if_neg (by simpa using e)]
                exact ⟨fun _ _ => trivial, next G M _ _ w (hg.2 e) (hs.put o.dst (nov_rep G))⟩
            · rename_i hb
              simp only [Region.wanted, hgd, yielded_nov hs ht hb]
              rw [if_neg (by simp)]
              exact ⟨fun _ _ => trivial, next G M _ _ w hg (hs.put o.dst (nov_rep G))⟩
            · exact hg.elim
          · exact hg.elim
  have := key ops.length (Array.replicate ops.length false) (List.range ops.length) σ G M a w.drew (by simp) List.pairwise_lt_range (by simp) (fun i => by
      rw [List.mem_range, Array.getD_eq_getD_getElem?, Array.getElem?_replicate]
      constructor
      · intro h; exact ⟨h, by simp [h]⟩
      · exact fun h => h.1) h
    (fun i p _ h => by simp only [Array.getD_eq_getD_getElem?, Array.getElem?_replicate] at h; split at h <;> cases h) hs
  simpa using this

/-! ### Computed -/
/-- A new variable. -/
def dalc (P : Program) (o : Oper) (σ : Sta) (K : AV → BoxC → Prop) : Prop :=
  match o.op with
  | .alloc t => need (tyd P t) fun d => need d.zero fun z => (z.cells.toList.all fun v => v.oneCell') = true ∧ K (.bptr σ.H.length 0) (BoxC.mk (z.cells.toList.map cav) true)
  | .box _ x => storable (σ.eval x) = true ∧ K (.bptr σ.H.length 0) (BoxC.mk (σ.eval x).flat true)
  | _ => False
def dbody (P : Program) (C : Ctx P) (c : Cls) (o : Oper) (K : Sta → Prop) (σ : Sta) : Prop :=
  match c with
  | .pure => dval P o σ fun x => K (σ.put o.dst x)
  | .app => dapp P o σ fun x L => K ({ σ with L := L }.put o.dst x)
  | .alc => dalc P o σ fun x bc => K ({ σ with H := σ.H ++ [bc] }.put o.dst x)
  | .eff => vop P C o K σ
def dgen (P : Program) (C : Ctx P) (E : List Nat) (ops : List Oper) : Nat → List Oper → (Sta → Prop) → Sta → Prop
  | _, [], K, σ => K σ
  | j, o :: l, K, σ => gd ops o (dbody P C (clsOf E j o) o) (dgen P C E ops (j + 1) l K) σ

theorem gop_of_aop {o : Oper} {K : Sta → Prop} {σ : Sta} {t : Nat} {b : Bool} {j : Nat} {want : Bool} (hg : o.guard = some (j, want)) (ht : (ops[j]?).bind (·.dst) = some t) (hn : t < σ.n) (hb : σ.get t = .lit (.bool b)) (h1 : b = want → aop C o K σ) (h2 : b ≠ want → K (σ.put o.dst (.tup []))) : gop C ops o K σ := by
  unfold gop gd
  rw [hg]
  simp only [ht]
  refine ⟨hn, ?_⟩
  rw [hb]
  exact ⟨h1, h2⟩
theorem gop_of_nov {o : Oper} {K : Sta → Prop} {σ : Sta} {t : Nat} {j : Nat} {want : Bool} (hg : o.guard = some (j, want)) (ht : (ops[j]?).bind (·.dst) = some t) (hn : t < σ.n) (hb : σ.get t = .tup []) (h : K (σ.put o.dst (.tup []))) : gop C ops o K σ := by
  unfold gop gd
  rw [hg]
  simp only [ht]
  refine ⟨hn, ?_⟩
  rw [hb]
  exact h
theorem agree_like {c : Cls} {o : Oper} {σ σ' : Sta} (h : Like ops c o σ σ') : agree o.op σ σ' :=
  ⟨fun t ht => h.slots t (by simp only [slotsOf, List.mem_append, List.mem_filterMap]; exact .inl ⟨.tmp t, ht, rfl⟩), h.H⟩
theorem run_pure (x : AV) (o : Oper) (σ : Sta) : Eft.run ⟨x, none, none⟩ o σ = σ.put o.dst x := by simp [Eft.run]
theorem run_app (x : AV) (L : List Bool) (o : Oper) (σ : Sta) : Eft.run ⟨x, some L, none⟩ o σ = { σ with L := L }.put o.dst x := by simp [Eft.run]
theorem run_alc (x : AV) (bc : BoxC) (o : Oper) (σ : Sta) : Eft.run ⟨x, none, some bc⟩ o σ = { σ with H := σ.H ++ [bc] }.put o.dst x := by simp [Eft.run]

theorem dalc_sound {o : Oper} {σ : Sta} {K : AV → BoxC → Prop} (h : dalc P o σ K) : ∃ x bc, K x bc ∧ ∀ σ', agree o.op σ σ' → σ'.H.length = σ.H.length → ∀ K' : Sta → Prop, K' ({ σ' with H := σ'.H ++ [bc] }.put o.dst x) → aop C o K' σ' := by
  obtain ⟨dst, op, type, pos, after, guard⟩ := o
  cases op with
  | alloc t =>
    simp only [dalc, need_iff] at h
    obtain ⟨d, h1, z, h2, h3, h4⟩ := h
    exact ⟨_, _, h4, fun σ' ha hl K' hK => aop_alloc rfl h1 h2 h3 (by rw [hl]; exact hK)⟩
  | box t x =>
    refine ⟨_, _, h.2, fun σ' ha hl K' hK => aop_box rfl rfl ?_ ?_⟩
    · rw [agree_eval ha (by simp [Op.operands])]; exact h.1
    · rw [agree_eval ha (by simp [Op.operands]), hl]; exact hK
  | _ => exact h.elim

theorem cls_app : ∀ {E : List Nat} {j : Nat} {o : Oper}, clsOf E j o = .app → isApp o = true
  | [], j, o, h => by
    obtain ⟨dst, op, type, pos, after, guard⟩ := o
    cases op with
    | call c =>
      obtain ⟨callee, args, ats⟩ := c
      cases callee with
      | builtin b => cases b <;> first | rfl | cases h
      | value f => cases h
      | invoke r m => cases h
    | _ => cases h
  | i :: E, j, o, h => by
    simp only [clsOf] at h
    split at h
    · cases h
    · exact cls_app h

theorem dbody_X {E : List Nat} {j : Nat} {o : Oper} {K K' : Sta → Prop} {σ : Sta} (hK : ∀ σ, K σ → K' σ) (h : gd ops o (dbody P C (clsOf E j o) o) K σ) : X C ops (clsOf E j o) o K' σ := by
  have skip : ∀ (c : Cls), c ≠ .eff → ∀ (t : Nat) (i : Nat) (want : Bool), o.guard = some (i, want) → (ops[i]?).bind (·.dst) = some t → t < σ.n → (σ.get t = .tup [] ∨ ∃ b, σ.get t = .lit (.bool b) ∧ b ≠ want) → K (σ.put o.dst (.tup [])) →
      ∃ f : Eft, f.fits c ∧ (∀ σ', Like ops c o σ σ' → ∀ K' : Sta → Prop, K' (f.run o σ') → gop C ops o K' σ') ∧ K' (f.run o σ) := by
    intro c hc t i want hg ht hn hb hk
    refine ⟨⟨.tup [], none, none⟩, ?_, fun σ' hl K' hK' => ?_, ?_⟩
    · cases c <;> simp [Eft.fits] at hc ⊢
    · have hs : t ∈ slotsOf ops o := by
        simp only [slotsOf, hg, List.mem_append, ht]; exact .inr (by simp)
      rcases hb with hb | ⟨b, hb, hne⟩
      · exact gop_of_nov hg ht (by rw [hl.n]; exact hn) (by rw [hl.slots t hs]; exact hb) (by rw [run_pure] at hK'; exact hK')
      · exact gop_of_aop hg ht (by rw [hl.n]; exact hn) (by rw [hl.slots t hs]; exact hb) (fun e => absurd e hne) fun _ => by rw [run_pure] at hK'; exact hK'
    · rw [run_pure]; exact hK _ hk
  have lift : ∀ (c : Cls), c ≠ .eff → (∃ f : Eft, f.fits c ∧ (∀ σ', Like ops c o σ σ' → ∀ K' : Sta → Prop, K' (f.run o σ') → aop C o K' σ') ∧ K (f.run o σ)) → ∀ (g : (∀ i want, o.guard ≠ some (i, want)) ∨ ∃ (t : Nat) (i : Nat) (want : Bool), o.guard = some (i, want) ∧ (ops[i]?).bind (·.dst) = some t ∧ t < σ.n ∧ σ.get t = .lit (.bool want)),
      ∃ f : Eft, f.fits c ∧ (∀ σ', Like ops c o σ σ' → ∀ K' : Sta → Prop, K' (f.run o σ') → gop C ops o K' σ') ∧ K' (f.run o σ) := by
    rintro c hc ⟨f, h1, h2, h3⟩ g
    refine ⟨f, h1, fun σ' hl K' hK' => ?_, hK _ h3⟩
    rcases g with g | ⟨t, i, want, hg, ht, hn, hb⟩
    · unfold gop gd
      split
      · exact h2 σ' hl K' hK'
      · rename_i i want hg; exact absurd hg (g i want)
    · have hs : t ∈ slotsOf ops o := by
        simp only [slotsOf, hg, List.mem_append, ht]; exact .inr (by simp)
      exact gop_of_aop hg ht (by rw [hl.n]; exact hn) (by rw [hl.slots t hs]; exact hb) (fun _ => h2 σ' hl K' hK') fun e => absurd rfl e
  have body : clsOf E j o ≠ .eff → dbody P C (clsOf E j o) o K σ → ∃ f : Eft, f.fits (clsOf E j o) ∧ (∀ σ', Like ops (clsOf E j o) o σ σ' → ∀ K' : Sta → Prop, K' (f.run o σ') → aop C o K' σ') ∧ K (f.run o σ) := by
    intro hne hb
    cases hc : clsOf E j o with
    | eff => exact absurd hc hne
    | pure =>
      rw [hc] at hb
      obtain ⟨x, h1, h2⟩ := dval_sound (C := C) (show dval P o σ fun x => K (σ.put o.dst x) from hb)
      exact ⟨⟨x, none, none⟩, ⟨rfl, rfl⟩, fun σ' hl K' hK' => h2 σ' (agree_like hl) K' (by rw [run_pure] at hK'; exact hK'), by rw [run_pure]; exact h1⟩
    | app =>
      rw [hc] at hb
      obtain ⟨x, L, h1, h2⟩ := dapp_sound (C := C) (cls_app hc) (show dapp P o σ fun x L => K (({ σ with L := L } : Sta).put o.dst x) from hb)
      exact ⟨⟨x, some L, none⟩, rfl, fun σ' hl K' hK' => h2 σ' (agree_like hl) (hl.L rfl) K' (by rw [run_app] at hK'; exact hK'), by rw [run_app]; exact h1⟩
    | alc =>
      rw [hc] at hb
      obtain ⟨x, bc, h1, h2⟩ := dalc_sound (C := C) (show dalc P o σ fun x bc => K (({ σ with H := σ.H ++ [bc] } : Sta).put o.dst x) from hb)
      exact ⟨⟨x, none, some bc⟩, rfl, fun σ' hl K' hK' => h2 σ' (agree_like hl) (hl.len rfl) K' (by rw [run_alc] at hK'; exact hK'), by rw [run_alc]; exact h1⟩
  by_cases he : clsOf E j o = .eff
  · rw [he] at h ⊢
    exact gd_mono (fun h => aop_mono (vop_sound h) hK) hK h
  · have fin : ∀ c, c = clsOf E j o → (∃ f : Eft, f.fits c ∧ (∀ σ', Like ops c o σ σ' → ∀ K' : Sta → Prop, K' (f.run o σ') → gop C ops o K' σ') ∧ K' (f.run o σ)) → X C ops c o K' σ := by
      intro c hc hx
      cases c with
      | eff => exact absurd hc.symm he
      | _ => exact hx
    refine fin _ rfl ?_
    unfold gd at h
    split at h
    · rename_i hg
      exact lift _ he (body he h) (.inl fun i want e => by rw [hg] at e; cases e)
    · rename_i i want hg
      split at h
      · rename_i t ht
        obtain ⟨hn, h⟩ := h
        split at h
        · rename_i b hb
          by_cases e : b = want
          · subst e; exact lift _ he (body he (h.1 rfl)) (.inr ⟨t, i, b, hg, ht, hn, hb⟩)
          · exact skip _ he t i want hg ht hn (.inr ⟨b, hb, e⟩) (h.2 e)
        · rename_i hb
          exact skip _ he t i want hg ht hn (.inl hb) h
        · exact h.elim
      · exact h.elim

theorem dgen_sem {E : List Nat} {K : Sta → Prop} : ∀ (l : List Oper) (k : Nat) (σ : Sta), ops.drop k = l → dgen P C E ops k l K σ → semL C ops E K (List.range' k l.length) σ
  | [], k, σ, hl, h => h
  | o :: l, k, σ, hl, h => by
    have hk : ops[k]? = some o := by
      have := congrArg (fun l => l[0]?) hl; simpa using this
    have hl' : ops.drop (k + 1) = l := by
      have := congrArg List.tail hl; simpa using this
    simp only [List.length_cons, List.range'_succ, semL, hk]
    exact dbody_X (fun σ' h' => dgen_sem l (k + 1) σ' hl' h') h

theorem awp_gen {id : Nat} {Q : Exit → Sta → Prop} {σ : Sta} (E : List Nat) (hm : P.follows .mixedOrders = true) (hf : genOK E ops = true) (h : dgen P C E ops 0 ops (Q .normal) σ) : awp C (.region id ops.toArray true) Q σ := by
  refine awp_any E hm hf ?_
  have := dgen_sem (ops := ops) ops 0 σ rfl h
  rwa [← List.range_eq_range'] at this
end

section
variable (P : Program) (C : Ctx P) (e : Nat → AV) (n : Nat) (H : List BoxC) (L : List Bool) (tr : List (List AV)) (st : Bool) (K : Sta → Prop)
theorem g_nil (E : List Nat) (ops : List Oper) (j : Nat) : dgen P C E ops j [] K (Sta.mk e n H L tr st) = K (Sta.mk e n H L tr st) := rfl
theorem g_cons (E : List Nat) (ops l : List Oper) (i : Nat) (d : Option Tmp) (op : Op) (t : TypeId) (p : String) (af : Array Edge) :
    dgen P C E ops i (⟨d, op, t, p, af, none⟩ :: l) K (Sta.mk e n H L tr st) = dbody P C (clsOf E i ⟨d, op, t, p, af, none⟩) ⟨d, op, t, p, af, none⟩ (dgen P C E ops (i + 1) l K) (Sta.mk e n H L tr st) := rfl
theorem g_guard_t (E : List Nat) (ops l : List Oper) (i : Nat) (d : Option Tmp) (op : Op) (t : TypeId) (p : String) (af : Array Edge) (j : Nat) :
    dgen P C E ops i (⟨d, op, t, p, af, some (j, true)⟩ :: l) K (Sta.mk e n H L tr st) = (match (ops[j]?).bind (·.dst) with
      | some t' => t' < n ∧ match e t' with
        | .lit (.bool b) => gif b (dbody P C (clsOf E i ⟨d, op, t, p, af, some (j, true)⟩) ⟨d, op, t, p, af, some (j, true)⟩ (dgen P C E ops (i + 1) l K)) (skp d (dgen P C E ops (i + 1) l K)) (Sta.mk e n H L tr st)
        | .tup [] => skp d (dgen P C E ops (i + 1) l K) (Sta.mk e n H L tr st)
        | _ => False
      | none => False) := by simp [dgen, gd, gif, skp, Sta.get]
theorem g_guard_f (E : List Nat) (ops l : List Oper) (i : Nat) (d : Option Tmp) (op : Op) (t : TypeId) (p : String) (af : Array Edge) (j : Nat) :
    dgen P C E ops i (⟨d, op, t, p, af, some (j, false)⟩ :: l) K (Sta.mk e n H L tr st) = (match (ops[j]?).bind (·.dst) with
      | some t' => t' < n ∧ match e t' with
        | .lit (.bool b) => gif b (skp d (dgen P C E ops (i + 1) l K)) (dbody P C (clsOf E i ⟨d, op, t, p, af, some (j, false)⟩) ⟨d, op, t, p, af, some (j, false)⟩ (dgen P C E ops (i + 1) l K)) (Sta.mk e n H L tr st)
        | .tup [] => skp d (dgen P C E ops (i + 1) l K) (Sta.mk e n H L tr st)
        | _ => False
      | none => False) := by simp [dgen, gd, gif, skp, Sta.get, and_comm]
theorem b_pure (o : Oper) : dbody P C .pure o K (Sta.mk e n H L tr st) = dval P o (Sta.mk e n H L tr st) fun x => K ((Sta.mk e n H L tr st).put o.dst x) := rfl
theorem b_app (o : Oper) : dbody P C .app o K (Sta.mk e n H L tr st) = dapp P o (Sta.mk e n H L tr st) fun x L' => K ((Sta.mk e n H L' tr st).put o.dst x) := rfl
theorem b_alc (o : Oper) : dbody P C .alc o K (Sta.mk e n H L tr st) = dalc P o (Sta.mk e n H L tr st) fun x bc => K ((Sta.mk e n (H ++ [bc]) L tr st).put o.dst x) := rfl
theorem b_eff (o : Oper) : dbody P C .eff o K (Sta.mk e n H L tr st) = vop P C o K (Sta.mk e n H L tr st) := rfl
theorem c_nil (j : Nat) (o : Oper) : clsOf [] j o = clsO o.op := rfl
theorem c_cons (i j : Nat) (E : List Nat) (o : Oper) : clsOf (i :: E) j o = if j = i then .eff else clsOf E j o := rfl
theorem k_move (x : Operand) : clsO (.move x) = .pure := rfl
theorem k_assign (x : Operand) : clsO (.assign x) = .pure := rfl
theorem k_pick (c x y : Operand) : clsO (.pick c x y) = .pure := rfl
theorem k_alloc (t : TypeId) : clsO (.alloc t) = .alc := rfl
theorem k_box (t : TypeId) (x : Operand) : clsO (.box t x) = .alc := rfl
theorem k_build (t : TypeId) (p : Array (Nat × Operand)) : clsO (.build t p) = .pure := rfl
theorem k_buildSlice (t : TypeId) (m : Nat) (p : Array (Nat × Operand)) : clsO (.buildSlice t m p) = .pure := rfl
theorem k_load (t : TypeId) (x : Operand) : clsO (.load t x) = .pure := rfl
theorem k_store (t : TypeId) (x y : Operand) : clsO (.store t x y) = .eff := rfl
theorem k_bin (op : BinOp) (t u : TypeId) (x y : Operand) : clsO (.binOp op t x y u) = .pure := rfl
theorem k_un (op : UnOp) (t : TypeId) (x : Operand) : clsO (.unOp op t x) = .pure := rfl
theorem k_convert (t u : TypeId) (x : Operand) : clsO (.convert t u x) = .pure := rfl
theorem k_iface (t : TypeId) (x : Operand) : clsO (.makeInterface t x) = .pure := rfl
theorem k_func (f : Fn) (a b : Array Operand) : clsO (.makeFunc f a b) = .pure := rfl
theorem k_slice (t : TypeId) (x : Operand) (a b c : Option Operand) : clsO (.slice t x a b c) = .pure := rfl
theorem k_fieldAddr (t : TypeId) (x : Operand) (f : Nat) : clsO (.fieldAddr t x f) = .pure := rfl
theorem k_field (t : TypeId) (x : Operand) (f : Nat) : clsO (.field t x f) = .pure := rfl
theorem k_indexAddr (t : TypeId) (x y : Operand) : clsO (.indexAddr t x y) = .pure := rfl
theorem k_index (t : TypeId) (x y : Operand) : clsO (.index t x y) = .pure := rfl
theorem k_extract (x : Operand) (i : Nat) : clsO (.extract x i) = .pure := rfl
theorem k_value (f : Operand) (a : Array Operand) (b : Array TypeId) : clsO (.call ⟨.value f, a, b⟩) = .pure := rfl
theorem k_append (a : Array Operand) (b : Array TypeId) : clsO (.call ⟨.builtin .append, a, b⟩) = .app := rfl
theorem k_copy (a : Array Operand) (b : Array TypeId) : clsO (.call ⟨.builtin .copy, a, b⟩) = .eff := rfl
theorem k_len (a : Array Operand) (b : Array TypeId) : clsO (.call ⟨.builtin .len, a, b⟩) = .pure := rfl
theorem k_cap (a : Array Operand) (b : Array TypeId) : clsO (.call ⟨.builtin .cap, a, b⟩) = .pure := rfl
theorem k_max (a : Array Operand) (b : Array TypeId) : clsO (.call ⟨.builtin .max, a, b⟩) = .pure := rfl
theorem k_min (a : Array Operand) (b : Array TypeId) : clsO (.call ⟨.builtin .min, a, b⟩) = .pure := rfl
variable (Q : AV → BoxC → Prop) (D : AV → Prop)
@[congr] theorem dalc_congr {o : Oper} {σ σ' : Sta} (h : σ = σ') : dalc P o σ Q = dalc P o σ' Q := by rw [h]
@[congr] theorem dminmax_congr {f : Int → Int → Int} {x y x' y' : AV} (h : x = x') (h' : y = y') : dminmax f x y D = dminmax f x' y' D := by rw [h, h']
theorem l_alloc (t : TypeId) (dst : Option Tmp) (ty : TypeId) (pos : String) (af : Array Edge) (g : Option (Nat × Bool)) : dalc P ⟨dst, .alloc t, ty, pos, af, g⟩ (Sta.mk e n H L tr st) Q = need (tyd P t) fun d => need d.zero fun z => (z.cells.toList.all fun v => v.oneCell') = true ∧ Q (.bptr H.length 0) (BoxC.mk (z.cells.toList.map cav) true) := rfl
theorem l_box (t : TypeId) (x : Operand) (dst : Option Tmp) (ty : TypeId) (pos : String) (af : Array Edge) (g : Option (Nat × Bool)) : dalc P ⟨dst, .box t x, ty, pos, af, g⟩ (Sta.mk e n H L tr st) Q = (storable ((Sta.mk e n H L tr st).eval x) = true ∧ Q (.bptr H.length 0) (BoxC.mk ((Sta.mk e n H L tr st).eval x).flat true)) := rfl
theorem d_max (x y : Operand) (ts : Array TypeId) (dst : Option Tmp) (ty : TypeId) (pos : String) (af : Array Edge) (g : Option (Nat × Bool)) : dval P ⟨dst, .call ⟨.builtin .max, #[x, y], ts⟩, ty, pos, af, g⟩ (Sta.mk e n H L tr st) D = dminmax gmax ((Sta.mk e n H L tr st).eval x) ((Sta.mk e n H L tr st).eval y) D := rfl
theorem d_min (x y : Operand) (ts : Array TypeId) (dst : Option Tmp) (ty : TypeId) (pos : String) (af : Array Edge) (g : Option (Nat × Bool)) : dval P ⟨dst, .call ⟨.builtin .min, #[x, y], ts⟩, ty, pos, af, g⟩ (Sta.mk e n H L tr st) D = dminmax gmin ((Sta.mk e n H L tr st).eval x) ((Sta.mk e n H L tr st).eval y) D := rfl
theorem d_mm (f : Int → Int → Int) (k k' : IntKind) (x y : Int) : dminmax f (.lit (.int k x)) (.lit (.int k' y)) D = (k = k' ∧ D (.lit (.int k (f x y)))) := rfl
theorem d_convert (s d : TypeId) (x : Operand) (dst : Option Tmp) (ty : TypeId) (pos : String) (af : Array Edge) (g : Option (Nat × Bool)) : dval P ⟨dst, .convert s d x, ty, pos, af, g⟩ (Sta.mk e n H L tr st) D = need (tyd P s) fun _ => need (tyd P d) fun dd => match (Sta.mk e n H L tr st).eval x with
    | .lit (.int _ n) => match dd.desc with
      | .int k' => D (.lit (.int k' (k'.wrap n)))
      | _ => False
    | .lit (.string b) => dd.desc = .string ∧ D (.lit (.string b))
    | _ => False := rfl
theorem d_makeFunc (f : FuncId) (first caps : Array Operand) (dst : Option Tmp) (ty : TypeId) (pos : String) (af : Array Edge) (g : Option (Nat × Bool)) : dval P ⟨dst, .makeFunc (.func f) first caps, ty, pos, af, g⟩ (Sta.mk e n H L tr st) D = (first.toList = [] ∧ caps.toList = [] ∧ D (.clo f [])) := rfl
end
end Go.Abs
