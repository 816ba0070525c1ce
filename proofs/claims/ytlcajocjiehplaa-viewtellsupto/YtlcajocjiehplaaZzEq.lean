/- '==' of structs whose fields are numbers, texts, truths. -/
import Derived.Test.YtlcajocjiehplaaZzOps6
import Derived.Laws.StructEq
import Derived.Laws.Cover3
set_option linter.unusedVariables false
set_option linter.unusedSimpArgs false
namespace Go.Abs
open Go Go.RowKit

def eqV (t : TypeDesc) (a b : Value) : Option Bool :=
  match t, a, b with
  | .int _, .int k x, .int k' y => if k = k' then some (x == y) else none
  | .string, .string x, .string y => some (x.toList == y.toList)
  | .bool, .bool x, .bool y => some (x == y)
  | _, _, _ => none
def eqFs (P : Program) (k : Nat) : List Field → List AV → List AV → Option Bool
  | [], [], [] => some true
  | f :: fs, .lit a :: as, .lit b :: bs => if (f.name == "_") = false ∧ f.offset = k then (tyd P f.type).bind fun d => if d.agg = false ∧ d.size = 1 then (eqV d.desc a b).bind fun r => (eqFs P (k + 1) fs as bs).map (r && ·) else none else none
  | _, _, _ => none
def eqOK (P : Program) (t : TypeId) : Bool := !P.stoodInHeld t && !P.eqGuardType P.depth t
def eqop : BinOp → Option (Bool → Bool)
  | .eql => some id
  | .neq => some not
  | _ => none

section
variable {P : Program} {C : Ctx P} {G : Ghost} {M : Nat → Prop} {σ : Sta} {a : Act} {w w' : World} {o : Oper} {K : Sta → Prop}

theorem run_eqV {t : TypeId} {d : TyD} (ht : tyd P t = some d) {n : Nat} {a b : Value} {r : Bool} (h : eqV d.desc a b = some r) : (Op.equalIn (n + 1) t a b).run P w = .ok r w := by
  obtain ⟨_, _, hu, _⟩ := tyd_some ht
  unfold eqV at h
  split at h
  · rename_i k k1 x k2 y e
    split at h
    · rename_i hk
      subst hk
      cases h
      rw [e] at hu
      simp [Op.equalIn, run_underlying hu]
    · cases h
  · rename_i x y e
    cases h
    rw [e] at hu
    exact run_equalIn_string w n t x y hu
  · rename_i x y e
    cases h
    rw [e] at hu
    exact run_equalIn_bool' w n t x y hu
  · cases h

theorem run_part1 {t : TypeId} {d : TyD} (ht : tyd P t = some d) (ha : d.agg = false) (hz : d.size = 1) (vs : Array Value) (k : Nat) (hk : k < vs.size) : (part t vs k).run P w = .ok (vs.getD k undef) w := by
  have h := run_part' (P := P) (w := w) ht vs k (.inr hz) (by omega)
  rw [h, ha, hz]
  simp only [Bool.false_eq_true, if_false]

theorem run_eqFs {n : Nat} (xs ys : Array Value) : ∀ (fs : List Field) (k : Nat) (as bs : List AV) (r : Bool), eqFs P k fs as bs = some r →
    (∀ j (v : Value), as[j]? = some (.lit v) → xs[k + j]? = some v) → (∀ j (v : Value), bs[j]? = some (.lit v) → ys[k + j]? = some v) → (Op.eqFields (n + 1) xs ys fs).run P w = .ok r w := by
  intro fs
  induction fs with
  | nil =>
    intro k as bs r h _ _
    cases as <;> cases bs <;> simp [eqFs] at h
    subst h; simp [Op.eqFields]
  | cons f fs ih =>
    intro k as bs r h hx hy
    unfold eqFs at h
    split at h
    · rename_i e; cases e
    · rename_i f' fs' va as vb bs e
      cases e
      split at h
      · rename_i hf
        obtain ⟨h1, h2⟩ := hf
        cases ht : tyd P f.type with
        | none => rw [ht] at h; cases h
        | some d =>
          rw [ht] at h
          simp only [Option.bind_some] at h
          split at h
          · rename_i hd
            cases he : eqV d.desc va vb with
            | none => rw [he] at h; cases h
            | some q =>
              cases hr : eqFs P (k + 1) fs as bs with
              | none => rw [he, hr] at h; cases h
              | some s =>
                rw [he, hr] at h
                cases h
                have e1 := hx 0 va rfl
                have e2 := hy 0 vb rfl
                simp only [Nat.add_zero] at e1 e2
                have l1 : k < xs.size := (Array.getElem?_eq_some_iff.1 e1).1
                have l2 : k < ys.size := (Array.getElem?_eq_some_iff.1 e2).1
                have p1 := run_part1 (P := P) (w := w) ht hd.1 hd.2 xs k l1
                have p2 := run_part1 (P := P) (w := w) ht hd.1 hd.2 ys k l2
                rw [Array.getD_eq_getD_getElem?, e1, Option.getD_some] at p1
                rw [Array.getD_eq_getD_getElem?, e2, Option.getD_some] at p2
                have hn : f.name ≠ "_" := by simpa using h1
                have hrest := ih (k + 1) as bs s hr (fun j v e => by rw [Nat.add_assoc, Nat.add_comm 1]; exact hx (j + 1) v (by simpa using e)) (fun j v e => by rw [Nat.add_assoc, Nat.add_comm 1]; exact hy (j + 1) v (by simpa using e))
                rw [Op.eqFields, if_pos hn]
                simp only [Sem.run_bind, h2, p1, p2, Result.andThen_ok, run_eqV ht he]
                cases q
                · simp
                · simpa using hrest
          · cases h
      · cases h
    · cases h

/-- '==' of truths. -/
theorem aop_bin_bool {op : BinOp} {t yt : TypeId} {X Y : Operand} {x y : Bool} {f : Bool → Bool} {d : TyD} {r : Bool} (ho : o.op = .binOp op t X Y yt) (hX : Op.ok X = true) (hY : Op.ok Y = true) (ht : tyd P t = some d) (hop : eqop op = some f)
    (h1 : σ.eval X = .lit (.bool x)) (h2 : σ.eval Y = .lit (.bool y)) (hr : eqV d.desc (.bool x) (.bool y) = some r) (hK : K (σ.put o.dst (.lit (.bool (f r))))) : aop C o K σ := by
  refine aop_pure (by rw [ho]; rfl) hK fun G M a w hs => ?_
  obtain ⟨e1, k1⟩ := eval_lit hs hX h1
  obtain ⟨e2, k2⟩ := eval_lit hs hY h2
  have hE : (Op.equal t (.bool x) (.bool y)).run P w = .ok r w := run_eqV (w := w) (n := 9999) ht hr
  cases op <;> simp only [eqop] at hop <;> cases hop
  all_goals exact ⟨_, by simp [execOp, ho, e1, e2, eqGuard, binOp, hE], .lit trivial⟩

theorem aop_eq_struct {op : BinOp} {t yt : TypeId} {X Y : Operand} {cs ds : List AV} {d : TyD} {fs : List Field} {f : Bool → Bool} {r : Bool} (ho : o.op = .binOp op t X Y yt) (hop : eqop op = some f) (hok : eqOK P t = true) (ht : tyd P t = some d) (hfs : fieldsOf d = some fs)
    (h1 : σ.eval X = .agg cs) (h2 : σ.eval Y = .agg ds) (h : eqFs P 0 fs cs ds = some r) (hK : K (σ.put o.dst (.lit (.bool (f r))))) : aop C o K σ := by
  refine aop_pure (by rw [ho]; rfl) hK fun G M a w hs => ⟨_, ?_, .lit trivial⟩
  have hrx := eval_rep hs X
  have hry := eval_rep hs Y
  rw [h1] at hrx
  rw [h2] at hry
  generalize hx : a.eval X = vx at hrx
  generalize hy : a.eval Y = vy at hry
  obtain ⟨i, hi, hu, _⟩ := tyd_some ht
  obtain ⟨fa, hfa, rfl⟩ : ∃ fa, d.desc = .struct fa ∧ fs = fa.toList := by
    unfold fieldsOf at hfs
    split at hfs
    · rename_i fa e; exact ⟨fa, e, by cases hfs; rfl⟩
    · cases hfs
  rw [hfa] at hu
  simp only [eqOK, Bool.and_eq_true, Bool.not_eq_true'] at hok
  have hP : P.fieldsOf t = fa := by simp [Program.fieldsOf, hu]
  cases hrx with
  | agg xs _ hlx hxs _ =>
    cases hry with
    | agg ys _ hly hys _ =>
      have get : ∀ (G : Ghost) (vs : Array Value) (cs : List AV), vs.size = cs.length → (∀ j, Rep G (vs.getD j undef) (cs.getD j .undef)) → ∀ j (v : Value), cs[j]? = some (.lit v) → vs[0 + j]? = some v := fun G vs cs hl hr j v e => by
        have h := hr j
        rw [List.getD_eq_getElem?_getD, e, Option.getD_some] at h
        have hv := h.lit_eq.1
        have hj : j < vs.size := by rw [hl]; exact (List.getElem?_eq_some_iff.1 e).1
        rw [Nat.zero_add, Array.getElem?_eq_getElem hj]
        rw [Array.getD_eq_getD_getElem?, Array.getElem?_eq_getElem hj, Option.getD_some] at hv
        rw [hv]
      have hrun := run_eqFs (P := P) (w := w) (n := 9998) xs ys fa.toList 0 cs ds r h (get G xs cs hlx hxs) (get G ys ds hly hys)
      have hE : (Op.equalIn 10000 t (.agg xs) (.agg ys)).run P w = .ok r w := by
        rw [run_equalIn_struct (P := P) w 9999 t xs ys (by rw [hP]; exact hu) hok.1, hP]
        exact hrun
      have hg := run_eqGuard_agg (P := P) w op t X Y xs ys hok.2
      cases op <;> simp only [eqop] at hop <;> cases hop
      · have := run_eql_struct (P := P) w t xs ys
        rw [hE] at this
        simp [execOp, ho, hx, hy, hg, this]
      · have := run_neq_struct (P := P) w t xs ys
        rw [hE] at this
        simp [execOp, ho, hx, hy, hg, this]

def isNilSl : Operand → Bool
  | .const (.slice none 0 0) => true
  | _ => false
/-- Is a slice nil? -/
def vnil (f : Bool → Bool) (dst : Option Tmp) (x : AV) (K : Sta → Prop) (σ : Sta) : Prop :=
  match x with
  | .sl _ [] => ∀ b, K (σ.put dst (.lit (.bool b)))
  | .sl _ (_ :: _) => K (σ.put dst (.lit (.bool (f false))))
  | .bsl _ _ _ _ => K (σ.put dst (.lit (.bool (f false))))
  | _ => False
theorem aop_nil {op : BinOp} {t e yt : TypeId} {X Y : Operand} {d : TyD} {f : Bool → Bool} (ho : o.op = .binOp op t X Y yt) (hop : eqop op = some f) (hY : isNilSl Y = true) (ht : tyd P t = some d) (he : Abs.elemOf d = some e) (h : vnil f o.dst (σ.eval X) K σ) : aop C o K σ := by
  intro ro n G M a w next Q hs hn
  obtain rfl : Y = .const (.slice none 0 0) := by
    unfold isNilSl at hY; split at hY
    · rfl
    · cases hY
  obtain ⟨i, hi, hu, _⟩ := tyd_some ht
  rw [elemOf_some he] at hu
  have hrx := eval_rep hs X
  have run : ∀ base l c, a.eval X = .slice base l c → (execOp a.eval o).run P w = .ok (.value (.bool (f base.isNone))) w := fun base l c hv => by
    have hE := run_equal_slice_nil (P := P) w t e base l c hu
    have hcv : a.eval (.const (.slice none 0 0)) = .slice none 0 0 := rfl
    cases op <;> simp only [eqop] at hop <;> cases hop
    · simp [execOp, ho, hv, hcv, eqGuard, binOp, hE]
    · simp [execOp, ho, hv, hcv, eqGuard, binOp, hE]
  generalize hx : σ.eval X = x at hrx h
  generalize hv : a.eval X = v at hrx
  cases hrx with
  | slnil ow => exact wpIn_of_run (by rw [ho]; rfl) (run _ _ _ hv) (hn _ _ _ _ _ (h _) (hs.put o.dst (.lit trivial)))
  | sl ow b off sz cap xs cells hl hS hR hz hc hm hO =>
    refine wpIn_of_run (by rw [ho]; rfl) (run _ _ _ hv) ?_
    cases xs with
    | nil => exact hn _ _ _ _ _ (h _) (hs.put o.dst (.lit trivial))
    | cons x xs => exact hn _ _ _ _ _ h (hs.put o.dst (.lit trivial))
  | bsl i off len cap b hb hc hm hx' => exact wpIn_of_run (by rw [ho]; rfl) (run _ _ _ hv) (hn _ _ _ _ _ h (hs.put o.dst (.lit trivial)))
  | _ => exact h.elim
end
end Go.Abs
