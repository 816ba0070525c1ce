/- Rules for operations that only compute. -/
import Derived.Test.YtlcajocjiehplaaZzOps2
set_option linter.unusedVariables false
set_option linter.unusedSimpArgs false
namespace Go.Abs
open Go Go.RowKit

section
variable {P : Program} {C : Ctx P} {G : Ghost} {M : Nat → Prop} {σ : Sta} {a : Act} {w : World} {o : Oper} {K : Sta → Prop}

theorem aop_move {x : Operand} (ho : o.op = .move x ∨ o.op = .assign x) (hx : Op.ok x = true) (hK : K (σ.put o.dst (σ.eval x))) : aop C o K σ := by
  refine aop_pure (by rcases ho with ho | ho <;> rw [ho] <;> rfl) hK fun G M a w hs => ⟨a.eval x, ?_, eval_rep hs x⟩
  rcases ho with ho | ho <;> simp only [execOp, ho, Sem.run_pure]

theorem eval_lit {x : Operand} {v : Value} (hs : SR C G M σ a w) (hx : Op.ok x = true) (he : σ.eval x = .lit v) : a.eval x = v ∧ litOK v := by
  have hr := eval_rep hs x
  rw [he] at hr
  exact hr.lit_eq

theorem aop_pick {c x y : Operand} {b : Bool} (ho : o.op = .pick c x y) (hc : Op.ok c = true) (hx : Op.ok x = true) (hy : Op.ok y = true) (he : σ.eval c = .lit (.bool b))
    (hK : K (σ.put o.dst (if b then σ.eval x else σ.eval y))) : aop C o K σ := by
  refine aop_pure (by rw [ho]; rfl) hK fun G M a w hs => ⟨if b then a.eval x else a.eval y, ?_, ?_⟩
  · have := (eval_lit hs hc he).1
    cases b <;> simp [execOp, ho, this, asBool]
  · cases b
    · exact eval_rep hs y (opOK hy)
    · exact eval_rep hs x

/-- An operation on plain operands whose run is known. -/
theorem aop_run {v : Value} (hd : isDefer o.op = false) (hv : litOK v) (h : ∀ G M a w, SR C G M σ a w → (execOp a.eval o).run P w = .ok (.value v) w) (hK : K (σ.put o.dst (.lit v))) : aop C o K σ :=
  aop_pure hd hK fun G M a w hs => ⟨v, h G M a w hs, .lit hv⟩

/-! ### Numbers -/
theorem bits_cases (k : IntKind) : (k.wrap = k.wrap) := rfl
theorem wrap_ok (k : IntKind) (n : Int) : litOK (.int k (k.wrap n)) := by
  simp only [litOK]
  have h : (0 : Int) < 2 ^ k.bits := by cases k <;> decide
  have h1 := Int.emod_nonneg n (Int.ne_of_gt h)
  have h2 := Int.emod_lt_of_pos n h
  cases k <;> simp [IntKind.wrap, IntKind.min, IntKind.max, IntKind.signed, IntKind.bits] at h1 h2 ⊢ <;> (try split) <;> omega

theorem wrap_id {k : IntKind} {n : Int} (h : litOK (.int k n)) : k.wrap n = n := by
  simp only [litOK] at h
  cases k <;> simp [IntKind.wrap, IntKind.min, IntKind.max, IntKind.signed, IntKind.bits] at h ⊢ <;> (try split) <;> omega
theorem tmod_abs {x y : Int} : (0 ≤ x → 0 ≤ x.tmod y ∧ x.tmod y ≤ x) ∧ (x ≤ 0 → x ≤ x.tmod y ∧ x.tmod y ≤ 0) := by
  have key : ∀ x : Int, 0 ≤ x → 0 ≤ x.tmod y ∧ x.tmod y ≤ x := fun x h => by
    have h1 := Int.tmod_nonneg y h
    have h2 := Int.natAbs_tmod x y
    have h3 := Nat.mod_le x.natAbs y.natAbs
    exact ⟨h1, by omega⟩
  refine ⟨key x, fun h => ?_⟩
  have h1 := key (-x) (by omega)
  rw [Int.neg_tmod] at h1
  omega
theorem tmod_ok {k : IntKind} {x y : Int} (hx : litOK (.int k x)) : litOK (.int k (x.tmod y)) := by
  have h := @tmod_abs x y
  simp only [litOK] at hx ⊢
  have hm : k.min ≤ 0 ∧ 0 ≤ k.max := by cases k <;> decide
  rcases Int.le_total 0 x with h0 | h0
  · have := h.1 h0; omega
  · have := h.2 h0; omega
theorem fdiv_ok {k : IntKind} {x : Int} (n : Nat) (hx : litOK (.int k x)) : litOK (.int k (x.fdiv (2 ^ n))) := by
  simp only [litOK] at hx ⊢
  have hm : k.min ≤ 0 ∧ 0 ≤ k.max := by cases k <;> decide
  have hp : (1 : Int) ≤ 2 ^ n := by
    have : (0 : Int) < 2 ^ n := Int.pow_pos (by decide)
    omega
  rw [Int.fdiv_eq_ediv_of_nonneg _ (by omega)]
  have h1 := Int.mul_ediv_add_emod x (2 ^ n)
  have h2 := Int.emod_nonneg x (show (2 : Int) ^ n ≠ 0 by omega)
  have h3 := Int.emod_lt_of_pos x (show (0 : Int) < 2 ^ n by omega)
  rcases Int.le_total 0 x with h0 | h0
  · have h4 : 0 ≤ x / 2 ^ n := Int.ediv_nonneg h0 (by omega)
    have h5 : x / 2 ^ n ≤ x := Int.ediv_le_self _ h0
    omega
  · have h4 : x / 2 ^ n ≤ 0 := by
      rcases Int.le_total (x / 2 ^ n) 0 with h | h
      · exact h
      · have : 0 ≤ 2 ^ n * (x / 2 ^ n) := Int.mul_nonneg (by omega) h
        rcases Int.lt_or_le 0 (x / 2 ^ n) with g | g
        · have : 2 ^ n * 1 ≤ 2 ^ n * (x / 2 ^ n) := Int.mul_le_mul_of_nonneg_left (by omega) (by omega)
          omega
        · omega
    have h5 : x ≤ x / 2 ^ n := by
      have : 2 ^ n * (x / 2 ^ n) ≤ 1 * (x / 2 ^ n) := Int.mul_le_mul_of_nonpos_right hp h4
      rcases Int.lt_or_le (x / 2 ^ n) x with g | g
      · have e : 2 ^ n * (x / 2 ^ n) = x - x % 2 ^ n := by omega
        have : 2 ^ n * (x / 2 ^ n) ≤ 2 ^ n * (x - 1) := Int.mul_le_mul_of_nonneg_left (by omega) (by omega)
        have : 2 ^ n * (x - 1) = 2 ^ n * x - 2 ^ n := by rw [Int.mul_sub]; omega
        have : 2 ^ n * x ≤ 1 * x := Int.mul_le_mul_of_nonpos_right hp h0
        omega
      · exact g
    omega

/-- '+', '-', '*' and the like of two numbers of a kind. -/
def abin (op : BinOp) (k : IntKind) (x y : Int) : Option Value :=
  match op with
  | .add => some (.int k (k.wrap (x + y)))
  | .sub => some (.int k (k.wrap (x - y)))
  | .mul => some (.int k (k.wrap (x * y)))
  | .quo => if y = 0 then none else some (.int k (k.wrap (x.tdiv y)))
  | .rem => if y = 0 then none else some (.int k (x.tmod y))
  | .and => some (.int k (k.wrap (BitVec.ofInt k.bits x &&& BitVec.ofInt k.bits y).toNat))
  | .or => some (.int k (k.wrap (BitVec.ofInt k.bits x ||| BitVec.ofInt k.bits y).toNat))
  | .xor => some (.int k (k.wrap (BitVec.ofInt k.bits x ^^^ BitVec.ofInt k.bits y).toNat))
  | .eql => some (.bool (x == y))
  | .neq => some (.bool (x != y))
  | .lss => some (.bool (decide (x < y)))
  | .leq => some (.bool (decide (x ≤ y)))
  | .gtr => some (.bool (decide (x > y)))
  | .geq => some (.bool (decide (x ≥ y)))
  | _ => none

theorem abin_ok {op : BinOp} {k : IntKind} {x y : Int} {v : Value} (hx : litOK (.int k x)) (h : abin op k x y = some v) : litOK v := by
  cases op <;> simp only [abin] at h
  all_goals first
    | (cases h; first | exact wrap_ok _ _ | trivial)
    | (split at h <;> cases h; first | exact wrap_ok _ _ | exact tmod_ok hx)
    | cases h
theorem run_abin {op : BinOp} {k : IntKind} {x y : Int} {v : Value} (t : TypeId) (h : abin op k x y = some v) : (binOp op t (.int k x) (.int k y)).run P w = .ok v w := by
  cases op <;> simp only [abin] at h
  all_goals first
    | (cases h; done)
    | (cases h; simp [binOp, Op.intArith, Op.intCmp, Op.intBits]; done)
    | (split at h <;> cases h; rename_i hy; simp [binOp, Op.intDiv, hy])
theorem aop_bin_int {op : BinOp} {t yt : TypeId} {X Y : Operand} {k : IntKind} {x y : Int} {v : Value} (ho : o.op = .binOp op t X Y yt) (hX : Op.ok X = true) (hY : Op.ok Y = true)
    (h1 : σ.eval X = .lit (.int k x)) (h2 : σ.eval Y = .lit (.int k y)) (h : abin op k x y = some v) (hK : K (σ.put o.dst (.lit v))) : aop C o K σ := by
  refine aop_pure (by rw [ho]; rfl) hK fun G M a w hs => ?_
  obtain ⟨e1, k1⟩ := eval_lit hs hX h1
  obtain ⟨e2, k2⟩ := eval_lit hs hY h2
  refine ⟨v, ?_, .lit (abin_ok k1 h)⟩
  simp only [execOp, ho, e1, e2]
  cases op <;> simp [eqGuard, run_abin t h]

/-- A shift. -/
def ashift (op : BinOp) (k : IntKind) (x y : Int) : Option Value :=
  if y < 0 then none else
  match op with
  | .shl => some (.int k (k.wrap (x * 2 ^ (min y.toNat k.bits))))
  | .shr => some (.int k (x.fdiv (2 ^ (min y.toNat k.bits))))
  | _ => none
theorem aop_shift {op : BinOp} {t yt : TypeId} {X Y : Operand} {k k' : IntKind} {x y : Int} {v : Value} (ho : o.op = .binOp op t X Y yt) (hX : Op.ok X = true) (hY : Op.ok Y = true)
    (h1 : σ.eval X = .lit (.int k x)) (h2 : σ.eval Y = .lit (.int k' y)) (h : ashift op k x y = some v) (hK : K (σ.put o.dst (.lit v))) : aop C o K σ := by
  refine aop_pure (by rw [ho]; rfl) hK fun G M a w hs => ?_
  obtain ⟨e1, k1⟩ := eval_lit hs hX h1
  obtain ⟨e2, k2⟩ := eval_lit hs hY h2
  simp only [ashift] at h
  split at h
  · cases h
  · rename_i hy
    cases op <;> simp only at h <;> cases h
    · exact ⟨_, by simp [execOp, ho, e1, e2, eqGuard, binOp, Op.shift, hy], .lit (wrap_ok _ _)⟩
    · exact ⟨_, by simp [execOp, ho, e1, e2, eqGuard, binOp, Op.shift, hy], .lit (fdiv_ok _ k1)⟩

/-! ### Texts -/
def slt (a b : ByteArray) : Bool := Op.bytesLess a.toList b.toList
def abinS (op : BinOp) (x y : ByteArray) : Option Value :=
  match op with
  | .eql => some (.bool (x.toList == y.toList))
  | .neq => some (.bool !(x.toList == y.toList))
  | .lss => some (.bool (slt x y))
  | .leq => some (.bool (slt x y || x.toList == y.toList))
  | .gtr => some (.bool !(slt x y || x.toList == y.toList))
  | .geq => some (.bool !(slt x y))
  | _ => none
theorem aop_bin_str {op : BinOp} {t yt : TypeId} {X Y : Operand} {x y : ByteArray} {v : Value} (ho : o.op = .binOp op t X Y yt) (hX : Op.ok X = true) (hY : Op.ok Y = true)
    (h1 : σ.eval X = .lit (.string x)) (h2 : σ.eval Y = .lit (.string y)) (h : abinS op x y = some v) (hK : K (σ.put o.dst (.lit v))) : aop C o K σ := by
  refine aop_pure (by rw [ho]; rfl) hK fun G M a w hs => ?_
  obtain ⟨e1, k1⟩ := eval_lit hs hX h1
  obtain ⟨e2, k2⟩ := eval_lit hs hY h2
  cases op <;> simp only [abinS] at h <;> cases h
  all_goals exact ⟨_, by simp [execOp, ho, e1, e2, eqGuard, binOp, Op.stringOp, slt], .lit trivial⟩
theorem aop_concat {t yt : TypeId} {X Y : Operand} {x y : ByteArray} (ho : o.op = .binOp .add t X Y yt) (hX : Op.ok X = true) (hY : Op.ok Y = true)
    (h1 : σ.eval X = .lit (.string x)) (h2 : σ.eval Y = .lit (.string y)) (hl : x.size + y.size ≤ maxN) (hK : K (σ.put o.dst (.lit (.string (x ++ y))))) : aop C o K σ := by
  refine aop_pure (by rw [ho]; rfl) hK fun G M a w hs => ?_
  obtain ⟨e1, k1⟩ := eval_lit hs hX h1
  obtain ⟨e2, k2⟩ := eval_lit hs hY h2
  refine ⟨_, ?_, .lit (by simpa [litOK] using hl)⟩
  simp only [maxN] at hl
  have : ¬ ((x.size + y.size : Nat) : Int) > IntKind.i64.max := by simp [IntKind.max, IntKind.signed, IntKind.bits]; omega
  simp only [execOp, ho, e1, e2, eqGuard, binOp, Op.stringOp, if_neg this]
  simp

/-- 'not', '-', '^'. -/
def aun (op : UnOp) (v : Value) : Option Value :=
  match op, v with
  | .not, .bool b => some (.bool !b)
  | .neg, .int k n => some (.int k (k.wrap (0 - n)))
  | _, _ => none
theorem aop_un {op : UnOp} {t : TypeId} {X : Operand} {x v : Value} (ho : o.op = .unOp op t X) (hX : Op.ok X = true) (h1 : σ.eval X = .lit x) (h : aun op x = some v) (hK : K (σ.put o.dst (.lit v))) : aop C o K σ := by
  refine aop_pure (by rw [ho]; rfl) hK fun G M a w hs => ?_
  obtain ⟨e1, k1⟩ := eval_lit hs hX h1
  refine ⟨v, ?_, .lit ?_⟩
  · cases op <;> cases x <;> simp only [aun] at h <;> cases h <;> simp [execOp, ho, e1, Op.unary, Op.intArith]
  · cases op <;> cases x <;> simp only [aun] at h <;> cases h <;> first | trivial | exact wrap_ok _ _

/-! ### Conversions, interfaces, tuples -/
theorem aop_conv_int {s d : TypeId} {X : Operand} {k k' : IntKind} {n : Int} {ds dd : TyD} (ho : o.op = .convert s d X) (hX : Op.ok X = true) (h1 : σ.eval X = .lit (.int k n)) (hs : tyd P s = some ds) (hd : tyd P d = some dd)
    (hk : dd.desc = .int k') (hK : K (σ.put o.dst (.lit (.int k' (k'.wrap n))))) : aop C o K σ := by
  refine aop_pure (by rw [ho]; rfl) hK fun G M a w hS => ?_
  obtain ⟨e1, k1⟩ := eval_lit hS hX h1
  refine ⟨_, ?_, .lit (wrap_ok _ _)⟩
  simp only [execOp, ho, e1, convert, Sem.run_bind, run_underlying' hs, run_underlying' hd, Result.andThen_ok, hk]
  simp [Conv.intToInt]
theorem aop_conv_same {s d : TypeId} {X : Operand} {x : AV} {ds dd : TyD} (ho : o.op = .convert s d X) (hX : Op.ok X = true) (hs : tyd P s = some ds) (hd : tyd P d = some dd)
    (hk : dd.desc = .string) {b : ByteArray} (h1 : σ.eval X = .lit (.string b)) (hK : K (σ.put o.dst (.lit (.string b)))) : aop C o K σ := by
  refine aop_pure (by rw [ho]; rfl) hK fun G M a w hS => ?_
  obtain ⟨e1, k1⟩ := eval_lit hS hX h1
  refine ⟨_, ?_, .lit k1⟩
  simp only [execOp, ho, e1, convert, Sem.run_bind, run_underlying' hs, run_underlying' hd, Result.andThen_ok, hk]
  simp
def isIface : TypeDesc → Bool
  | .interface _ => true
  | _ => false
theorem aop_iface {t : TypeId} {X : Operand} {d : TyD} (ho : o.op = .makeInterface t X) (hX : Op.ok X = true) (ht : tyd P t = some d) (hi : isIface d.desc = false) (hK : K (σ.put o.dst (.iface t (σ.eval X).weak))) : aop C o K σ := by
  refine aop_pure (by rw [ho]; rfl) hK fun G M a w hs => ⟨.iface t (a.eval X), ?_, .iface t _ _ (eval_rep hs X (opOK hX)).weak⟩
  simp only [execOp, ho, Instr.makeInterface, Sem.run_bind, run_underlying' ht, Result.andThen_ok]
  cases hd : d.desc <;> simp_all [isIface]
theorem aop_extract {X : Operand} {i : Nat} {vs : List AV} (ho : o.op = .extract X i) (hX : Op.ok X = true) (h1 : σ.eval X = .tup vs) (hi : i < vs.length) (hK : K (σ.put o.dst (vs.getD i .undef))) : aop C o K σ := by
  refine aop_pure (by rw [ho]; rfl) hK fun G M a w hs => ?_
  have hr := eval_rep hs X (opOK hX)
  rw [h1] at hr
  generalize hv : a.eval X = v at hr
  cases hr with
  | tup us cs hl h =>
    have hlt : i < us.size := by omega
    refine ⟨us.getD i undef, ?_, h i⟩
    simp only [execOp, ho, hv, Instr.extract]
    simp [hlt, Array.getD_eq_getD_getElem?]
end
end Go.Abs
