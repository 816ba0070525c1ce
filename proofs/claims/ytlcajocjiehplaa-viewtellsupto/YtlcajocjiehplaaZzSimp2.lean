/- The computing of conditions of a drawn statement. -/
import Derived.Test.YtlcajocjiehplaaZzDraw
set_option linter.unusedVariables false
set_option linter.unusedSimpArgs false
namespace Go.Abs
open Go Go.RowKit
section
variable (P : Program) (e : Nat → AV) (n : Nat) (H : List BoxC) (L : List Bool) (tr : List (List AV)) (st : Bool) (K : AV → Prop) (Q : Sta → Prop)
@[congr] theorem dval_congr {o : Oper} {σ σ' : Sta} (h : σ = σ') : dval P o σ K = dval P o σ' K := by rw [h]

variable (dst : Option Tmp) (ty : TypeId) (pos : String) (af : Array Edge) (g : Option (Nat × Bool))
theorem d_move (x : Operand) : dval P ⟨dst, .move x, ty, pos, af, g⟩ (Sta.mk e n H L tr st) K = K ((Sta.mk e n H L tr st).eval x) := rfl
theorem d_assign (x : Operand) : dval P ⟨dst, .assign x, ty, pos, af, g⟩ (Sta.mk e n H L tr st) K = K ((Sta.mk e n H L tr st).eval x) := rfl
theorem d_pick (c x y : Operand) : dval P ⟨dst, .pick c x y, ty, pos, af, g⟩ (Sta.mk e n H L tr st) K = (match (Sta.mk e n H L tr st).eval c with
    | .lit (.bool b) => K (if b = true then (Sta.mk e n H L tr st).eval x else (Sta.mk e n H L tr st).eval y)
    | _ => False) := rfl
theorem d_build (t : TypeId) (parts : Array (Nat × Operand)) : dval P ⟨dst, .build t parts, ty, pos, af, g⟩ (Sta.mk e n H L tr st) K = need (tyd P t) fun d => need d.zero fun z => need (fieldsOf d) fun fs => need (placesOf P fs) fun ps => (z.cells.toList.all fun v => v.oneCell') = true ∧
      need (afill (ps[·]?) (z.cells.toList.map cav) (parts.toList.map fun x => (x.1, (Sta.mk e n H L tr st).eval x.2))) fun cs => K (.agg cs) := rfl
theorem d_buildSlice (t : TypeId) (m : Nat) (parts : Array (Nat × Operand)) : dval P ⟨dst, .buildSlice t m parts, ty, pos, af, g⟩ (Sta.mk e n H L tr st) K = need (tyd P t) fun d => need (Abs.elemOf d) fun e' => need (tyd P e') fun ed => need ed.zero fun z => z.cells.size = ed.size ∧ 0 < ed.size ∧ (z.cells.toList.all fun v => v.oneCell') = true ∧ m * ed.size ≤ 2 ^ 24 ∧
      parts.toList.map Prod.fst = List.range m ∧ (∀ x, x ∈ parts.toList.map (fun x => (Sta.mk e n H L tr st).eval x.2) → storable x = true ∧ x.flat.length = ed.size) ∧ K (.sl .full (parts.toList.map fun x => ((Sta.mk e n H L tr st).eval x.2).weak)) := rfl
theorem d_load (t : TypeId) (x : Operand) : dval P ⟨dst, .load t x, ty, pos, af, g⟩ (Sta.mk e n H L tr st) K = need (tyd P t) fun d => match (Sta.mk e n H L tr st).eval x with
    | .cptr cs => (d.agg = true ∨ d.size = 1) ∧ d.size ≤ cs.length ∧ K (packed d (cs.take d.size))
    | .bptr i off => need H[i]? fun bc => (d.agg = true ∨ d.size = 1) ∧ off + d.size ≤ bc.cells.length ∧ K (packed d ((bc.cells.drop off).take d.size))
    | _ => False := rfl
def dbin (P : Program) (t : TypeId) (op : BinOp) (x y : AV) (K : AV → Prop) : Prop := match x, y with
    | .lit (.int k x), .lit (.int k' y) => if isShift op = true then vshift op k x y (fun v => K (.lit v)) else k = k' ∧ vbin op k x y (fun v => K (.lit v))
    | .lit (.string x), .lit (.string y) => vbinS op x y (fun v => K (.lit v))
    | .lit (.bool x), .lit (.bool y) => need (tyd P t) fun d => need (eqop op) fun f => need (eqV d.desc (.bool x) (.bool y)) fun r => K (.lit (.bool (f r)))
    | .agg cs, .agg ds => eqOK P t = true ∧ need (eqop op) fun f => need (tyd P t) fun d => need (fieldsOf d) fun fs => need (eqFs P 0 fs cs ds) fun r => K (.lit (.bool (f r)))
    | _, _ => False
@[congr] theorem dbin_congr {t : TypeId} {op : BinOp} {x y x' y' : AV} (h : x = x') (h' : y = y') : dbin P t op x y K = dbin P t op x' y' K := by rw [h, h']
theorem d_bin (op : BinOp) (t u : TypeId) (x y : Operand) : dval P ⟨dst, .binOp op t x y u, ty, pos, af, g⟩ (Sta.mk e n H L tr st) K = dbin P t op ((Sta.mk e n H L tr st).eval x) ((Sta.mk e n H L tr st).eval y) K := rfl
theorem d_unOp (op : UnOp) (t : TypeId) (x : Operand) : dval P ⟨dst, .unOp op t x, ty, pos, af, g⟩ (Sta.mk e n H L tr st) K = (match (Sta.mk e n H L tr st).eval x with
    | .lit v => need (aun op v) fun u => K (.lit u)
    | _ => False) := rfl
theorem d_iface (t : TypeId) (x : Operand) : dval P ⟨dst, .makeInterface t x, ty, pos, af, g⟩ (Sta.mk e n H L tr st) K = need (tyd P t) fun d => isIface d.desc = false ∧ K (.iface t ((Sta.mk e n H L tr st).eval x).weak) := rfl
theorem d_slice (t : TypeId) (x : Operand) (lo hi : Option Operand) : dval P ⟨dst, .slice t x lo hi none, ty, pos, af, g⟩ (Sta.mk e n H L tr st) K = need (tyd P t) fun d => match (Sta.mk e n H L tr st).eval x with
    | .lit (.string s) => d.desc = .string ∧ need (bound lo (Sta.mk e n H L tr st) 0) fun l => need (bound hi (Sta.mk e n H L tr st) s.size) fun h => l ≤ h ∧ h ≤ s.size ∧ K (.lit (.string (s.extract l h)))
    | .sl _ xs => need (Abs.elemOf d) fun e' => need (tyd P e') fun ed => need (bound lo (Sta.mk e n H L tr st) 0) fun l => need (bound hi (Sta.mk e n H L tr st) xs.length) fun h => l ≤ h ∧ h ≤ xs.length ∧ (∀ x, x ∈ xs → x.flat.length = ed.size) ∧ K (.sl .no ((xs.drop l).take (h - l)))
    | .bsl b off len cap => need (Abs.elemOf d) fun e' => need (tyd P e') fun ed => need (bound lo (Sta.mk e n H L tr st) 0) fun l => need (bound hi (Sta.mk e n H L tr st) len) fun h => l ≤ h ∧ h ≤ cap ∧ h ≤ maxN ∧ ∀ off', (l < cap → off' = off + l * ed.size) → K (.bsl b off' (h - l) (cap - l))
    | _ => False := rfl
theorem d_fieldAddr (s : TypeId) (x : Operand) (f : Nat) : dval P ⟨dst, .fieldAddr s x f, ty, pos, af, g⟩ (Sta.mk e n H L tr st) K = need (tyd P s) fun d => need (fieldOf d f) fun fl => need (tyd P fl.type) fun fd => fd.size ≠ 0 ∧ match (Sta.mk e n H L tr st).eval x with
    | .cptr cs => K (.cptr (cs.drop fl.offset))
    | .bptr i o => K (.bptr i (o + fl.offset))
    | _ => False := rfl
theorem d_field (s : TypeId) (x : Operand) (f : Nat) : dval P ⟨dst, .field s x f, ty, pos, af, g⟩ (Sta.mk e n H L tr st) K = need (tyd P s) fun d => need (fieldOf d f) fun fl => need (tyd P fl.type) fun fd => match (Sta.mk e n H L tr st).eval x with
    | .agg cs => (fd.agg = true ∨ fd.size = 1) ∧ fl.offset + fd.size ≤ cs.length ∧ K (packed fd ((cs.drop fl.offset).take fd.size))
    | _ => False := rfl
theorem d_indexAddr (t : TypeId) (x i : Operand) : dval P ⟨dst, .indexAddr t x i, ty, pos, af, g⟩ (Sta.mk e n H L tr st) K = need (tyd P t) fun d => need (Abs.elemOf d) fun e' => need (tyd P e') fun ed => match (Sta.mk e n H L tr st).eval x, (Sta.mk e n H L tr st).eval i with
    | .sl _ xs, .lit (.int _ i) => 0 ≤ i ∧ i < (xs.length : Int) ∧ ∀ x, xs[i.toNat]? = some x → x.flat.length = ed.size ∧ K (.cptr x.flat)
    | .bsl b off len _, .lit (.int _ i) => 0 ≤ i ∧ i < (len : Int) ∧ K (.bptr b (off + i.toNat * ed.size))
    | _, _ => False := rfl
theorem d_index (t : TypeId) (x i : Operand) : dval P ⟨dst, .index t x i, ty, pos, af, g⟩ (Sta.mk e n H L tr st) K = need (tyd P t) fun d => match (Sta.mk e n H L tr st).eval x, (Sta.mk e n H L tr st).eval i with
    | .lit (.string s), .lit (.int _ i) => d.desc = .string ∧ 0 ≤ i ∧ i < (s.size : Int) ∧ K (.lit (.int .u8 ((s.data.getD i.toNat 0).toNat : Int)))
    | _, _ => False := rfl
theorem d_extract (x : Operand) (i : Nat) : dval P ⟨dst, .extract x i, ty, pos, af, g⟩ (Sta.mk e n H L tr st) K = (match (Sta.mk e n H L tr st).eval x with
    | .tup vs => i < vs.length ∧ K (vs.getD i .undef)
    | _ => False) := rfl
theorem d_call (f : Operand) (args : Array Operand) (ats : Array TypeId) : dval P ⟨dst, .call ⟨.value f, args, ats⟩, ty, pos, af, g⟩ (Sta.mk e n H L tr st) K = (match (Sta.mk e n H L tr st).eval f with
      | .clo g caps => dclo P (Sta.mk e n H L tr st) g (args.toList.map (Sta.mk e n H L tr st).eval ++ caps) K
      | _ => False) := rfl
theorem d_len (x : Operand) (t : TypeId) : dval P ⟨dst, .call ⟨.builtin .len, #[x], #[t]⟩, ty, pos, af, g⟩ (Sta.mk e n H L tr st) K = need (tyd P t) fun d => match (Sta.mk e n H L tr st).eval x with
        | .sl _ xs => (Abs.elemOf d).isSome = true ∧ K (.lit (.int .i64 xs.length))
        | .lit (.string s) => d.desc = .string ∧ K (.lit (.int .i64 s.size))
        | .bsl _ _ len _ => (Abs.elemOf d).isSome = true ∧ K (.lit (.int .i64 len))
        | _ => False := rfl
end
section
variable (K : AV → Prop) (P : Program) (t : TypeId)
theorem d_bin_add (k k' : IntKind) (x y : Int) : dbin P t .add (.lit (.int k x)) (.lit (.int k' y)) K = (k = k' ∧ K (.lit (.int k (k.wrap (x + y))))) := by simp only [dbin, isShift, vbin, Bool.false_eq_true, if_false]
theorem d_bin_sub (k k' : IntKind) (x y : Int) : dbin P t .sub (.lit (.int k x)) (.lit (.int k' y)) K = (k = k' ∧ K (.lit (.int k (k.wrap (x - y))))) := by simp only [dbin, isShift, vbin, Bool.false_eq_true, if_false]
theorem d_bin_mul (k k' : IntKind) (x y : Int) : dbin P t .mul (.lit (.int k x)) (.lit (.int k' y)) K = (k = k' ∧ K (.lit (.int k (k.wrap (x * y))))) := by simp only [dbin, isShift, vbin, Bool.false_eq_true, if_false]
theorem d_bin_quo (k k' : IntKind) (x y : Int) : dbin P t .quo (.lit (.int k x)) (.lit (.int k' y)) K = (k = k' ∧ y ≠ 0 ∧ K (.lit (.int k (k.wrap (x.tdiv y))))) := by simp only [dbin, isShift, vbin, Bool.false_eq_true, if_false]
theorem d_bin_rem (k k' : IntKind) (x y : Int) : dbin P t .rem (.lit (.int k x)) (.lit (.int k' y)) K = (k = k' ∧ y ≠ 0 ∧ K (.lit (.int k (x.tmod y)))) := by simp only [dbin, isShift, vbin, Bool.false_eq_true, if_false]
theorem d_bin_eql (k k' : IntKind) (x y : Int) : dbin P t .eql (.lit (.int k x)) (.lit (.int k' y)) K = (k = k' ∧ K (.lit (.bool (decide (x = y))))) := by simp only [dbin, isShift, vbin, Bool.false_eq_true, if_false]
theorem d_bin_neq (k k' : IntKind) (x y : Int) : dbin P t .neq (.lit (.int k x)) (.lit (.int k' y)) K = (k = k' ∧ K (.lit (.bool (decide (x ≠ y))))) := by simp only [dbin, isShift, vbin, Bool.false_eq_true, if_false]
theorem d_bin_lss (k k' : IntKind) (x y : Int) : dbin P t .lss (.lit (.int k x)) (.lit (.int k' y)) K = (k = k' ∧ K (.lit (.bool (decide (x < y))))) := by simp only [dbin, isShift, vbin, Bool.false_eq_true, if_false]
theorem d_bin_leq (k k' : IntKind) (x y : Int) : dbin P t .leq (.lit (.int k x)) (.lit (.int k' y)) K = (k = k' ∧ K (.lit (.bool (decide (x ≤ y))))) := by simp only [dbin, isShift, vbin, Bool.false_eq_true, if_false]
theorem d_bin_gtr (k k' : IntKind) (x y : Int) : dbin P t .gtr (.lit (.int k x)) (.lit (.int k' y)) K = (k = k' ∧ K (.lit (.bool (decide (y < x))))) := by simp only [dbin, isShift, vbin, Bool.false_eq_true, if_false]
theorem d_bin_geq (k k' : IntKind) (x y : Int) : dbin P t .geq (.lit (.int k x)) (.lit (.int k' y)) K = (k = k' ∧ K (.lit (.bool (decide (y ≤ x))))) := by simp only [dbin, isShift, vbin, Bool.false_eq_true, if_false]
theorem d_binb (op : BinOp) (x y : Bool) : dbin P t op (.lit (.bool x)) (.lit (.bool y)) K = (need (tyd P t) fun d => need (eqop op) fun f => need (eqV d.desc (.bool x) (.bool y)) fun r => K (.lit (.bool (f r)))) := rfl
theorem d_bins_add (x y : ByteArray) : dbin P t .add (.lit (.string x)) (.lit (.string y)) K = (x.size + y.size ≤ maxN ∧ K (.lit (.string (x ++ y)))) := rfl
theorem d_bins_eql (x y : ByteArray) : dbin P t .eql (.lit (.string x)) (.lit (.string y)) K = K (.lit (.bool (x.toList == y.toList))) := rfl
theorem d_bins_neq (x y : ByteArray) : dbin P t .neq (.lit (.string x)) (.lit (.string y)) K = K (.lit (.bool !(x.toList == y.toList))) := rfl
theorem d_bins_lss (x y : ByteArray) : dbin P t .lss (.lit (.string x)) (.lit (.string y)) K = K (.lit (.bool (slt x y))) := rfl
theorem d_bins_leq (x y : ByteArray) : dbin P t .leq (.lit (.string x)) (.lit (.string y)) K = K (.lit (.bool (slt x y || x.toList == y.toList))) := rfl
theorem d_bins_gtr (x y : ByteArray) : dbin P t .gtr (.lit (.string x)) (.lit (.string y)) K = K (.lit (.bool !(slt x y || x.toList == y.toList))) := rfl
theorem d_bins_geq (x y : ByteArray) : dbin P t .geq (.lit (.string x)) (.lit (.string y)) K = K (.lit (.bool !(slt x y))) := rfl
theorem d_bin_agg (op : BinOp) (cs ds : List AV) : dbin P t op (.agg cs) (.agg ds) K = (eqOK P t = true ∧ need (eqop op) fun f => need (tyd P t) fun d => need (fieldsOf d) fun fs => need (eqFs P 0 fs cs ds) fun r => K (.lit (.bool (f r)))) := rfl
end
section
variable (P : Program) (e : Nat → AV) (n : Nat) (H : List BoxC) (L : List Bool) (tr : List (List AV)) (st : Bool)
theorem a_app (d : Option Tmp) (x y : Operand) (t u : TypeId) (ty : TypeId) (p : String) (af : Array Edge) (K : AV → List Bool → Prop) : dapp P ⟨d, .call ⟨.builtin .append, #[x, y], #[t, u]⟩, ty, p, af, none⟩ (Sta.mk e n H L tr st) K = (match (Sta.mk e n H L tr st).eval x, (Sta.mk e n H L tr st).eval y with
      | .sl ow xs, .sl _ ys => need (tyd P t) fun d => need (Abs.elemOf d) fun e' => need (tyd P u) fun du => need (Abs.elemOf du) fun _ => need (tyd P e') fun ed => need ed.zero fun z =>
        z.cells.size = ed.size ∧ OwnLive L ed.size ow ∧ (∀ x, x ∈ xs → x.flat.length = ed.size) ∧ (∀ y, y ∈ ys → y.flat.length = ed.size) ∧ xs.length + ys.length ≤ maxN ∧ (xs.length + ys.length) * ed.bytes ≤ maxN ∧
        K (.sl (.st L.length ed.size) (xs ++ ys)) (kill L (stampO ow) ++ [true])
      | _, _ => False) := rfl
end
end Go.Abs
