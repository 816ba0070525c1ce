/- The computing of conditions, equation by equation: each speaks of a state that is written out, so that nothing is reckoned under a binder. -/
import Derived.Test.YtlcajocjiehplaaZzVc
set_option linter.unusedVariables false
set_option linter.unusedSimpArgs false
namespace Go.Abs
open Go Go.RowKit

def upd (e : Nat → AV) (n d : Nat) (x : AV) : Nat → AV := fun t => if t = d ∧ d < n then x else e t
theorem upd_same {e : Nat → AV} {n d : Nat} {x : AV} (h : d < n) : upd e n d x d = x := by simp [upd, h]
theorem upd_other {e : Nat → AV} {n d i : Nat} {x : AV} (h : i ≠ d) : upd e n d x i = e i := by simp [upd, h]

/-- One of two, whichever it is: not reckoned ahead. -/
def gif (b : Bool) (x y : Sta → Prop) (σ : Sta) : Prop := (b = true → x σ) ∧ (b = false → y σ)
theorem gif_true (x y : Sta → Prop) (σ : Sta) : gif true x y σ = x σ := by simp [gif]
theorem gif_false (x y : Sta → Prop) (σ : Sta) : gif false x y σ = y σ := by simp [gif]
theorem gif_split {b : Bool} {x y : Sta → Prop} {σ : Sta} (h : b = true → x σ) (k : b = false → y σ) : gif b x y σ := ⟨h, k⟩
def skp (d : Option Tmp) (K : Sta → Prop) (σ : Sta) : Prop := K (σ.put d (.tup []))

section
variable (P : Program) (C : Ctx P) (e : Nat → AV) (n : Nat) (H : List BoxC) (L : List Bool) (tr : List (List AV)) (st : Bool) (Q : Exit → Sta → Prop) (K : Sta → Prop)

theorem x_seq (a b : Code) : vc P C (.seq a b) Q (Sta.mk e n H L tr st) = vc P C a (thn (vc P C b Q) Q) (Sta.mk e n H L tr st) := rfl
theorem x_skip : vc P C .skip Q (Sta.mk e n H L tr st) = Q .normal (Sta.mk e n H L tr st) := rfl
theorem x_region (id : Nat) (ops : List Oper) : vc P C (.region id ops.toArray false) Q (Sta.mk e n H L tr st) = vops P C ops ops (Q .normal) (Sta.mk e n H L tr st) := by simp [vc]
theorem x_region_draw (id : Nat) (ops : Array Oper) : vc P C (.region id ops true) Q (Sta.mk e n H L tr st) = awp C (.region id ops true) Q (Sta.mk e n H L tr st) := by simp [vc]
theorem x_cond_c (c : Operand) (a b : Code) : vc P C (.cond c a b) Q (Sta.mk e n H L tr st) = (match (Sta.mk e n H L tr st).eval c with
    | .lit (.bool t) => (t = true → vc P C a Q (Sta.mk e n H L tr st)) ∧ (t = false → vc P C b Q (Sta.mk e n H L tr st))
    | _ => False) := rfl
theorem x_block (id : Nat) (b : Code) : vc P C (.block id b) Q (Sta.mk e n H L tr st) = vc P C b (inBlk id Q) (Sta.mk e n H L tr st) := rfl
theorem x_loop (b : Code) : vc P C (.loop b) Q (Sta.mk e n H L tr st) = awp C (.loop b) Q (Sta.mk e n H L tr st) := rfl
theorem x_range (f : Operand) (ps : Array Tmp) (a b : Code) : vc P C (.rangeFunc f ps a b) Q (Sta.mk e n H L tr st) = awp C (.rangeFunc f ps a b) Q (Sta.mk e n H L tr st) := rfl
theorem x_exit (id : Nat) : vc P C (.exit id) Q (Sta.mk e n H L tr st) = Q (.exit id) (Sta.mk e n H L tr st) := rfl
theorem x_ret : vc P C .ret Q (Sta.mk e n H L tr st) = Q .ret (Sta.mk e n H L tr st) := rfl
theorem x_thn_n : thn K Q .normal (Sta.mk e n H L tr st) = K (Sta.mk e n H L tr st) := rfl
theorem x_thn_e (i : Nat) : thn K Q (.exit i) (Sta.mk e n H L tr st) = Q (.exit i) (Sta.mk e n H L tr st) := rfl
theorem x_thn_r : thn K Q .ret (Sta.mk e n H L tr st) = Q .ret (Sta.mk e n H L tr st) := rfl
theorem x_blk_n (id : Nat) : inBlk id Q .normal (Sta.mk e n H L tr st) = Q .normal (Sta.mk e n H L tr st) := rfl
theorem x_blk_r (id : Nat) : inBlk id Q .ret (Sta.mk e n H L tr st) = Q .ret (Sta.mk e n H L tr st) := rfl
theorem x_blk_same (id : Nat) : inBlk id Q (.exit id) (Sta.mk e n H L tr st) = Q .normal (Sta.mk e n H L tr st) := by simp [inBlk]
theorem x_blk_other (id i : Nat) (h : i ≠ id) : inBlk id Q (.exit i) (Sta.mk e n H L tr st) = Q (.exit i) (Sta.mk e n H L tr st) := by simp [inBlk, h]

theorem x_nil (ops : List Oper) : vops P C ops [] K (Sta.mk e n H L tr st) = K (Sta.mk e n H L tr st) := rfl
theorem x_cons (ops l : List Oper) (d : Option Tmp) (op : Op) (t : TypeId) (p : String) (af : Array Edge) :
    vops P C ops (⟨d, op, t, p, af, none⟩ :: l) K (Sta.mk e n H L tr st) = vop P C ⟨d, op, t, p, af, none⟩ (vops P C ops l K) (Sta.mk e n H L tr st) := rfl
theorem x_guard_t (ops l : List Oper) (d : Option Tmp) (op : Op) (t : TypeId) (p : String) (af : Array Edge) (j : Nat) :
    vops P C ops (⟨d, op, t, p, af, some (j, true)⟩ :: l) K (Sta.mk e n H L tr st) = (match (ops[j]?).bind (·.dst) with
      | some t' => t' < n ∧ match e t' with
        | .lit (.bool b) => gif b (vop P C ⟨d, op, t, p, af, some (j, true)⟩ (vops P C ops l K)) (skp d (vops P C ops l K)) (Sta.mk e n H L tr st)
        | .tup [] => skp d (vops P C ops l K) (Sta.mk e n H L tr st)
        | _ => False
      | none => False) := by simp [vops, gif, skp, Sta.get]; rfl
theorem x_guard_f (ops l : List Oper) (d : Option Tmp) (op : Op) (t : TypeId) (p : String) (af : Array Edge) (j : Nat) :
    vops P C ops (⟨d, op, t, p, af, some (j, false)⟩ :: l) K (Sta.mk e n H L tr st) = (match (ops[j]?).bind (·.dst) with
      | some t' => t' < n ∧ match e t' with
        | .lit (.bool b) => gif b (skp d (vops P C ops l K)) (vop P C ⟨d, op, t, p, af, some (j, false)⟩ (vops P C ops l K)) (Sta.mk e n H L tr st)
        | .tup [] => skp d (vops P C ops l K) (Sta.mk e n H L tr st)
        | _ => False
      | none => False) := by simp [vops, gif, skp, Sta.get, and_comm]; rfl

theorem x_skp (d : Option Tmp) : skp d K (Sta.mk e n H L tr st) = K ((Sta.mk e n H L tr st).put d (.tup [])) := rfl
theorem x_put (d : Nat) (x : AV) : (Sta.mk e n H L tr st).put (some d) x = Sta.mk (upd e n d x) n H L tr st := rfl
theorem x_put_none (x : AV) : (Sta.mk e n H L tr st).put none x = Sta.mk e n H L tr st := rfl
theorem x_tmp (t : Nat) : (Sta.mk e n H L tr st).eval (.tmp t) = e t := rfl
theorem x_const (v : Value) : (Sta.mk e n H L tr st).eval (.const v) = cav v := rfl
theorem x_func (f : Nat) : (Sta.mk e n H L tr st).eval (.func f) = .clo f [] := rfl
theorem x_get (t : Nat) : (Sta.mk e n H L tr st).get t = e t := rfl

variable (dst : Option Tmp) (ty : TypeId) (pos : String) (af : Array Edge) (g : Option (Nat × Bool))
theorem x_move (x : Operand) : vop P C ⟨dst, .move x, ty, pos, af, g⟩ K (Sta.mk e n H L tr st) = K ((Sta.mk e n H L tr st).put dst ((Sta.mk e n H L tr st).eval x)) := rfl
theorem x_assign (x : Operand) : vop P C ⟨dst, .assign x, ty, pos, af, g⟩ K (Sta.mk e n H L tr st) = K ((Sta.mk e n H L tr st).put dst ((Sta.mk e n H L tr st).eval x)) := rfl
theorem x_pick (c x y : Operand) : vop P C ⟨dst, .pick c x y, ty, pos, af, g⟩ K (Sta.mk e n H L tr st) = (match (Sta.mk e n H L tr st).eval c with
    | .lit (.bool b) => K ((Sta.mk e n H L tr st).put dst (if b = true then (Sta.mk e n H L tr st).eval x else (Sta.mk e n H L tr st).eval y))
    | _ => False) := rfl
theorem x_alloc (t : TypeId) : vop P C ⟨dst, .alloc t, ty, pos, af, g⟩ K (Sta.mk e n H L tr st) = need (tyd P t) fun d => need d.zero fun z => (z.cells.toList.all fun v => v.oneCell') = true ∧ K ((Sta.mk e n (H ++ [BoxC.mk (z.cells.toList.map cav) true]) L tr st).put dst (.bptr H.length 0)) := rfl
theorem x_box (t : TypeId) (x : Operand) : vop P C ⟨dst, .box t x, ty, pos, af, g⟩ K (Sta.mk e n H L tr st) = (storable ((Sta.mk e n H L tr st).eval x) = true ∧ K ((Sta.mk e n (H ++ [BoxC.mk ((Sta.mk e n H L tr st).eval x).flat true]) L tr st).put dst (.bptr H.length 0))) := rfl
theorem x_build (t : TypeId) (parts : Array (Nat × Operand)) : vop P C ⟨dst, .build t parts, ty, pos, af, g⟩ K (Sta.mk e n H L tr st) = need (tyd P t) fun d => need d.zero fun z => need (fieldsOf d) fun fs => need (placesOf P fs) fun ps => (z.cells.toList.all fun v => v.oneCell') = true ∧
      need (afill (ps[·]?) (z.cells.toList.map cav) (parts.toList.map fun x => (x.1, (Sta.mk e n H L tr st).eval x.2))) fun cs => K ((Sta.mk e n H L tr st).put dst (.agg cs)) := rfl
theorem x_buildSlice (t : TypeId) (m : Nat) (parts : Array (Nat × Operand)) : vop P C ⟨dst, .buildSlice t m parts, ty, pos, af, g⟩ K (Sta.mk e n H L tr st) = need (tyd P t) fun d => need (Abs.elemOf d) fun e' => need (tyd P e') fun ed => need ed.zero fun z => z.cells.size = ed.size ∧ 0 < ed.size ∧ (z.cells.toList.all fun v => v.oneCell') = true ∧ m * ed.size ≤ 2 ^ 24 ∧
      parts.toList.map Prod.fst = List.range m ∧ (∀ x, x ∈ parts.toList.map (fun x => (Sta.mk e n H L tr st).eval x.2) → storable x = true ∧ x.flat.length = ed.size) ∧ if C.own (dst.getD 0) = true then K ((Sta.mk e n (H ++ [BoxC.mk (flats (parts.toList.map fun (x : Nat × Operand) => (Sta.mk e n H L tr st).eval x.2)) true]) L tr st).put dst (.bsl H.length 0 m m)) else K ((Sta.mk e n H L tr st).put dst (.sl .full (parts.toList.map fun x => ((Sta.mk e n H L tr st).eval x.2).weak))) := rfl
theorem x_load (t : TypeId) (x : Operand) : vop P C ⟨dst, .load t x, ty, pos, af, g⟩ K (Sta.mk e n H L tr st) = need (tyd P t) fun d => vload d dst ((Sta.mk e n H L tr st).eval x) K (Sta.mk e n H L tr st) := rfl
theorem x_store (t : TypeId) (x y : Operand) : vop P C ⟨dst, .store t x y, ty, pos, af, g⟩ K (Sta.mk e n H L tr st) = need (tyd P t) fun d => vstore d dst ((Sta.mk e n H L tr st).eval x) ((Sta.mk e n H L tr st).eval y) K (Sta.mk e n H L tr st) := rfl
theorem x_binOp (op : BinOp) (t u : TypeId) (x y : Operand) : vop P C ⟨dst, .binOp op t x y u, ty, pos, af, g⟩ K (Sta.mk e n H L tr st) = if isNilSl y = true then need (tyd P t) fun d => (Abs.elemOf d).isSome = true ∧ need (eqop op) fun f => vnil f dst ((Sta.mk e n H L tr st).eval x) K (Sta.mk e n H L tr st) else vbinop P t op dst ((Sta.mk e n H L tr st).eval x) ((Sta.mk e n H L tr st).eval y) K (Sta.mk e n H L tr st) := rfl
theorem x_unOp (op : UnOp) (t : TypeId) (x : Operand) : vop P C ⟨dst, .unOp op t x, ty, pos, af, g⟩ K (Sta.mk e n H L tr st) = (match (Sta.mk e n H L tr st).eval x with
    | .lit v => need (aun op v) fun u => K ((Sta.mk e n H L tr st).put dst (.lit u))
    | _ => False) := rfl
theorem x_convert (s d : TypeId) (x : Operand) : vop P C ⟨dst, .convert s d x, ty, pos, af, g⟩ K (Sta.mk e n H L tr st) = need (tyd P s) fun _ => need (tyd P d) fun dd => match (Sta.mk e n H L tr st).eval x with
    | .lit (.int _ m) => match dd.desc with
      | .int k' => K ((Sta.mk e n H L tr st).put dst (.lit (.int k' (k'.wrap m))))
      | _ => False
    | .lit (.string b) => dd.desc = .string ∧ K ((Sta.mk e n H L tr st).put dst (.lit (.string b)))
    | _ => False := rfl
theorem x_iface (t : TypeId) (x : Operand) : vop P C ⟨dst, .makeInterface t x, ty, pos, af, g⟩ K (Sta.mk e n H L tr st) = need (tyd P t) fun d => isIface d.desc = false ∧ K ((Sta.mk e n H L tr st).put dst (.iface t ((Sta.mk e n H L tr st).eval x).weak)) := rfl
theorem x_makeFunc (f : FuncId) (first caps : Array Operand) : vop P C ⟨dst, .makeFunc (.func f) first caps, ty, pos, af, g⟩ K (Sta.mk e n H L tr st) = (first.toList = [] ∧ K ((freezeAll (Sta.mk e n H L tr st) (caps.toList.map (Sta.mk e n H L tr st).eval)).put dst (.clo f (caps.toList.map fun x => capt (freezeAll (Sta.mk e n H L tr st) (caps.toList.map (Sta.mk e n H L tr st).eval)) ((freezeAll (Sta.mk e n H L tr st) (caps.toList.map (Sta.mk e n H L tr st).eval)).eval x))))) := rfl
theorem x_slice (t : TypeId) (x : Operand) (lo hi : Option Operand) : vop P C ⟨dst, .slice t x lo hi none, ty, pos, af, g⟩ K (Sta.mk e n H L tr st) = need (tyd P t) fun d => vslice P d dst ((Sta.mk e n H L tr st).eval x) lo hi K (Sta.mk e n H L tr st) := rfl
theorem x_fieldAddr (s : TypeId) (x : Operand) (f : Nat) : vop P C ⟨dst, .fieldAddr s x f, ty, pos, af, g⟩ K (Sta.mk e n H L tr st) = need (tyd P s) fun d => need (fieldOf d f) fun fl => need (tyd P fl.type) fun fd => fd.size ≠ 0 ∧ vfieldAddr fl.offset dst ((Sta.mk e n H L tr st).eval x) K (Sta.mk e n H L tr st) := rfl
theorem x_field (s : TypeId) (x : Operand) (f : Nat) : vop P C ⟨dst, .field s x f, ty, pos, af, g⟩ K (Sta.mk e n H L tr st) = need (tyd P s) fun d => need (fieldOf d f) fun fl => need (tyd P fl.type) fun fd => match (Sta.mk e n H L tr st).eval x with
    | .agg cs => (fd.agg = true ∨ fd.size = 1) ∧ fl.offset + fd.size ≤ cs.length ∧ K ((Sta.mk e n H L tr st).put dst (packed fd ((cs.drop fl.offset).take fd.size)))
    | _ => False := rfl
theorem x_indexAddr (t : TypeId) (x i : Operand) : vop P C ⟨dst, .indexAddr t x i, ty, pos, af, g⟩ K (Sta.mk e n H L tr st) = need (tyd P t) fun d => need (Abs.elemOf d) fun e' => need (tyd P e') fun ed => vindexAddr ed.size dst ((Sta.mk e n H L tr st).eval x) ((Sta.mk e n H L tr st).eval i) K (Sta.mk e n H L tr st) := rfl
theorem x_index (t : TypeId) (x i : Operand) : vop P C ⟨dst, .index t x i, ty, pos, af, g⟩ K (Sta.mk e n H L tr st) = need (tyd P t) fun d => match (Sta.mk e n H L tr st).eval x, (Sta.mk e n H L tr st).eval i with
    | .lit (.string s), .lit (.int _ i) => d.desc = .string ∧ 0 ≤ i ∧ i < (s.size : Int) ∧ K ((Sta.mk e n H L tr st).put dst (.lit (.int .u8 ((s.data.getD i.toNat 0).toNat : Int))))
    | _, _ => False := rfl
theorem x_extract (x : Operand) (i : Nat) : vop P C ⟨dst, .extract x i, ty, pos, af, g⟩ K (Sta.mk e n H L tr st) = (match (Sta.mk e n H L tr st).eval x with
    | .tup vs => i < vs.length ∧ K ((Sta.mk e n H L tr st).put dst (vs.getD i .undef))
    | _ => False) := rfl
theorem x_call (f : Operand) (args : Array Operand) (ats : Array TypeId) : vop P C ⟨dst, .call ⟨.value f, args, ats⟩, ty, pos, af, g⟩ K (Sta.mk e n H L tr st) = vcall P C ((Sta.mk e n H L tr st).eval f) (args.toList.map (Sta.mk e n H L tr st).eval) dst K (Sta.mk e n H L tr st) := rfl
theorem x_append (x y : Operand) (t u : TypeId) : vop P C ⟨dst, .call ⟨.builtin .append, #[x, y], #[t, u]⟩, ty, pos, af, g⟩ K (Sta.mk e n H L tr st) = vapp P C t u dst ((Sta.mk e n H L tr st).eval x) ((Sta.mk e n H L tr st).eval y) K (Sta.mk e n H L tr st) := rfl
theorem x_copy (x y : Operand) (t u : TypeId) : vop P C ⟨dst, .call ⟨.builtin .copy, #[x, y], #[t, u]⟩, ty, pos, af, g⟩ K (Sta.mk e n H L tr st) = vcopy P t dst ((Sta.mk e n H L tr st).eval x) ((Sta.mk e n H L tr st).eval y) K (Sta.mk e n H L tr st) := rfl
theorem x_cap (x : Operand) (t : TypeId) : vop P C ⟨dst, .call ⟨.builtin .cap, #[x], #[t]⟩, ty, pos, af, g⟩ K (Sta.mk e n H L tr st) = need (tyd P t) fun d => vcap d dst ((Sta.mk e n H L tr st).eval x) K (Sta.mk e n H L tr st) := rfl
theorem x_app_if (t u : TypeId) (d : Tmp) (x y : AV) : vapp P C t u (some d) x y K (Sta.mk e n H L tr st) = if C.own d = true then vappendB P t u (some d) x y K (Sta.mk e n H L tr st) else vappend P t u (some d) x y K (Sta.mk e n H L tr st) := rfl
theorem x_own_p (S0 : Shadow) (w0 : World) (ow : Nat → Bool) (d : Nat) : (pureCtx P S0 w0 ow).own d = ow d := rfl
theorem x_own_m (S0 : Shadow) (w0 : World) (bs : List Nat) (d : Nat) : (mutCtx P S0 w0 bs).own d = true := rfl
theorem x_appB (t u : TypeId) (x y : AV) : vappendB P t u dst x y K (Sta.mk e n H L tr st) = (need (tyd P t) fun d => need (Abs.elemOf d) fun e' => need (tyd P u) fun du => need (tyd P e') fun ed => need ed.zero fun z => z.cells.size = ed.size ∧ (z.cells.toList.all fun v => v.oneCell') = true ∧
    vsrc (Sta.mk e n H L tr st) ed.size x fun n' cx => Dst x n' ∧
      match y with
      | .lit (.int .i64 m) => isInt du = true ∧ 0 < ed.size ∧ 0 < m ∧ (n' : Int) + m ≤ maxN ∧ ((n' : Int) + m) * ed.bytes ≤ maxN ∧ (∀ i off cap, x = .bsl i off n' cap → (cap : Int) < n' + m) ∧
          ∀ cap' k, n' + m.toNat ≤ cap' → k = (cap' - n') * ed.size → K ((Sta.mk e n (H ++ [BoxC.mk (cx ++ List.replicate k AV.undef) true]) L tr st).put dst (.bsl H.length 0 (n' + m.toNat) cap'))
      | _ => need (Abs.elemOf du) fun _ => vsrc (Sta.mk e n H L tr st) ed.size y fun m cy => n' + m ≤ maxN ∧ (n' + m) * ed.bytes ≤ maxN ∧
          (m = 0 → K ((Sta.mk e n H L tr st).put dst x)) ∧
          (0 < m → ∀ i off cap, x = .bsl i off n' cap → n' + m ≤ cap → ∃ bc, H[i]? = some bc ∧ bc.wr = true ∧ off + (n' + m) * ed.size ≤ bc.cells.length ∧
            K ((Sta.mk e n (H.set i (BoxC.mk (splice bc.cells (off + n' * ed.size) cy) true)) L tr st).put dst (.bsl i off (n' + m) cap))) ∧
          (0 < m → (∀ i off cap, x = .bsl i off n' cap → cap < n' + m) → ∀ cap' k, n' + m ≤ cap' → k = (cap' - (n' + m)) * ed.size → K ((Sta.mk e n (H ++ [BoxC.mk (cx ++ cy ++ List.replicate k AV.undef) true]) L tr st).put dst (.bsl H.length 0 (n' + m) cap')))) := rfl
theorem x_vsrc_sl (z : Nat) (ow : Own) (ys : List AV) (f : Nat → List AV → Prop) : vsrc (Sta.mk e n H L tr st) z (.sl ow ys) f = ((∀ x, x ∈ ys → x.flat.length = z) ∧ f ys.length (flats ys)) := rfl
theorem x_vsrc_b (z i off len cap : Nat) (f : Nat → List AV → Prop) : vsrc (Sta.mk e n H L tr st) z (.bsl i off len cap) f = (match H[i]? with
    | some bc => off + len * z ≤ bc.cells.length ∧ f len ((bc.cells.drop off).take (len * z))
    | none => False) := rfl
theorem x_dst_sl (xs : List AV) (m : Nat) : Dst (.sl .full xs) m = True := rfl
theorem x_dst_b (i off len cap : Nat) (m : Nat) : Dst (.bsl i off len cap) m = (len = m) := rfl
theorem x_copy_b (t : TypeId) (i off len cap : Nat) (y : AV) : vcopy P t dst (.bsl i off len cap) y K (Sta.mk e n H L tr st) = need (tyd P t) fun d => need (Abs.elemOf d) fun e' => need (tyd P e') fun ed => vsrc (Sta.mk e n H L tr st) ed.size y fun m cy => need H[i]? fun bc => bc.wr = true ∧ off + len * ed.size ≤ bc.cells.length ∧
      K ((Sta.mk e n (H.set i (BoxC.mk (splice bc.cells off (cy.take (min m len * ed.size))) true)) L tr st).put dst (.lit (.int .i64 ((min m len : Nat) : Int)))) := rfl
theorem x_cap_b (d : TyD) (i off len cap : Nat) : vcap d dst (.bsl i off len cap) K (Sta.mk e n H L tr st) = ((Abs.elemOf d).isSome = true ∧ (len ≤ cap → cap ≤ maxLen → K ((Sta.mk e n H L tr st).put dst (.lit (.int .i64 cap))))) := rfl
theorem x_len_b (d : TyD) (i off len cap : Nat) : vlen d dst (.bsl i off len cap) K (Sta.mk e n H L tr st) = ((Abs.elemOf d).isSome = true ∧ (len ≤ maxN → len ≤ cap → K ((Sta.mk e n H L tr st).put dst (.lit (.int .i64 len))))) := rfl
theorem x_ia_b (size b off len cap : Nat) (k : IntKind) (i : Int) : vindexAddr size dst (.bsl b off len cap) (.lit (.int k i)) K (Sta.mk e n H L tr st) = (0 ≤ i ∧ i < (len : Int) ∧ K ((Sta.mk e n H L tr st).put dst (.bptr b (off + i.toNat * size)))) := rfl
theorem x_slice_b (d : TyD) (b off len cap : Nat) (lo hi : Option Operand) : vslice P d dst (.bsl b off len cap) lo hi K (Sta.mk e n H L tr st) = need (Abs.elemOf d) fun e' => need (tyd P e') fun ed => need (bound lo (Sta.mk e n H L tr st) 0) fun l => need (bound hi (Sta.mk e n H L tr st) len) fun h => l ≤ h ∧ h ≤ cap ∧ h ≤ maxN ∧ ∀ off', (l < cap → off' = off + l * ed.size) → K ((Sta.mk e n H L tr st).put dst (.bsl b off' (h - l) (cap - l))) := rfl
theorem x_len (x : Operand) (t : TypeId) : vop P C ⟨dst, .call ⟨.builtin .len, #[x], #[t]⟩, ty, pos, af, g⟩ K (Sta.mk e n H L tr st) = need (tyd P t) fun d => vlen d dst ((Sta.mk e n H L tr st).eval x) K (Sta.mk e n H L tr st) := rfl
theorem x_max (x y : Operand) (ts : Array TypeId) : vop P C ⟨dst, .call ⟨.builtin .max, #[x, y], ts⟩, ty, pos, af, g⟩ K (Sta.mk e n H L tr st) = vminmax gmax dst ((Sta.mk e n H L tr st).eval x) ((Sta.mk e n H L tr st).eval y) K (Sta.mk e n H L tr st) := rfl
theorem x_min (x y : Operand) (ts : Array TypeId) : vop P C ⟨dst, .call ⟨.builtin .min, #[x, y], ts⟩, ty, pos, af, g⟩ K (Sta.mk e n H L tr st) = vminmax gmin dst ((Sta.mk e n H L tr st).eval x) ((Sta.mk e n H L tr st).eval y) K (Sta.mk e n H L tr st) := rfl

theorem x_binb (op : BinOp) (t : TypeId) (x y : Bool) : vbinop P t op dst (.lit (.bool x)) (.lit (.bool y)) K (Sta.mk e n H L tr st) = (need (tyd P t) fun d => need (eqop op) fun f => need (eqV d.desc (.bool x) (.bool y)) fun r => K ((Sta.mk e n H L tr st).put dst (.lit (.bool (f r))))) := rfl
theorem x_bin_add (t : TypeId) (k k' : IntKind) (x y : Int) : vbinop P t .add dst (.lit (.int k x)) (.lit (.int k' y)) K (Sta.mk e n H L tr st) = (k = k' ∧ K ((Sta.mk e n H L tr st).put dst (.lit (.int k (k.wrap (x + y)))))) := by simp only [vbinop, isShift, vbin, Bool.false_eq_true, if_false]
theorem x_bin_sub (t : TypeId) (k k' : IntKind) (x y : Int) : vbinop P t .sub dst (.lit (.int k x)) (.lit (.int k' y)) K (Sta.mk e n H L tr st) = (k = k' ∧ K ((Sta.mk e n H L tr st).put dst (.lit (.int k (k.wrap (x - y)))))) := by simp only [vbinop, isShift, vbin, Bool.false_eq_true, if_false]
theorem x_bin_mul (t : TypeId) (k k' : IntKind) (x y : Int) : vbinop P t .mul dst (.lit (.int k x)) (.lit (.int k' y)) K (Sta.mk e n H L tr st) = (k = k' ∧ K ((Sta.mk e n H L tr st).put dst (.lit (.int k (k.wrap (x * y)))))) := by simp only [vbinop, isShift, vbin, Bool.false_eq_true, if_false]
theorem x_bin_quo (t : TypeId) (k k' : IntKind) (x y : Int) : vbinop P t .quo dst (.lit (.int k x)) (.lit (.int k' y)) K (Sta.mk e n H L tr st) = (k = k' ∧ y ≠ 0 ∧ K ((Sta.mk e n H L tr st).put dst (.lit (.int k (k.wrap (x.tdiv y)))))) := by simp only [vbinop, isShift, vbin, Bool.false_eq_true, if_false]
theorem x_bin_rem (t : TypeId) (k k' : IntKind) (x y : Int) : vbinop P t .rem dst (.lit (.int k x)) (.lit (.int k' y)) K (Sta.mk e n H L tr st) = (k = k' ∧ y ≠ 0 ∧ K ((Sta.mk e n H L tr st).put dst (.lit (.int k (x.tmod y))))) := by simp only [vbinop, isShift, vbin, Bool.false_eq_true, if_false]
theorem x_bin_and (t : TypeId) (k k' : IntKind) (x y : Int) : vbinop P t .and dst (.lit (.int k x)) (.lit (.int k' y)) K (Sta.mk e n H L tr st) = (k = k' ∧ K ((Sta.mk e n H L tr st).put dst (.lit (.int k (k.wrap (BitVec.ofInt k.bits x &&& BitVec.ofInt k.bits y).toNat))))) := by simp only [vbinop, isShift, vbin, Bool.false_eq_true, if_false]
theorem x_bin_or (t : TypeId) (k k' : IntKind) (x y : Int) : vbinop P t .or dst (.lit (.int k x)) (.lit (.int k' y)) K (Sta.mk e n H L tr st) = (k = k' ∧ K ((Sta.mk e n H L tr st).put dst (.lit (.int k (k.wrap (BitVec.ofInt k.bits x ||| BitVec.ofInt k.bits y).toNat))))) := by simp only [vbinop, isShift, vbin, Bool.false_eq_true, if_false]
theorem x_bin_xor (t : TypeId) (k k' : IntKind) (x y : Int) : vbinop P t .xor dst (.lit (.int k x)) (.lit (.int k' y)) K (Sta.mk e n H L tr st) = (k = k' ∧ K ((Sta.mk e n H L tr st).put dst (.lit (.int k (k.wrap (BitVec.ofInt k.bits x ^^^ BitVec.ofInt k.bits y).toNat))))) := by simp only [vbinop, isShift, vbin, Bool.false_eq_true, if_false]
theorem x_bin_eql (t : TypeId) (k k' : IntKind) (x y : Int) : vbinop P t .eql dst (.lit (.int k x)) (.lit (.int k' y)) K (Sta.mk e n H L tr st) = (k = k' ∧ K ((Sta.mk e n H L tr st).put dst (.lit (.bool (decide (x = y)))))) := by simp only [vbinop, isShift, vbin, Bool.false_eq_true, if_false]
theorem x_bin_neq (t : TypeId) (k k' : IntKind) (x y : Int) : vbinop P t .neq dst (.lit (.int k x)) (.lit (.int k' y)) K (Sta.mk e n H L tr st) = (k = k' ∧ K ((Sta.mk e n H L tr st).put dst (.lit (.bool (decide (x ≠ y)))))) := by simp only [vbinop, isShift, vbin, Bool.false_eq_true, if_false]
theorem x_bin_lss (t : TypeId) (k k' : IntKind) (x y : Int) : vbinop P t .lss dst (.lit (.int k x)) (.lit (.int k' y)) K (Sta.mk e n H L tr st) = (k = k' ∧ K ((Sta.mk e n H L tr st).put dst (.lit (.bool (decide (x < y)))))) := by simp only [vbinop, isShift, vbin, Bool.false_eq_true, if_false]
theorem x_bin_leq (t : TypeId) (k k' : IntKind) (x y : Int) : vbinop P t .leq dst (.lit (.int k x)) (.lit (.int k' y)) K (Sta.mk e n H L tr st) = (k = k' ∧ K ((Sta.mk e n H L tr st).put dst (.lit (.bool (decide (x ≤ y)))))) := by simp only [vbinop, isShift, vbin, Bool.false_eq_true, if_false]
theorem x_bin_gtr (t : TypeId) (k k' : IntKind) (x y : Int) : vbinop P t .gtr dst (.lit (.int k x)) (.lit (.int k' y)) K (Sta.mk e n H L tr st) = (k = k' ∧ K ((Sta.mk e n H L tr st).put dst (.lit (.bool (decide (y < x)))))) := by simp only [vbinop, isShift, vbin, Bool.false_eq_true, if_false]
theorem x_bin_geq (t : TypeId) (k k' : IntKind) (x y : Int) : vbinop P t .geq dst (.lit (.int k x)) (.lit (.int k' y)) K (Sta.mk e n H L tr st) = (k = k' ∧ K ((Sta.mk e n H L tr st).put dst (.lit (.bool (decide (y ≤ x)))))) := by simp only [vbinop, isShift, vbin, Bool.false_eq_true, if_false]
theorem x_bin_shl (t : TypeId) (k k' : IntKind) (x y : Int) : vbinop P t .shl dst (.lit (.int k x)) (.lit (.int k' y)) K (Sta.mk e n H L tr st) = (0 ≤ y ∧ K ((Sta.mk e n H L tr st).put dst (.lit (.int k (k.wrap (x * 2 ^ (min y.toNat k.bits))))))) := by simp only [vbinop, isShift, vshift, if_true]
theorem x_bin_shr (t : TypeId) (k k' : IntKind) (x y : Int) : vbinop P t .shr dst (.lit (.int k x)) (.lit (.int k' y)) K (Sta.mk e n H L tr st) = (0 ≤ y ∧ K ((Sta.mk e n H L tr st).put dst (.lit (.int k (x.fdiv (2 ^ (min y.toNat k.bits))))))) := by simp only [vbinop, isShift, vshift, if_true]
theorem x_bins_add (t : TypeId) (x y : ByteArray) : vbinop P t .add dst (.lit (.string x)) (.lit (.string y)) K (Sta.mk e n H L tr st) = (x.size + y.size ≤ maxN ∧ K ((Sta.mk e n H L tr st).put dst (.lit (.string (x ++ y))))) := rfl
theorem x_bins_eql (t : TypeId) (x y : ByteArray) : vbinop P t .eql dst (.lit (.string x)) (.lit (.string y)) K (Sta.mk e n H L tr st) = (K ((Sta.mk e n H L tr st).put dst (.lit (.bool (x.toList == y.toList))))) := rfl
theorem x_bins_neq (t : TypeId) (x y : ByteArray) : vbinop P t .neq dst (.lit (.string x)) (.lit (.string y)) K (Sta.mk e n H L tr st) = (K ((Sta.mk e n H L tr st).put dst (.lit (.bool !(x.toList == y.toList))))) := rfl
theorem x_bins_lss (t : TypeId) (x y : ByteArray) : vbinop P t .lss dst (.lit (.string x)) (.lit (.string y)) K (Sta.mk e n H L tr st) = (K ((Sta.mk e n H L tr st).put dst (.lit (.bool (slt x y))))) := rfl
theorem x_bins_leq (t : TypeId) (x y : ByteArray) : vbinop P t .leq dst (.lit (.string x)) (.lit (.string y)) K (Sta.mk e n H L tr st) = (K ((Sta.mk e n H L tr st).put dst (.lit (.bool (slt x y || x.toList == y.toList))))) := rfl
theorem x_bins_gtr (t : TypeId) (x y : ByteArray) : vbinop P t .gtr dst (.lit (.string x)) (.lit (.string y)) K (Sta.mk e n H L tr st) = (K ((Sta.mk e n H L tr st).put dst (.lit (.bool !(slt x y || x.toList == y.toList))))) := rfl
theorem x_bins_geq (t : TypeId) (x y : ByteArray) : vbinop P t .geq dst (.lit (.string x)) (.lit (.string y)) K (Sta.mk e n H L tr st) = (K ((Sta.mk e n H L tr st).put dst (.lit (.bool !(slt x y))))) := rfl
theorem x_load_c (d : TyD) (cs : List AV) : vload d dst (.cptr cs) K (Sta.mk e n H L tr st) = ((d.agg = true ∨ d.size = 1) ∧ d.size ≤ cs.length ∧ K ((Sta.mk e n H L tr st).put dst (packed d (cs.take d.size)))) := rfl
theorem x_load_b (d : TyD) (i off : Nat) : vload d dst (.bptr i off) K (Sta.mk e n H L tr st) = need H[i]? fun bc => (d.agg = true ∨ d.size = 1) ∧ off + d.size ≤ bc.cells.length ∧ K ((Sta.mk e n H L tr st).put dst (packed d ((bc.cells.drop off).take d.size))) := rfl
theorem x_store_b (d : TyD) (i off : Nat) (y : AV) : vstore d dst (.bptr i off) y K (Sta.mk e n H L tr st) = need H[i]? fun bc => bc.wr = true ∧ storable y = true ∧ y.flat.length = d.size ∧ off + d.size ≤ bc.cells.length ∧ K ((Sta.mk e n (H.set i (BoxC.mk (splice bc.cells off y.flat) true)) L tr st).put dst .undef) := rfl
theorem x_fa_c (off : Nat) (cs : List AV) : vfieldAddr off dst (.cptr cs) K (Sta.mk e n H L tr st) = K ((Sta.mk e n H L tr st).put dst (.cptr (cs.drop off))) := rfl
theorem x_fa_b (off i o : Nat) : vfieldAddr off dst (.bptr i o) K (Sta.mk e n H L tr st) = K ((Sta.mk e n H L tr st).put dst (.bptr i (o + off))) := rfl
theorem x_ia (size : Nat) (ow : Own) (xs : List AV) (k : IntKind) (i : Int) : vindexAddr size dst (.sl ow xs) (.lit (.int k i)) K (Sta.mk e n H L tr st) = (0 ≤ i ∧ i < (xs.length : Int) ∧ ∀ x, xs[i.toNat]? = some x → x.flat.length = size ∧ K ((Sta.mk e n H L tr st).put dst (.cptr x.flat))) := rfl
theorem x_slice_str (d : TyD) (s : ByteArray) (lo hi : Option Operand) : vslice P d dst (.lit (.string s)) lo hi K (Sta.mk e n H L tr st) = (d.desc = .string ∧ need (bound lo (Sta.mk e n H L tr st) 0) fun l => need (bound hi (Sta.mk e n H L tr st) s.size) fun h => l ≤ h ∧ h ≤ s.size ∧ K ((Sta.mk e n H L tr st).put dst (.lit (.string (s.extract l h))))) := rfl
theorem x_slice_sl (d : TyD) (ow : Own) (xs : List AV) (lo hi : Option Operand) : vslice P d dst (.sl ow xs) lo hi K (Sta.mk e n H L tr st) = need (Abs.elemOf d) fun e' => need (tyd P e') fun ed => need (bound lo (Sta.mk e n H L tr st) 0) fun l => need (bound hi (Sta.mk e n H L tr st) xs.length) fun h => l ≤ h ∧ h ≤ xs.length ∧ (∀ x, x ∈ xs → x.flat.length = ed.size) ∧ K ((Sta.mk e n H L tr st).put dst (.sl .no ((xs.drop l).take (h - l)))) := rfl
theorem x_app (t u : TypeId) (ow owy : Own) (xs ys : List AV) : vappend P t u dst (.sl ow xs) (.sl owy ys) K (Sta.mk e n H L tr st) = need (tyd P t) fun d => need (Abs.elemOf d) fun e' => need (tyd P u) fun du => need (Abs.elemOf du) fun _ => need (tyd P e') fun ed => need ed.zero fun z =>
    z.cells.size = ed.size ∧ OwnLive L ed.size ow ∧ (∀ x, x ∈ xs → x.flat.length = ed.size) ∧ (∀ y, y ∈ ys → y.flat.length = ed.size) ∧ xs.length + ys.length ≤ maxN ∧ (xs.length + ys.length) * ed.bytes ≤ maxN ∧
    K ((Sta.mk e n H (kill L (stampO ow) ++ [true]) tr st).put dst (.sl (.st L.length ed.size) (xs ++ ys))) := rfl
theorem x_len_sl (d : TyD) (ow : Own) (xs : List AV) : vlen d dst (.sl ow xs) K (Sta.mk e n H L tr st) = ((Abs.elemOf d).isSome = true ∧ (xs.length ≤ maxN → K ((Sta.mk e n H L tr st).put dst (.lit (.int .i64 xs.length))))) := rfl
theorem x_len_s (d : TyD) (s : ByteArray) : vlen d dst (.lit (.string s)) K (Sta.mk e n H L tr st) = (d.desc = .string ∧ (s.size ≤ maxN → K ((Sta.mk e n H L tr st).put dst (.lit (.int .i64 s.size))))) := rfl
theorem x_mm (f : Int → Int → Int) (k k' : IntKind) (x y : Int) : vminmax f dst (.lit (.int k x)) (.lit (.int k' y)) K (Sta.mk e n H L tr st) = (k = k' ∧ K ((Sta.mk e n H L tr st).put dst (.lit (.int k (f x y))))) := rfl
theorem x_call_f (f : FuncId) (caps args : List AV) : vcall P C (.clo f caps) args dst K (Sta.mk e n H L tr st) = vclo P f (args ++ caps) dst K (Sta.mk e n H L tr st) := rfl
theorem x_call_y (args : List AV) : vcall P C .yld args dst K (Sta.mk e n H L tr st) = (st = false ∧ C.may tr (args.map AV.weak) ∧ ∀ b, K ((Sta.mk e n H L (tr ++ [args.map AV.weak]) (!b)).put dst (.lit (.bool b)))) := rfl
theorem x_retq (fn : Func) (R : AV → Prop) (ex : Exit) : RetQ P fn R ex (Sta.mk e n H L tr st) = ((ex = .normal ∨ ex = .ret) ∧ ∃ l, fn.results.toList.mapM (resAV P (Sta.mk e n H L tr st)) = some l ∧ R (oneOf l)) := rfl
theorem x_res_t (t : Nat) : resAV P (Sta.mk e n H L tr st) (.tmp t) = some (e t).weak := rfl
theorem x_mutq (fn : Func) (k : Nat) (R : List (List AV) → AV → Prop) (ex : Exit) : MutQ P fn k R ex (Sta.mk e n H L tr st) = ((ex = .normal ∨ ex = .ret) ∧ ∃ l ex' H', fn.results.toList.mapM (resAVu P (Sta.mk e n H L tr st)) = some l ∧ ex'.Nodup ∧ (∀ i, i ∈ ex' → k ≤ i) ∧ Hands (Sta.mk e n H L tr st) (List.range k ++ ex') H' ∧ R H' ((oneOf l).ren (ixOf (List.range k ++ ex')))) := rfl
theorem x_resu_t (t : Nat) : resAVu P (Sta.mk e n H L tr st) (.tmp t) = some (e t) := rfl
theorem x_staM (H0 : List (List AV)) (args : List AV) (n : Nat) : staM H0 args n = Sta.mk (fun t => args.getD t .undef) (max args.length n) (H0.map fun cs => BoxC.mk cs true) [] [] false := rfl
theorem x_res_c (t : Nat) (ty : TypeId) : resAV P (Sta.mk e n H L tr st) (.cell t ty) = (match e t, tyd P ty with
    | .bptr i off, some d =>
      match H[i]? with
      | some bc => if (d.agg = true ∨ d.size = 1) ∧ off + d.size ≤ bc.cells.length then some (packed d ((bc.cells.drop off).take d.size)).weak else none
      | none => none
    | _, _ => none) := rfl
theorem x_sta0 (args : List AV) (n : Nat) : sta0 args n = Sta.mk (fun t => args.getD t .undef) (max args.length n) [] [] [] false := rfl
theorem x_bin_agg (t : TypeId) (op : BinOp) (cs ds : List AV) : vbinop P t op dst (.agg cs) (.agg ds) K (Sta.mk e n H L tr st) = (eqOK P t = true ∧ need (eqop op) fun f => need (tyd P t) fun d => need (fieldsOf d) fun fs => need (eqFs P 0 fs cs ds) fun r => K ((Sta.mk e n H L tr st).put dst (.lit (.bool (f r))))) := rfl
theorem x_nil_b (f : Bool → Bool) (i off len cap : Nat) : vnil f dst (.bsl i off len cap) K (Sta.mk e n H L tr st) = K ((Sta.mk e n H L tr st).put dst (.lit (.bool (f false)))) := rfl
theorem x_nil_c (f : Bool → Bool) (ow : Own) (x : AV) (xs : List AV) : vnil f dst (.sl ow (x :: xs)) K (Sta.mk e n H L tr st) = K ((Sta.mk e n H L tr st).put dst (.lit (.bool (f false)))) := rfl
theorem x_nil_n (f : Bool → Bool) (ow : Own) : vnil f dst (.sl ow []) K (Sta.mk e n H L tr st) = ∀ b, K ((Sta.mk e n H L tr st).put dst (.lit (.bool b))) := rfl
theorem x_nsl_t (k : Nat) : isNilSl (.tmp k) = false := rfl
theorem x_nsl_n : isNilSl (.const (.slice none 0 0)) = true := rfl
theorem x_nsl_i (k : IntKind) (m : Int) : isNilSl (.const (.int k m)) = false := rfl
theorem x_nsl_s (s : ByteArray) : isNilSl (.const (.string s)) = false := rfl
theorem x_nsl_b (b : Bool) : isNilSl (.const (.bool b)) = false := rfl
theorem x_nsl_e : isNilSl (.const .nilIface) = false := rfl
theorem x_nsl_p (b : Option Addr) : isNilSl (.const (.pointer b)) = false := rfl
theorem x_eqop_eql : eqop .eql = some id := rfl
theorem x_eqop_neq : eqop .neq = some not := rfl
theorem x_eqf_nil (k : Nat) : eqFs P k [] [] [] = some true := rfl
theorem x_eqf (k : Nat) (nm : String) (ty : TypeId) (of : Nat) (em : Bool) (tg : String) (pk : String) (bo : Nat) (fs : List Field) (a b : Value) (as bs : List AV) : eqFs P k (⟨nm, ty, of, em, tg, pk, bo⟩ :: fs) (.lit a :: as) (.lit b :: bs) = if (nm == "_") = false ∧ of = k then (tyd P ty).bind fun d => if d.agg = false ∧ d.size = 1 then (eqV d.desc a b).bind fun r => (eqFs P (k + 1) fs as bs).map (r && ·) else none else none := rfl
theorem x_eqv_int (k0 k k' : IntKind) (x y : Int) : eqV (.int k0) (.int k x) (.int k' y) = if k = k' then some (x == y) else none := rfl
theorem x_eqv_str (x y : ByteArray) : eqV .string (.string x) (.string y) = some (x.toList == y.toList) := rfl
theorem x_eqv_bool (x y : Bool) : eqV .bool (.bool x) (.bool y) = some (x == y) := rfl
end

/-! ### What is not to be reckoned ahead -/
@[congr] theorem need_congr {α : Type} {x y : Option α} {f : α → Prop} (h : x = y) : need x f = need y f := by rw [h]
@[congr] theorem vbin_congr {op : BinOp} {k : IntKind} {x y x' y' : Int} {K : Value → Prop} (h : x = x') (h' : y = y') : vbin op k x y K = vbin op k x' y' K := by rw [h, h']
@[congr] theorem vshift_congr {op : BinOp} {k : IntKind} {x y x' y' : Int} {K : Value → Prop} (h : x = x') (h' : y = y') : vshift op k x y K = vshift op k x' y' K := by rw [h, h']
@[congr] theorem vbinS_congr {op : BinOp} {x y x' y' : ByteArray} {K : Value → Prop} (h : x = x') (h' : y = y') : vbinS op x y K = vbinS op x' y' K := by rw [h, h']

theorem x_elem_s (s b : Nat) (g : Bool) (e : TypeId) (z : Option Value) : Abs.elemOf ⟨s, b, g, .slice e, z⟩ = some e := rfl
theorem x_field_s (s b : Nat) (g : Bool) (l : List Field) (z : Option Value) (f : Nat) : fieldOf ⟨s, b, g, .struct l.toArray, z⟩ f = l[f]? := by simp [fieldOf]
theorem x_fields_s (s b : Nat) (g : Bool) (l : List Field) (z : Option Value) : fieldsOf ⟨s, b, g, .struct l.toArray, z⟩ = some l := rfl
theorem x_pl_nil (P : Program) : placesOf P [] = some [] := rfl
theorem x_pl_cons (P : Program) (f : Field) (fs : List Field) {d : TyD} (h : tyd P f.type = some d) : placesOf P (f :: fs) = (placesOf P fs).map ((f.offset, d.size) :: ·) := by
  simp only [placesOf, List.mapM_cons, h, Option.map_some]
  cases fs.mapM fun f => (tyd P f.type).map fun d => (f.offset, d.size) <;> rfl
theorem x_pack_a (s b : Nat) (t : TypeDesc) (z : Option Value) (cs : List AV) : packed ⟨s, b, true, t, z⟩ cs = .agg cs := rfl
theorem x_pack_1 (s b : Nat) (t : TypeDesc) (z : Option Value) (cs : List AV) : packed ⟨s, b, false, t, z⟩ cs = cs.getD 0 .undef := rfl

/-! ### Constants -/
theorem cav_nil : cav (.slice none 0 0) = .sl .full [] := rfl
theorem cav_bool (b : Bool) : cav (.bool b) = .lit (.bool b) := rfl
theorem cav_int (k : IntKind) (m : Int) (h : litOKb (.int k m) = true) : cav (.int k m) = .lit (.int k m) := by simp [cav, h]
theorem cav_str (s : ByteArray) (h : s.size ≤ maxN) : cav (.string s) = .lit (.string s) := by simp [cav, litOKb, h]
theorem cav_ptr : cav (.pointer none) = .lit (.pointer none) := rfl
theorem cav_nili : cav .nilIface = .lit .nilIface := rfl
theorem cav_nilf : cav .nilFunc = .lit .nilFunc := rfl
theorem ok_i64 (m : Int) : litOKb (.int .i64 m) = (decide (-9223372036854775808 ≤ m) && decide (m ≤ 9223372036854775807)) := by
  have e1 : IntKind.i64.min = -9223372036854775808 := by decide
  have e2 : IntKind.i64.max = 9223372036854775807 := by decide
  simp only [litOKb, e1, e2]
theorem ok_u64 (m : Int) : litOKb (.int .u64 m) = (decide (0 ≤ m) && decide (m ≤ 18446744073709551615)) := by
  have e1 : IntKind.u64.min = 0 := by decide
  have e2 : IntKind.u64.max = 18446744073709551615 := by decide
  simp only [litOKb, e1, e2]
theorem ok_u8 (m : Int) : litOKb (.int .u8 m) = (decide (0 ≤ m) && decide (m ≤ 255)) := by
  have e1 : IntKind.u8.min = 0 := by decide
  have e2 : IntKind.u8.max = 255 := by decide
  simp only [litOKb, e1, e2]
theorem ok_u32 (m : Int) : litOKb (.int .u32 m) = (decide (0 ≤ m) && decide (m ≤ 4294967295)) := by
  have e1 : IntKind.u32.min = 0 := by decide
  have e2 : IntKind.u32.max = 4294967295 := by decide
  simp only [litOKb, e1, e2]
theorem ok_i32 (m : Int) : litOKb (.int .i32 m) = (decide (-2147483648 ≤ m) && decide (m ≤ 2147483647)) := by
  have e1 : IntKind.i32.min = -2147483648 := by decide
  have e2 : IntKind.i32.max = 2147483647 := by decide
  simp only [litOKb, e1, e2]
theorem zc_agg (l : List Value) : (Value.agg l.toArray).cells.toList = l := rfl
theorem zc_int (k : IntKind) (n : Int) : (Value.int k n).cells.toList = [Value.int k n] := rfl
theorem zc_str (s : ByteArray) : (Value.string s).cells.toList = [Value.string s] := rfl
theorem zc_bool (b : Bool) : (Value.bool b).cells.toList = [Value.bool b] := rfl
theorem zc_slice (b : Option Addr) (l c : Nat) : (Value.slice b l c).cells.toList = [Value.slice b l c] := rfl
theorem zc_ptr (b : Option Addr) : (Value.pointer b).cells.toList = [Value.pointer b] := rfl
theorem zc_nili : Value.nilIface.cells.toList = [Value.nilIface] := rfl
theorem zc_nilf : Value.nilFunc.cells.toList = [Value.nilFunc] := rfl
theorem zc_map (m : Option Nat) : (Value.map m).cells.toList = [Value.map m] := rfl
theorem zs_agg (l : List Value) : (Value.agg l.toArray).cells.size = l.length := rfl
theorem zs_int (k : IntKind) (n : Int) : (Value.int k n).cells.size = 1 := rfl
theorem zs_str (s : ByteArray) : (Value.string s).cells.size = 1 := rfl
theorem zs_bool (b : Bool) : (Value.bool b).cells.size = 1 := rfl
theorem zs_slice (b : Option Addr) (l c : Nat) : (Value.slice b l c).cells.size = 1 := rfl
theorem zs_ptr (b : Option Addr) : (Value.pointer b).cells.size = 1 := rfl
theorem zs_nili : Value.nilIface.cells.size = 1 := rfl
theorem zo_int (k : IntKind) (n : Int) : (Value.int k n).oneCell' = true := rfl
theorem zo_str (s : ByteArray) : (Value.string s).oneCell' = true := rfl
theorem zo_bool (b : Bool) : (Value.bool b).oneCell' = true := rfl
theorem zo_slice (b : Option Addr) (l c : Nat) : (Value.slice b l c).oneCell' = true := rfl
theorem zo_ptr (b : Option Addr) : (Value.pointer b).oneCell' = true := rfl
theorem zo_nili : Value.nilIface.oneCell' = true := rfl
theorem zo_nilf : Value.nilFunc.oneCell' = true := rfl
theorem zo_map (m : Option Nat) : (Value.map m).oneCell' = true := rfl
theorem cav_map (m : Option Nat) : cav (.map m) = .lit (.map m) := rfl
theorem cav_empty : cav (.string ByteArray.empty) = .lit (.string ByteArray.empty) := rfl
theorem x_range0 : List.range 0 = [] := rfl
theorem x_range1 : List.range 1 = [0] := rfl
theorem x_range2 : List.range 2 = [0, 1] := rfl
theorem x_range3 : List.range 3 = [0, 1, 2] := rfl
theorem x_range4 : List.range 4 = [0, 1, 2, 3] := rfl
end Go.Abs
