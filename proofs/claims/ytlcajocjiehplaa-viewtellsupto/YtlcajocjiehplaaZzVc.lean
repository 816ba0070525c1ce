/- Conditions of code, by computation; that they serve. -/
import Derived.Test.YtlcajocjiehplaaZzMut4
import Derived.Test.YtlcajocjiehplaaZzEq
set_option linter.unusedVariables false
set_option linter.unusedSimpArgs false
namespace Go.Abs
open Go Go.RowKit

def need {α : Type} (x : Option α) (f : α → Prop) : Prop :=
  match x with
  | some a => f a
  | none => False
theorem need_some {α : Type} (a : α) (f : α → Prop) : need (some a) f = f a := rfl
theorem need_none {α : Type} (f : α → Prop) : need none f = False := rfl
theorem need_iff {α : Type} {x : Option α} {f : α → Prop} : need x f ↔ ∃ a, x = some a ∧ f a := by
  cases x <;> simp [need]

def vbin (op : BinOp) (k : IntKind) (x y : Int) (K : Value → Prop) : Prop :=
  match op with
  | .add => K (.int k (k.wrap (x + y)))
  | .sub => K (.int k (k.wrap (x - y)))
  | .mul => K (.int k (k.wrap (x * y)))
  | .quo => y ≠ 0 ∧ K (.int k (k.wrap (x.tdiv y)))
  | .rem => y ≠ 0 ∧ K (.int k (x.tmod y))
  | .and => K (.int k (k.wrap (BitVec.ofInt k.bits x &&& BitVec.ofInt k.bits y).toNat))
  | .or => K (.int k (k.wrap (BitVec.ofInt k.bits x ||| BitVec.ofInt k.bits y).toNat))
  | .xor => K (.int k (k.wrap (BitVec.ofInt k.bits x ^^^ BitVec.ofInt k.bits y).toNat))
  | .eql => K (.bool (decide (x = y)))
  | .neq => K (.bool (decide (x ≠ y)))
  | .lss => K (.bool (decide (x < y)))
  | .leq => K (.bool (decide (x ≤ y)))
  | .gtr => K (.bool (decide (y < x)))
  | .geq => K (.bool (decide (y ≤ x)))
  | _ => False
theorem vbin_sound {op : BinOp} {k : IntKind} {x y : Int} {K : Value → Prop} (h : vbin op k x y K) : ∃ v, abin op k x y = some v ∧ K v := by
  cases op <;> simp only [vbin, abin] at h ⊢
  all_goals first
    | exact ⟨_, rfl, h⟩
    | exact ⟨_, rfl, by rw [show (x != y) = decide (x ≠ y) by by_cases e : x = y <;> simp [e]]; exact h⟩
    | exact ⟨_, if_neg h.1, h.2⟩
    | exact h.elim
def vshift (op : BinOp) (k : IntKind) (x y : Int) (K : Value → Prop) : Prop :=
  match op with
  | .shl => 0 ≤ y ∧ K (.int k (k.wrap (x * 2 ^ (min y.toNat k.bits))))
  | .shr => 0 ≤ y ∧ K (.int k (x.fdiv (2 ^ (min y.toNat k.bits))))
  | _ => False
theorem vshift_sound {op : BinOp} {k : IntKind} {x y : Int} {K : Value → Prop} (h : vshift op k x y K) : ∃ v, ashift op k x y = some v ∧ K v := by
  cases op <;> simp only [vshift, ashift] at h ⊢
  all_goals first
    | exact h.elim
    | exact ⟨_, by rw [if_neg (by omega)], h.2⟩
def vbinS (op : BinOp) (x y : ByteArray) (K : Value → Prop) : Prop :=
  match op with
  | .add => x.size + y.size ≤ maxN ∧ K (.string (x ++ y))
  | .eql => K (.bool (x.toList == y.toList))
  | .neq => K (.bool !(x.toList == y.toList))
  | .lss => K (.bool (slt x y))
  | .leq => K (.bool (slt x y || x.toList == y.toList))
  | .gtr => K (.bool !(slt x y || x.toList == y.toList))
  | .geq => K (.bool !(slt x y))
  | _ => False

def isShift : BinOp → Bool
  | .shl | .shr => true
  | _ => false

section
variable (P : Program) (C : Ctx P)

def vbinop (t : TypeId) (op : BinOp) (dst : Option Tmp) (x y : AV) (K : Sta → Prop) (σ : Sta) : Prop :=
  match x, y with
  | .lit (.int k x), .lit (.int k' y) => if isShift op = true then vshift op k x y (fun v => K (σ.put dst (.lit v))) else k = k' ∧ vbin op k x y (fun v => K (σ.put dst (.lit v)))
  | .lit (.string x), .lit (.string y) => vbinS op x y (fun v => K (σ.put dst (.lit v)))
  | .lit (.bool x), .lit (.bool y) => need (tyd P t) fun d => need (eqop op) fun f => need (eqV d.desc (.bool x) (.bool y)) fun r => K (σ.put dst (.lit (.bool (f r))))
  | .agg cs, .agg ds => eqOK P t = true ∧ need (eqop op) fun f => need (tyd P t) fun d => need (fieldsOf d) fun fs => need (eqFs P 0 fs cs ds) fun r => K (σ.put dst (.lit (.bool (f r))))
  | _, _ => False

def vload (d : TyD) (dst : Option Tmp) (x : AV) (K : Sta → Prop) (σ : Sta) : Prop :=
  match x with
  | .cptr cs => (d.agg = true ∨ d.size = 1) ∧ d.size ≤ cs.length ∧ K (σ.put dst (packed d (cs.take d.size)))
  | .bptr i off => need σ.H[i]? fun bc => (d.agg = true ∨ d.size = 1) ∧ off + d.size ≤ bc.cells.length ∧ K (σ.put dst (packed d ((bc.cells.drop off).take d.size)))
  | _ => False
def vstore (d : TyD) (dst : Option Tmp) (x y : AV) (K : Sta → Prop) (σ : Sta) : Prop :=
  match x with
  | .bptr i off => need σ.H[i]? fun bc => bc.wr = true ∧ storable y = true ∧ y.flat.length = d.size ∧ off + d.size ≤ bc.cells.length ∧ K ({ σ with H := σ.H.set i (BoxC.mk (splice bc.cells off y.flat) true) }.put dst .undef)
  | _ => False
def vfieldAddr (off : Nat) (dst : Option Tmp) (x : AV) (K : Sta → Prop) (σ : Sta) : Prop :=
  match x with
  | .cptr cs => K (σ.put dst (.cptr (cs.drop off)))
  | .bptr i o => K (σ.put dst (.bptr i (o + off)))
  | _ => False
def vindexAddr (size : Nat) (dst : Option Tmp) (x i : AV) (K : Sta → Prop) (σ : Sta) : Prop :=
  match x, i with
  | .sl _ xs, .lit (.int _ i) => 0 ≤ i ∧ i < (xs.length : Int) ∧ ∀ x, xs[i.toNat]? = some x → x.flat.length = size ∧ K (σ.put dst (.cptr x.flat))
  | .bsl b off len _, .lit (.int _ i) => 0 ≤ i ∧ i < (len : Int) ∧ K (σ.put dst (.bptr b (off + i.toNat * size)))
  | _, _ => False
def vslice (d : TyD) (dst : Option Tmp) (x : AV) (lo hi : Option Operand) (K : Sta → Prop) (σ : Sta) : Prop :=
  match x with
  | .lit (.string s) => d.desc = .string ∧ need (bound lo σ 0) fun l => need (bound hi σ s.size) fun h => l ≤ h ∧ h ≤ s.size ∧ K (σ.put dst (.lit (.string (s.extract l h))))
  | .sl _ xs => need (elemOf d) fun e => need (tyd P e) fun ed => need (bound lo σ 0) fun l => need (bound hi σ xs.length) fun h => l ≤ h ∧ h ≤ xs.length ∧ (∀ x, x ∈ xs → x.flat.length = ed.size) ∧ K (σ.put dst (.sl .no ((xs.drop l).take (h - l))))
  | .bsl b off len cap => need (elemOf d) fun e => need (tyd P e) fun ed => need (bound lo σ 0) fun l => need (bound hi σ len) fun h => l ≤ h ∧ h ≤ cap ∧ h ≤ maxN ∧ ∀ off', (l < cap → off' = off + l * ed.size) → K (σ.put dst (.bsl b off' (h - l) (cap - l)))
  | _ => False
def vappend (t u : TypeId) (dst : Option Tmp) (x y : AV) (K : Sta → Prop) (σ : Sta) : Prop :=
  match x, y with
  | .sl ow xs, .sl _ ys => need (tyd P t) fun d => need (elemOf d) fun e => need (tyd P u) fun du => need (elemOf du) fun _ => need (tyd P e) fun ed => need ed.zero fun z =>
    z.cells.size = ed.size ∧ OwnLive σ.L ed.size ow ∧ (∀ x, x ∈ xs → x.flat.length = ed.size) ∧ (∀ y, y ∈ ys → y.flat.length = ed.size) ∧ xs.length + ys.length ≤ maxN ∧ (xs.length + ys.length) * ed.bytes ≤ maxN ∧
    K ({ σ with L := kill σ.L (stampO ow) ++ [true] }.put dst (.sl (.st σ.L.length ed.size) (xs ++ ys)))
  | _, _ => False
def vappendB (t u : TypeId) (dst : Option Tmp) (x y : AV) (K : Sta → Prop) (σ : Sta) : Prop :=
  need (tyd P t) fun d => need (elemOf d) fun e => need (tyd P u) fun du => need (tyd P e) fun ed => need ed.zero fun z => z.cells.size = ed.size ∧ (z.cells.toList.all fun v => v.oneCell') = true ∧
    vsrc σ ed.size x fun n cx => Dst x n ∧
      match y with
      | .lit (.int .i64 m) => isInt du = true ∧ 0 < ed.size ∧ 0 < m ∧ (n : Int) + m ≤ maxN ∧ ((n : Int) + m) * ed.bytes ≤ maxN ∧ (∀ i off cap, x = .bsl i off n cap → (cap : Int) < n + m) ∧
          ∀ cap' k, n + m.toNat ≤ cap' → k = (cap' - n) * ed.size → K ({ σ with H := σ.H ++ [BoxC.mk (cx ++ List.replicate k AV.undef) true] }.put dst (.bsl σ.H.length 0 (n + m.toNat) cap'))
      | _ => need (elemOf du) fun _ => vsrc σ ed.size y fun m cy => n + m ≤ maxN ∧ (n + m) * ed.bytes ≤ maxN ∧
          (m = 0 → K (σ.put dst x)) ∧
          (0 < m → ∀ i off cap, x = .bsl i off n cap → n + m ≤ cap → ∃ bc, σ.H[i]? = some bc ∧ bc.wr = true ∧ off + (n + m) * ed.size ≤ bc.cells.length ∧
            K ({ σ with H := σ.H.set i (BoxC.mk (splice bc.cells (off + n * ed.size) cy) true) }.put dst (.bsl i off (n + m) cap))) ∧
          (0 < m → (∀ i off cap, x = .bsl i off n cap → cap < n + m) → ∀ cap' k, n + m ≤ cap' → k = (cap' - (n + m)) * ed.size → K ({ σ with H := σ.H ++ [BoxC.mk (cx ++ cy ++ List.replicate k AV.undef) true] }.put dst (.bsl σ.H.length 0 (n + m) cap')))
def vapp (t u : TypeId) (dst : Option Tmp) (x y : AV) (K : Sta → Prop) (σ : Sta) : Prop := if C.own (dst.getD 0) = true then vappendB P t u dst x y K σ else vappend P t u dst x y K σ
def vcopy (t : TypeId) (dst : Option Tmp) (x y : AV) (K : Sta → Prop) (σ : Sta) : Prop :=
  match x with
  | .bsl i off len cap => need (tyd P t) fun d => need (elemOf d) fun e => need (tyd P e) fun ed => vsrc σ ed.size y fun m cy => need σ.H[i]? fun bc => bc.wr = true ∧ off + len * ed.size ≤ bc.cells.length ∧
      K ({ σ with H := σ.H.set i (BoxC.mk (splice bc.cells off (cy.take (min m len * ed.size))) true) }.put dst (.lit (.int .i64 ((min m len : Nat) : Int))))
  | _ => False
def vcap (d : TyD) (dst : Option Tmp) (x : AV) (K : Sta → Prop) (σ : Sta) : Prop :=
  match x with
  | .bsl _ _ len cap => (elemOf d).isSome = true ∧ (len ≤ cap → cap ≤ maxLen → K (σ.put dst (.lit (.int .i64 cap))))
  | _ => False
def vlen (d : TyD) (dst : Option Tmp) (x : AV) (K : Sta → Prop) (σ : Sta) : Prop :=
  match x with
  | .sl _ xs => (elemOf d).isSome = true ∧ (xs.length ≤ maxN → K (σ.put dst (.lit (.int .i64 xs.length))))
  | .lit (.string s) => d.desc = .string ∧ (s.size ≤ maxN → K (σ.put dst (.lit (.int .i64 s.size))))
  | .bsl _ _ len cap => (elemOf d).isSome = true ∧ (len ≤ maxN → len ≤ cap → K (σ.put dst (.lit (.int .i64 len))))
  | _ => False
def vminmax (f : Int → Int → Int) (dst : Option Tmp) (x y : AV) (K : Sta → Prop) (σ : Sta) : Prop :=
  match x, y with
  | .lit (.int k x), .lit (.int k' y) => k = k' ∧ K (σ.put dst (.lit (.int k (f x y))))
  | _, _ => False
def gmax (x y : Int) : Int := if y > x then y else x
def gmin (x y : Int) : Int := if y < x then y else x

def freezeAll (σ : Sta) : List AV → Sta
  | [] => σ
  | .bptr i _ :: l =>
    match σ.H[i]? with
    | some bc => freezeAll { σ with H := σ.H.set i ⟨bc.cells.map AV.weak, false⟩ } l
    | none => freezeAll σ l
  | _ :: l => freezeAll σ l

def vcall (f : AV) (args : List AV) (dst : Option Tmp) (K : Sta → Prop) (σ : Sta) : Prop :=
  match f with
  | .clo f caps => vclo P f (args ++ caps) dst K σ
  | .yld => σ.stop = false ∧ C.may σ.tr (args.map AV.weak) ∧ ∀ b, K ({ σ with tr := σ.tr ++ [args.map AV.weak], stop := !b }.put dst (.lit (.bool b)))
  | _ => False

def vop (o : Oper) (K : Sta → Prop) (σ : Sta) : Prop :=
  match o.op with
  | .move x | .assign x => K (σ.put o.dst (σ.eval x))
  | .pick c x y => match σ.eval c with
    | .lit (.bool b) => K (σ.put o.dst (if b = true then σ.eval x else σ.eval y))
    | _ => False
  | .alloc t => need (tyd P t) fun d => need d.zero fun z => (z.cells.toList.all fun v => v.oneCell') = true ∧ K ({ σ with H := σ.H ++ [BoxC.mk (z.cells.toList.map cav) true] }.put o.dst (.bptr σ.H.length 0))
  | .box _ x => storable (σ.eval x) = true ∧ K ({ σ with H := σ.H ++ [BoxC.mk (σ.eval x).flat true] }.put o.dst (.bptr σ.H.length 0))
  | .build t parts => need (tyd P t) fun d => need d.zero fun z => need (fieldsOf d) fun fs => need (placesOf P fs) fun ps => (z.cells.toList.all fun v => v.oneCell') = true ∧
      need (afill (ps[·]?) (z.cells.toList.map cav) (parts.toList.map fun x => (x.1, σ.eval x.2))) fun cs => K (σ.put o.dst (.agg cs))
  | .buildSlice t n parts => need (tyd P t) fun d => need (elemOf d) fun e => need (tyd P e) fun ed => need ed.zero fun z => z.cells.size = ed.size ∧ 0 < ed.size ∧ (z.cells.toList.all fun v => v.oneCell') = true ∧ n * ed.size ≤ 2 ^ 24 ∧
      parts.toList.map Prod.fst = List.range n ∧ (∀ x, x ∈ parts.toList.map (fun x => σ.eval x.2) → storable x = true ∧ x.flat.length = ed.size) ∧ if C.own (o.dst.getD 0) = true then K ({ σ with H := σ.H ++ [BoxC.mk (flats (parts.toList.map fun (x : Nat × Operand) => σ.eval x.2)) true] }.put o.dst (.bsl σ.H.length 0 n n)) else K (σ.put o.dst (.sl .full (parts.toList.map fun x => (σ.eval x.2).weak)))
  | .load t x => need (tyd P t) fun d => vload d o.dst (σ.eval x) K σ
  | .store t x y => need (tyd P t) fun d => vstore d o.dst (σ.eval x) (σ.eval y) K σ
  | .binOp op t x y _ => if isNilSl y = true then need (tyd P t) fun d => (elemOf d).isSome = true ∧ need (eqop op) fun f => vnil f o.dst (σ.eval x) K σ else vbinop P t op o.dst (σ.eval x) (σ.eval y) K σ
  | .unOp op _ x => match σ.eval x with
    | .lit v => need (aun op v) fun u => K (σ.put o.dst (.lit u))
    | _ => False
  | .convert s d x => need (tyd P s) fun _ => need (tyd P d) fun dd => match σ.eval x with
    | .lit (.int _ n) => match dd.desc with
      | .int k' => K (σ.put o.dst (.lit (.int k' (k'.wrap n))))
      | _ => False
    | .lit (.string b) => dd.desc = .string ∧ K (σ.put o.dst (.lit (.string b)))
    | _ => False
  | .makeInterface t x => need (tyd P t) fun d => isIface d.desc = false ∧ K (σ.put o.dst (.iface t (σ.eval x).weak))
  | .makeFunc (.func f) first caps => first.toList = [] ∧ K ((freezeAll σ (caps.toList.map σ.eval)).put o.dst (.clo f (caps.toList.map fun x => capt (freezeAll σ (caps.toList.map σ.eval)) ((freezeAll σ (caps.toList.map σ.eval)).eval x))))
  | .slice t x lo hi none => need (tyd P t) fun d => vslice P d o.dst (σ.eval x) lo hi K σ
  | .fieldAddr s x f => need (tyd P s) fun d => need (fieldOf d f) fun fl => need (tyd P fl.type) fun fd => fd.size ≠ 0 ∧ vfieldAddr fl.offset o.dst (σ.eval x) K σ
  | .field s x f => need (tyd P s) fun d => need (fieldOf d f) fun fl => need (tyd P fl.type) fun fd => match σ.eval x with
    | .agg cs => (fd.agg = true ∨ fd.size = 1) ∧ fl.offset + fd.size ≤ cs.length ∧ K (σ.put o.dst (packed fd ((cs.drop fl.offset).take fd.size)))
    | _ => False
  | .indexAddr t x i => need (tyd P t) fun d => need (elemOf d) fun e => need (tyd P e) fun ed => vindexAddr ed.size o.dst (σ.eval x) (σ.eval i) K σ
  | .index t x i => need (tyd P t) fun d => match σ.eval x, σ.eval i with
    | .lit (.string s), .lit (.int _ i) => d.desc = .string ∧ 0 ≤ i ∧ i < (s.size : Int) ∧ K (σ.put o.dst (.lit (.int .u8 ((s.data.getD i.toNat 0).toNat : Int))))
    | _, _ => False
  | .extract x i => match σ.eval x with
    | .tup vs => i < vs.length ∧ K (σ.put o.dst (vs.getD i .undef))
    | _ => False
  | .call c => match c.callee with
    | .value f => vcall P C (σ.eval f) (c.args.toList.map σ.eval) o.dst K σ
    | .builtin .append => match c.args.toList, c.argTypes.toList with
      | [x, y], [t, u] => vapp P C t u o.dst (σ.eval x) (σ.eval y) K σ
      | _, _ => False
    | .builtin .copy => match c.args.toList, c.argTypes.toList with
      | [x, y], [t, _] => vcopy P t o.dst (σ.eval x) (σ.eval y) K σ
      | _, _ => False
    | .builtin .cap => match c.args.toList, c.argTypes.toList with
      | [x], [t] => need (tyd P t) fun d => vcap d o.dst (σ.eval x) K σ
      | _, _ => False
    | .builtin .len => match c.args.toList, c.argTypes.toList with
      | [x], [t] => need (tyd P t) fun d => vlen d o.dst (σ.eval x) K σ
      | _, _ => False
    | .builtin .max => match c.args.toList with
      | [x, y] => vminmax gmax o.dst (σ.eval x) (σ.eval y) K σ
      | _ => False
    | .builtin .min => match c.args.toList with
      | [x, y] => vminmax gmin o.dst (σ.eval x) (σ.eval y) K σ
      | _ => False
    | _ => False
  | _ => False

def vops (ops : List Oper) : List Oper → (Sta → Prop) → Sta → Prop
  | [], K, σ => K σ
  | o :: l, K, σ =>
    match o.guard with
    | none => vop P C o (vops ops l K) σ
    | some (j, want) =>
      match (ops[j]?).bind (·.dst) with
      | some t => t < σ.n ∧ match σ.get t with
        | .lit (.bool b) => (b = want → vop P C o (vops ops l K) σ) ∧ (b ≠ want → vops ops l K (σ.put o.dst (.tup [])))
        | .tup [] => vops ops l K (σ.put o.dst (.tup []))
        | _ => False
      | none => False

def vc : Code → (Exit → Sta → Prop) → Sta → Prop
  | .skip, Q, σ => Q .normal σ
  | .region id ops draw, Q, σ => if draw = true then awp C (.region id ops draw) Q σ else vops P C ops.toList ops.toList (Q .normal) σ
  | .seq a b, Q, σ => vc a (thn (vc b Q) Q) σ
  | .cond c a b, Q, σ => match σ.eval c with
    | .lit (.bool t) => (t = true → vc a Q σ) ∧ (t = false → vc b Q σ)
    | _ => False
  | .block id b, Q, σ => vc b (inBlk id Q) σ
  | .loop b, Q, σ => awp C (.loop b) Q σ
  | .rangeFunc f ps a b, Q, σ => awp C (.rangeFunc f ps a b) Q σ
  | .exit id, Q, σ => Q (.exit id) σ
  | .ret, Q, σ => Q .ret σ
  | _, _, _ => False
end

section
variable {P : Program} {C : Ctx P} {σ : Sta}

theorem aop_freezeAll {o : Oper} {K : Sta → Prop} : ∀ (l : List AV) (σ : Sta), aop C o K (freezeAll σ l) → aop C o K σ
  | [], σ, h => h
  | x :: l, σ, h => by
    cases x with
    | bptr i off =>
      simp only [freezeAll] at h
      split at h
      · rename_i bc hi
        have ih := aop_freezeAll l _ h
        intro ro n G M a w next Q hs hn
        obtain ⟨G', hs'⟩ := hs.freeze hi
        exact ih ro n G' M a w next Q hs' hn
      · exact aop_freezeAll l σ h
    | _ => exact aop_freezeAll l σ h
theorem freezeAll_env (l : List AV) : ∀ σ : Sta, (freezeAll σ l).eval = σ.eval := by
  induction l with
  | nil => intro σ; rfl
  | cons x l ih =>
    intro σ
    cases x with
    | bptr i off =>
      simp only [freezeAll]
      split
      · rw [ih]; funext x; cases x <;> rfl
      · exact ih σ
    | _ => exact ih σ

theorem vop_sound {o : Oper} {K : Sta → Prop} (h : vop P C o K σ) : aop C o K σ := by
  obtain ⟨dst, op, type, pos, after, guard⟩ := o
  cases op with
  | move x => exact aop_move (.inl rfl) rfl h
  | assign x => exact aop_move (.inr rfl) rfl h
  | pick c x y =>
    simp only [vop] at h
    split at h
    · rename_i b he; exact aop_pick rfl rfl rfl rfl he h
    · exact h.elim
  | alloc t =>
    simp only [vop, need_iff] at h
    obtain ⟨d, h1, z, h2, h3, h4⟩ := h
    exact aop_alloc rfl h1 h2 h3 h4
  | box t x => exact aop_box rfl rfl h.1 h.2
  | build t parts =>
    simp only [vop, need_iff] at h
    obtain ⟨d, h1, z, h2, fs, h3, ps, h4, h5, cs, h6, h7⟩ := h
    exact aop_build rfl (fun _ _ => rfl) h1 h2 h3 h4 h5 h6 h7
  | buildSlice t n parts =>
    simp only [vop, need_iff] at h
    obtain ⟨d, h1, e, h2, ed, h3, z, h4, h5, h6, h7, h8, h9, h10, h11⟩ := h
    split at h11
    · exact aop_buildSlice_b rfl h1 h2 h3 h4 h5 h6 h7 h8 h9 (fun x hx => h10 _ (List.mem_map_of_mem hx)) h11
    · exact aop_buildSlice rfl (fun _ _ => rfl) h1 h2 h3 h4 h5 h6 h7 h8 h9 (fun x hx => h10 _ (List.mem_map_of_mem hx)) h11
  | load t x =>
    simp only [vop, need_iff] at h
    obtain ⟨d, h1, h2⟩ := h
    unfold vload at h2
    split at h2
    · rename_i cs he; exact aop_load_c rfl rfl h1 h2.1 he h2.2.1 h2.2.2
    · rename_i i off he
      obtain ⟨bc, h3, h4⟩ := need_iff.1 h2
      exact aop_load_b rfl rfl h1 h4.1 he h3 h4.2.1 h4.2.2
    · exact h2.elim
  | store t x y =>
    simp only [vop, need_iff] at h
    obtain ⟨d, h1, h2⟩ := h
    unfold vstore at h2
    split at h2
    · rename_i i off he
      obtain ⟨bc, h3, h4, h5, h6, h7, h8⟩ := need_iff.1 h2
      exact aop_store rfl rfl rfl h1 he h3 h4 h5 h6 h7 h8
    · exact h2.elim
  | binOp op t x y yt =>
    simp only [vop] at h
    split at h
    · rename_i hny
      simp only [need_iff] at h
      obtain ⟨d, h1, h2, f, h3, h4⟩ := h
      obtain ⟨e, h5⟩ := Option.isSome_iff_exists.1 h2
      exact aop_nil rfl h3 hny h1 h5 h4
    simp only [vbinop] at h
    split at h
    · rename_i k x' k' y' h1 h2
      split at h
      · obtain ⟨v, e1, e2⟩ := vshift_sound h
        exact aop_shift rfl rfl rfl h1 h2 e1 e2
      · obtain ⟨rfl, h⟩ := h
        obtain ⟨v, e1, e2⟩ := vbin_sound h
        exact aop_bin_int rfl rfl rfl h1 h2 e1 e2
    · rename_i x' y' h1 h2
      cases op <;> simp only [vbinS] at h
      all_goals first
        | exact h.elim
        | exact aop_concat rfl rfl rfl h1 h2 h.1 h.2
        | exact aop_bin_str rfl rfl rfl h1 h2 rfl h
    · rename_i x' y' h1 h2
      simp only [need_iff] at h
      obtain ⟨d, g1, f, g2, r, g3, g6⟩ := h
      exact aop_bin_bool rfl rfl rfl g1 g2 h1 h2 g3 g6
    · rename_i cs ds h1 h2
      simp only [need_iff] at h
      obtain ⟨g1, f, g2, d, g3, fs, g4, r, g5, g6⟩ := h
      exact aop_eq_struct rfl g2 g1 g3 g4 h1 h2 g5 g6
    · exact h.elim
  | unOp op t x =>
    simp only [vop] at h
    split at h
    · rename_i v he
      obtain ⟨u, h1, h2⟩ := need_iff.1 h
      exact aop_un rfl rfl he h1 h2
    · exact h.elim
  | convert s d x =>
    simp only [vop, need_iff] at h
    obtain ⟨ds, h1, dd, h2, h3⟩ := h
    split at h3
    · rename_i k n he
      split at h3
      · rename_i k' hk; exact aop_conv_int rfl rfl he h1 h2 hk h3
      · exact h3.elim
    · rename_i b he; exact aop_conv_same (x := .undef) rfl rfl h1 h2 h3.1 he h3.2
    · exact h3.elim
  | makeInterface t x =>
    simp only [vop, need_iff] at h
    obtain ⟨d, h1, h2, h3⟩ := h
    exact aop_iface rfl rfl h1 h2 h3
  | makeFunc fn first caps =>
    cases fn <;> simp only [vop] at h
    rename_i f
    obtain ⟨h1, h2⟩ := h
    obtain rfl : first = #[] := by apply Array.ext'; simpa using h1
    refine aop_freezeAll (caps.toList.map σ.eval) σ ?_
    exact aop_makeFunc rfl (fun _ _ => rfl) h2
  | slice t x lo hi mx =>
    cases mx with
    | some m => simp only [vop] at h
    | none =>
      simp only [vop, need_iff] at h
      obtain ⟨d, h1, h2⟩ := h
      have ok : ∀ x : Option Operand, ok? x = true := fun x => by cases x <;> rfl
      unfold vslice at h2
      split at h2
      · rename_i s he
        simp only [need_iff] at h2
        obtain ⟨h3, l, h4, g, h5, h6, h7, h8⟩ := h2
        exact aop_slice_str rfl rfl (ok _) (ok _) h1 h3 he h4 h5 h6 h7 h8
      · rename_i ow xs he
        simp only [need_iff] at h2
        obtain ⟨e, h3, ed, h4, l, h5, g, h6, h7, h8, h9, h10⟩ := h2
        exact aop_slice rfl rfl (ok _) (ok _) h1 h3 h4 he h5 h6 h7 h8 h9 h10
      · rename_i b off len cap he
        simp only [need_iff] at h2
        obtain ⟨e, h3, ed, h4, l, h5, g, h6, h7, h8, h9, h10⟩ := h2
        exact aop_slice_b rfl h1 h3 h4 he h5 h6 h7 h8 h9 (h10 _ fun hlt => if_neg (by omega))
      · exact h2.elim
  | fieldAddr s x f =>
    simp only [vop, need_iff] at h
    obtain ⟨d, h1, fl, h2, fd, h3, h4, h5⟩ := h
    unfold vfieldAddr at h5
    split at h5
    · rename_i cs he; exact aop_fieldAddr_c rfl rfl h1 h2 h3 h4 he h5
    · rename_i i off he; exact aop_fieldAddr_b rfl rfl h1 h2 h3 h4 he h5
    · exact h5.elim
  | field s x f =>
    simp only [vop, need_iff] at h
    obtain ⟨d, h1, fl, h2, fd, h3, h4⟩ := h
    split at h4
    · rename_i cs he; exact aop_field rfl rfl h1 h2 h3 h4.1 he h4.2.1 h4.2.2
    · exact h4.elim
  | indexAddr t x i =>
    simp only [vop, need_iff] at h
    obtain ⟨d, h1, e, h2, ed, h3, h4⟩ := h
    unfold vindexAddr at h4
    split at h4
    · rename_i ow xs k i' he hi
      obtain ⟨h5, h6, h7⟩ := h4
      have hlt : i'.toNat < xs.length := by omega
      have h8 := h7 xs[i'.toNat] (List.getElem?_eq_getElem hlt)
      have e1 : xs.getD i'.toNat .undef = xs[i'.toNat] := by rw [List.getD_eq_getElem?_getD, List.getElem?_eq_getElem hlt]; rfl
      exact aop_indexAddr rfl rfl rfl h1 h2 h3 he hi h5 h6 (by rw [e1]; exact h8.1) (by rw [e1]; exact h8.2)
    · rename_i b off len cap k i' he hi
      exact aop_indexAddr_b rfl h1 h2 h3 he hi h4.1 h4.2.1 h4.2.2
    · exact h4.elim
  | index t x i =>
    simp only [vop, need_iff] at h
    obtain ⟨d, h1, h2⟩ := h
    split at h2
    · rename_i s k i' he hi
      obtain ⟨h3, h4, h5, h6⟩ := h2
      exact aop_index_str rfl rfl rfl h1 h3 he hi h4 h5 h6
    · exact h2.elim
  | extract x i =>
    simp only [vop] at h
    split at h
    · rename_i vs he; exact aop_extract rfl rfl he h.1 h.2
    · exact h.elim
  | call c =>
    obtain ⟨callee, args, ats⟩ := c
    cases callee with
    | value f =>
      simp only [vop, vcall] at h
      split at h
      · rename_i f' caps he
        exact aop_vclo rfl he h
      · rename_i he
        exact aop_yield rfl rfl (fun _ _ => rfl) he h.1 h.2.1 h.2.2
      · exact h.elim
    | invoke r m => simp only [vop] at h
    | builtin b =>
      have two : ∀ x y : Operand, args.toList = [x, y] → args = #[x, y] := fun x y e => by apply Array.ext'; simpa using e
      have one : ∀ x : Operand, args.toList = [x] → args = #[x] := fun x e => by apply Array.ext'; simpa using e
      have two' : ∀ x y : TypeId, ats.toList = [x, y] → ats = #[x, y] := fun x y e => by apply Array.ext'; simpa using e
      have one' : ∀ x : TypeId, ats.toList = [x] → ats = #[x] := fun x e => by apply Array.ext'; simpa using e
      cases b <;> simp only [vop] at h
      case append =>
        split at h
        · rename_i x y t u ea et
          obtain rfl := two _ _ ea
          obtain rfl := two' _ _ et
          unfold vapp at h
          split at h
          · simp only [vappendB, need_iff] at h
            obtain ⟨d, e1, e, e2, du, e3, ed, e4, z, e5, e6, e7, h⟩ := h
            obtain ⟨n, cx, g1, g2, h⟩ := vsrc_sound h
            split at h
            · rename_i m hy
              obtain ⟨k1, k2, k3, k4, k5, k6, k7⟩ := h
              refine aop_append_z (m := m.toNat) rfl e1 e2 e3 k1 e4 e5 e6 e7 k2 g1 g2 (by rw [hy, Int.toNat_of_nonneg (by omega)]) (by omega) (by omega) ?_ (fun i off cap hx => by have := k6 i off cap hx; omega) k7
              have : ((n + m.toNat : Nat) : Int) = n + m := by omega
              have h2 : (((n + m.toNat) * ed.bytes : Nat) : Int) ≤ maxN := by rw [Int.natCast_mul, this]; exact k5
              omega
            · skip
              obtain ⟨e', k1, h⟩ := h
              obtain ⟨m, cy, g3, k2, k3, k4, k5, k6⟩ := vsrc_sound h
              exact aop_append_b rfl e1 e2 e3 k1 e4 e5 e6 e7 g1 g2 g3 k2 k3 k4 k5 k6
          · unfold vappend at h
            split at h
            · rename_i ow xs owy ys h1 h2
              simp only [need_iff] at h
              obtain ⟨d, e1, e, e2, du, e3, e', e4, ed, e5, z, e6, e7, e8, e9, e10, e11, e12, e13⟩ := h
              exact aop_append rfl rfl rfl e1 e2 e3 e4 e5 e6 e7 h1 e8 h2 e9 e10 e11 e12 e13
            · exact h.elim
        · exact h.elim
      case copy =>
        split at h
        · rename_i x y t u ea et
          obtain rfl := two _ _ ea
          obtain rfl := two' _ _ et
          unfold vcopy at h
          split at h
          · rename_i i off len cap he
            simp only [need_iff] at h
            obtain ⟨d, h1, e, h2, ed, h3, h4⟩ := h
            obtain ⟨m, cy, g1, bc, g2, g3, g4, g5⟩ := vsrc_sound h4
            exact aop_copy_b rfl h1 h2 h3 he g1 g2 g3 g4 g5
          · exact h.elim
        · exact h.elim
      case cap =>
        split at h
        · rename_i x t ea et
          obtain rfl := one _ ea
          obtain rfl := one' _ et
          obtain ⟨d, h1, h2⟩ := need_iff.1 h
          unfold vcap at h2
          split at h2
          · rename_i i off len cap he
            obtain ⟨e, h3⟩ := Option.isSome_iff_exists.1 h2.1
            exact aop_cap_b rfl h1 h3 he h2.2
          · exact h2.elim
        · exact h.elim
      case len =>
        split at h
        · rename_i x t ea et
          obtain rfl := one _ ea
          obtain rfl := one' _ et
          obtain ⟨d, h1, h2⟩ := need_iff.1 h
          unfold vlen at h2
          split at h2
          · rename_i ow xs he
            obtain ⟨e, h3⟩ := Option.isSome_iff_exists.1 h2.1
            exact aop_len rfl rfl h1 h3 he h2.2
          · rename_i s he
            exact aop_len_str rfl rfl h1 h2.1 he h2.2
          · rename_i i off len cap he
            obtain ⟨e, h3⟩ := Option.isSome_iff_exists.1 h2.1
            exact aop_len_b rfl h1 h3 he h2.2
          · exact h2.elim
        · exact h.elim
      case max =>
        split at h
        · rename_i x y ea
          obtain rfl := two _ _ ea
          unfold vminmax at h
          split at h
          · rename_i k x' k' y' h1 h2
            obtain ⟨rfl, h⟩ := h
            exact aop_max2 rfl rfl rfl h1 h2 h
          · exact h.elim
        · exact h.elim
      case min =>
        split at h
        · rename_i x y ea
          obtain rfl := two _ _ ea
          unfold vminmax at h
          split at h
          · rename_i k x' k' y' h1 h2
            obtain ⟨rfl, h⟩ := h
            exact aop_min2 rfl rfl rfl h1 h2 h
          · exact h.elim
        · exact h.elim
  | _ => exact h.elim

theorem nov_undef {G : Ghost} {v : Value} (h : Rep G v (.tup [])) : v = undef := by
  cases h with
  | tup vs cs hl h =>
    have : vs = #[] := Array.eq_empty_of_size_eq_zero (by simpa using hl)
    subst this; rfl
theorem nov_rep (G : Ghost) : Rep G undef (.tup []) := .tup #[] [] rfl fun j => by simpa using Rep.undef
theorem yielded_nov {ops : List Oper} {G : Ghost} {M : Nat → Prop} {σ : Sta} {a : Act} {w : World} (hs : SR C G M σ a w) {j t : Nat} (ht : (ops[j]?).bind (·.dst) = some t) (he : σ.get t = .tup []) : yielded ops.toArray a.tmps j = none := by
  have hr := hs.env t
  rw [he] at hr
  have hv := nov_undef hr
  simp only [yielded, List.getElem?_toArray, ht, Option.bind_some]
  cases hx : a.tmps[t]? with
  | none => rfl
  | some v =>
    rw [Array.getD_eq_getD_getElem?, hx] at hv
    simp only [Option.getD_some] at hv
    subst hv; rfl
theorem vops_sound {ops : List Oper} {K : Sta → Prop} : ∀ (l : List Oper) {σ : Sta}, vops P C ops l K σ → aops C ops.toArray l K σ
  | [], σ, h => aops_nil h
  | o :: l, σ, h => by
    simp only [vops] at h
    split at h
    · rename_i hg
      refine aops_cons hg ?_
      intro ro n G M a w next Q hs hn
      exact vop_sound h ro n G M a w next Q hs fun G' M' σ' a' w' k s => hn G' M' σ' a' w' (vops_sound l k) s
    · rename_i j want hg
      split at h
      · rename_i t ht
        obtain ⟨hlt, h⟩ := h
        split at h
        · rename_i b he
          intro ro n G M a w hs
          have hr := hs.env t
          rw [he] at hr
          have hv := hr.lit_eq.1
          have hy : yielded ops.toArray a.tmps j = some b := by
            have hlt' : t < a.tmps.size := by rw [hs.size]; exact hlt
            simp only [yielded, List.getElem?_toArray, ht, Option.bind_some]
            have : a.tmps[t]? = some (.bool b) := by
              rw [Array.getD_eq_getD_getElem?, Array.getElem?_eq_getElem hlt'] at hv
              rw [Array.getElem?_eq_getElem hlt']; exact congrArg some hv
            rw [this]
          simp only [wpListIn, Region.wanted, hg, hy]
          by_cases hb : b = want
          · rw [if_pos (by simp [hb])]
            exact vop_sound (h.1 hb) ro n G M a w _ _ hs fun G' M' σ' a' w' k s => vops_sound l k ro n G' M' a' w' s
          · rw [if_neg (by simpa using hb)]
            exact ⟨fun _ _ => trivial, vops_sound l (h.2 hb) ro n G M _ w (hs.put o.dst (nov_rep G))⟩
        · rename_i he
          intro ro n G M a w hs
          simp only [wpListIn, Region.wanted, hg, yielded_nov hs ht he]
          rw [if_neg (by simp)]
          exact ⟨fun _ _ => trivial, vops_sound l h ro n G M _ w (hs.put o.dst (nov_rep G))⟩
        · exact h.elim
      · exact h.elim

/-- **CONDITIONS THAT ARE COMPUTED SERVE.** -/
theorem vc_sound : ∀ (c : Code) {Q : Exit → Sta → Prop} {σ : Sta}, vc P C c Q σ → awp C c Q σ
  | .skip, Q, σ, h => awp_skip h
  | .region id ops draw, Q, σ, h => by
    simp only [vc] at h
    cases draw with
    | true => exact h
    | false =>
      have := vops_sound (P := P) (C := C) _ h
      rw [Array.toArray_toList] at this
      have h2 := awp_region (id := id) (ops := ops.toList) (Q := Q) (by rw [Array.toArray_toList]; exact this)
      rwa [Array.toArray_toList] at h2
  | .seq a b, Q, σ, h => by
    refine awp_seq (awp_mono (vc_sound a h) ?_)
    intro e σ q
    cases e <;> first | exact vc_sound b q | exact q
  | .cond c a b, Q, σ, h => by
    simp only [vc] at h
    split at h
    · rename_i t he
      exact awp_cond he (fun ht => vc_sound a (h.1 ht)) (fun ht => vc_sound b (h.2 ht))
    · exact h.elim
  | .block id b, Q, σ, h => awp_block (vc_sound b h)
  | .loop b, Q, σ, h => h
  | .rangeFunc f ps a b, Q, σ, h => h
  | .exit id, Q, σ, h => awp_exit h
  | .ret, Q, σ, h => awp_ret h
  | .scope b, Q, σ, h => h.elim
  | .label l, Q, σ, h => h.elim
  | .goto l, Q, σ, h => h.elim
  | .refuse _, Q, σ, h => h.elim
end
end Go.Abs
