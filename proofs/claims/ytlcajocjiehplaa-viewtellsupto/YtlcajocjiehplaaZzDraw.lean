/- Statements whose order is drawn: operations that compute, in whatever order their edges allow. -/
import Derived.Test.YtlcajocjiehplaaZzSimp
import Derived.OrdersIn
set_option linter.unusedVariables false
set_option linter.unusedSimpArgs false
set_option linter.unnecessarySimpa false
namespace Go.Abs
open Go Go.RowKit

theorem lends_congr {σ σ' : Sta} (h : ∀ (i : Nat) (bc : BoxC), σ.H[i]? = some bc → σ'.H[i]? = some bc) {x y : AV} (k : Lends σ x y) : Lends σ' x y := by
  rcases k with k | ⟨i, off, len, cap, bc, xs, z, e1, e2, e3⟩
  · exact .inl k
  · exact .inr ⟨i, off, len, cap, bc, xs, z, e1, h i bc e2, e3⟩
theorem lendsL_congr {σ σ' : Sta} (h : ∀ (i : Nat) (bc : BoxC), σ.H[i]? = some bc → σ'.H[i]? = some bc) {xs ys : List AV} (k : All2 (Lends σ) xs ys) : All2 (Lends σ') xs ys := by
  induction k with
  | nil => exact .nil
  | cons hxy _ ih => exact .cons (lends_congr h hxy) ih
/-- A call among operations that compute. -/
def dclo (P : Program) (σ : Sta) (g : FuncId) (args : List AV) (K : AV → Prop) : Prop :=
  (∃ r, Pure P g (args.map AV.weak) r ∧ K r) ∨ (∃ ys r, All2 (Lends σ) args ys ∧ Pure P g ys r ∧ r.plain = true ∧ K r)
theorem dcall_p {P : Program} {σ : Sta} {g : FuncId} {args ys : List AV} {r : AV} {K : AV → Prop} (h : Pure P g ys r) (hy : args.map AV.weak = ys) (hK : K r) : dclo P σ g args K := .inl ⟨r, hy ▸ h, hK⟩
theorem dcall_l {P : Program} {σ : Sta} {g : FuncId} {args ys : List AV} {r : AV} {K : AV → Prop} (h : Pure P g ys r) (hy : All2 (Lends σ) args ys) (hr : r.plain = true) (hK : K r) : dclo P σ g args K := .inr ⟨ys, r, hy, h, hr, hK⟩

def dminmax (f : Int → Int → Int) (x y : AV) (K : AV → Prop) : Prop :=
  match x, y with
  | .lit (.int k x), .lit (.int k' y) => k = k' ∧ K (.lit (.int k (f x y)))
  | _, _ => False

section
variable (P : Program) (C : Ctx P)

/-- What an operation computes, without the facts that come with it. -/
def dval (o : Oper) (σ : Sta) (K : AV → Prop) : Prop :=
  match o.op with
  | .move x | .assign x => K (σ.eval x)
  | .pick c x y => match σ.eval c with
    | .lit (.bool b) => K (if b = true then σ.eval x else σ.eval y)
    | _ => False
  | .build t parts => need (tyd P t) fun d => need d.zero fun z => need (fieldsOf d) fun fs => need (placesOf P fs) fun ps => (z.cells.toList.all fun v => v.oneCell') = true ∧
      need (afill (ps[·]?) (z.cells.toList.map cav) (parts.toList.map fun x => (x.1, σ.eval x.2))) fun cs => K (.agg cs)
  | .buildSlice t n parts => need (tyd P t) fun d => need (elemOf d) fun e => need (tyd P e) fun ed => need ed.zero fun z => z.cells.size = ed.size ∧ 0 < ed.size ∧ (z.cells.toList.all fun v => v.oneCell') = true ∧ n * ed.size ≤ 2 ^ 24 ∧
      parts.toList.map Prod.fst = List.range n ∧ (∀ x, x ∈ parts.toList.map (fun x => σ.eval x.2) → storable x = true ∧ x.flat.length = ed.size) ∧ K (.sl .full (parts.toList.map fun x => (σ.eval x.2).weak))
  | .load t x => need (tyd P t) fun d => match σ.eval x with
    | .cptr cs => (d.agg = true ∨ d.size = 1) ∧ d.size ≤ cs.length ∧ K (packed d (cs.take d.size))
    | .bptr i off => need σ.H[i]? fun bc => (d.agg = true ∨ d.size = 1) ∧ off + d.size ≤ bc.cells.length ∧ K (packed d ((bc.cells.drop off).take d.size))
    | _ => False
  | .binOp op t x y _ => match σ.eval x, σ.eval y with
    | .lit (.int k x), .lit (.int k' y) => if isShift op = true then vshift op k x y (fun v => K (.lit v)) else k = k' ∧ vbin op k x y (fun v => K (.lit v))
    | .lit (.string x), .lit (.string y) => vbinS op x y (fun v => K (.lit v))
    | .lit (.bool x), .lit (.bool y) => need (tyd P t) fun d => need (eqop op) fun f => need (eqV d.desc (.bool x) (.bool y)) fun r => K (.lit (.bool (f r)))
    | .agg cs, .agg ds => eqOK P t = true ∧ need (eqop op) fun f => need (tyd P t) fun d => need (fieldsOf d) fun fs => need (eqFs P 0 fs cs ds) fun r => K (.lit (.bool (f r)))
    | _, _ => False
  | .unOp op _ x => match σ.eval x with
    | .lit v => need (aun op v) fun u => K (.lit u)
    | _ => False
  | .makeInterface t x => need (tyd P t) fun d => isIface d.desc = false ∧ K (.iface t (σ.eval x).weak)
  | .slice t x lo hi none => need (tyd P t) fun d => match σ.eval x with
    | .lit (.string s) => d.desc = .string ∧ need (bound lo σ 0) fun l => need (bound hi σ s.size) fun h => l ≤ h ∧ h ≤ s.size ∧ K (.lit (.string (s.extract l h)))
    | .sl _ xs => need (elemOf d) fun e => need (tyd P e) fun ed => need (bound lo σ 0) fun l => need (bound hi σ xs.length) fun h => l ≤ h ∧ h ≤ xs.length ∧ (∀ x, x ∈ xs → x.flat.length = ed.size) ∧ K (.sl .no ((xs.drop l).take (h - l)))
    | .bsl b off len cap => need (elemOf d) fun e => need (tyd P e) fun ed => need (bound lo σ 0) fun l => need (bound hi σ len) fun h => l ≤ h ∧ h ≤ cap ∧ h ≤ maxN ∧ ∀ off', (l < cap → off' = off + l * ed.size) → K (.bsl b off' (h - l) (cap - l))
    | _ => False
  | .fieldAddr s x f => need (tyd P s) fun d => need (fieldOf d f) fun fl => need (tyd P fl.type) fun fd => fd.size ≠ 0 ∧ match σ.eval x with
    | .cptr cs => K (.cptr (cs.drop fl.offset))
    | .bptr i o => K (.bptr i (o + fl.offset))
    | _ => False
  | .field s x f => need (tyd P s) fun d => need (fieldOf d f) fun fl => need (tyd P fl.type) fun fd => match σ.eval x with
    | .agg cs => (fd.agg = true ∨ fd.size = 1) ∧ fl.offset + fd.size ≤ cs.length ∧ K (packed fd ((cs.drop fl.offset).take fd.size))
    | _ => False
  | .indexAddr t x i => need (tyd P t) fun d => need (elemOf d) fun e => need (tyd P e) fun ed => match σ.eval x, σ.eval i with
    | .sl _ xs, .lit (.int _ i) => 0 ≤ i ∧ i < (xs.length : Int) ∧ ∀ x, xs[i.toNat]? = some x → x.flat.length = ed.size ∧ K (.cptr x.flat)
    | .bsl b off len _, .lit (.int _ i) => 0 ≤ i ∧ i < (len : Int) ∧ K (.bptr b (off + i.toNat * ed.size))
    | _, _ => False
  | .index t x i => need (tyd P t) fun d => match σ.eval x, σ.eval i with
    | .lit (.string s), .lit (.int _ i) => d.desc = .string ∧ 0 ≤ i ∧ i < (s.size : Int) ∧ K (.lit (.int .u8 ((s.data.getD i.toNat 0).toNat : Int)))
    | _, _ => False
  | .extract x i => match σ.eval x with
    | .tup vs => i < vs.length ∧ K (vs.getD i .undef)
    | _ => False
  | .call c => match c.callee with
    | .value f => match σ.eval f with
      | .clo g caps => dclo P σ g (c.args.toList.map σ.eval ++ caps) K
      | _ => False
    | .builtin .len => match c.args.toList, c.argTypes.toList with
      | [x], [t] => need (tyd P t) fun d => match σ.eval x with
        | .sl _ xs => (elemOf d).isSome = true ∧ K (.lit (.int .i64 xs.length))
        | .lit (.string s) => d.desc = .string ∧ K (.lit (.int .i64 s.size))
        | .bsl _ _ len _ => (elemOf d).isSome = true ∧ K (.lit (.int .i64 len))
        | _ => False
      | _, _ => False
    | .builtin .max => match c.args.toList with
      | [x, y] => dminmax gmax (σ.eval x) (σ.eval y) K
      | _ => False
    | .builtin .min => match c.args.toList with
      | [x, y] => dminmax gmin (σ.eval x) (σ.eval y) K
      | _ => False
    | _ => False
  | .convert s d x => need (tyd P s) fun _ => need (tyd P d) fun dd => match σ.eval x with
    | .lit (.int _ n) => match dd.desc with
      | .int k' => K (.lit (.int k' (k'.wrap n)))
      | _ => False
    | .lit (.string b) => dd.desc = .string ∧ K (.lit (.string b))
    | _ => False
  | .makeFunc (.func f) first caps => first.toList = [] ∧ caps.toList = [] ∧ K (.clo f [])
  | _ => False

end

/-- Does an operation that computes look at variables? -/
def needH : Op → Bool
  | .load _ _ => true
  | .call c => match c.callee with
    | .value _ => true
    | _ => false
  | _ => false
/-- Of two states: the operand is one; the variables that are looked at are there. -/
def agree (o : Op) (σ σ' : Sta) : Prop := (∀ t, Operand.tmp t ∈ o.operands.toList → σ'.get t = σ.get t) ∧ (needH o = true → ∀ (i : Nat) (bc : BoxC), σ.H[i]? = some bc → σ'.H[i]? = some bc)
theorem agree_eval {o : Op} {σ σ' : Sta} (h : agree o σ σ') {x : Operand} (hx : x ∈ o.operands.toList) : σ'.eval x = σ.eval x := by
  cases x with
  | tmp t => exact h.1 t hx
  | _ => rfl

section
variable {P : Program} {C : Ctx P}

/-- An operation has this value, in every state that agrees on what it reads. -/
def Val (C : Ctx P) (o : Oper) (σ : Sta) (x : AV) : Prop := ∀ σ', agree o.op σ σ' → ∀ K' : Sta → Prop, K' (σ'.put o.dst x) → aop C o K' σ'

theorem bound_congr {x : Option Operand} {σ σ' : Sta} {d : Nat} (h : ∀ p, x = some p → σ'.eval p = σ.eval p) : bound x σ' d = bound x σ d := by
  cases x with
  | none => rfl
  | some p => simp only [bound, h p rfl]

theorem dval_sound {o : Oper} {σ : Sta} {K : AV → Prop} (h : dval P o σ K) : ∃ x, K x ∧ Val C o σ x := by
  obtain ⟨dst, op, type, pos, after, guard⟩ := o
  cases op with
  | move x => exact ⟨_, h, fun σ' ha K' hK => aop_move (.inl rfl) rfl (by rw [agree_eval ha (by simp [Op.operands])]; exact hK)⟩
  | assign x => exact ⟨_, h, fun σ' ha K' hK => aop_move (.inr rfl) rfl (by rw [agree_eval ha (by simp [Op.operands])]; exact hK)⟩
  | pick c x y =>
    simp only [dval] at h
    split at h
    · rename_i b he
      refine ⟨_, h, fun σ' ha K' hK => aop_pick rfl rfl rfl rfl (b := b) (by rw [agree_eval ha (by simp [Op.operands])]; exact he) ?_⟩
      rw [agree_eval ha (x := x) (by simp [Op.operands]), agree_eval ha (x := y) (by simp [Op.operands])]; exact hK
    · exact h.elim
  | build t parts =>
    simp only [dval, need_iff] at h
    obtain ⟨d, h1, z, h2, fs, h3, ps, h4, h5, cs, h6, h7⟩ := h
    refine ⟨_, h7, fun σ' ha K' hK => aop_build rfl (fun _ _ => rfl) h1 h2 h3 h4 h5 ?_ hK⟩
    rw [← h6]; congr 1
    refine List.map_congr_left fun p hp => ?_
    rw [agree_eval ha (by simp only [Op.operands]; exact List.mem_map_of_mem (f := Prod.snd) hp)]
  | buildSlice t n parts =>
    simp only [dval, need_iff] at h
    obtain ⟨d, h1, e, h2, ed, h3, z, h4, h5, h6, h7, h8, h9, h10, h11⟩ := h
    have key : ∀ σ', agree (.buildSlice t n parts) σ σ' → ∀ p, p ∈ parts.toList → σ'.eval p.2 = σ.eval p.2 := fun σ' ha p hp =>
      agree_eval ha (by simp only [Op.operands]; exact List.mem_map_of_mem (f := Prod.snd) hp)
    refine ⟨_, h11, fun σ' ha K' hK => aop_buildSlice rfl (fun _ _ => rfl) h1 h2 h3 h4 h5 h6 h7 h8 h9 (fun x hx => by rw [key σ' ha x hx]; exact h10 _ (List.mem_map_of_mem hx)) ?_⟩
    rw [List.map_congr_left (fun p hp => by rw [key σ' ha p hp])]
    exact hK
  | load t x =>
    simp only [dval, need_iff] at h
    obtain ⟨d, h1, h2⟩ := h
    split at h2
    · rename_i cs he
      exact ⟨_, h2.2.2, fun σ' ha K' hK => aop_load_c rfl rfl h1 h2.1 (by rw [agree_eval ha (by simp [Op.operands])]; exact he) h2.2.1 hK⟩
    · rename_i i off he
      obtain ⟨bc, h3, h4⟩ := h2
      exact ⟨_, h4.2.2, fun σ' ha K' hK => aop_load_b rfl rfl h1 h4.1 (by rw [agree_eval ha (by simp [Op.operands])]; exact he) (ha.2 rfl _ _ h3) h4.2.1 hK⟩
    · exact h2.elim
  | binOp op t x y yt =>
    simp only [dval] at h
    split at h
    · rename_i k x' k' y' h1 h2
      split at h
      · obtain ⟨v, e1, e2⟩ := vshift_sound h
        exact ⟨_, e2, fun σ' ha K' hK => aop_shift rfl rfl rfl (by rw [agree_eval ha (by simp [Op.operands])]; exact h1) (by rw [agree_eval ha (by simp [Op.operands])]; exact h2) e1 hK⟩
      · obtain ⟨rfl, h⟩ := h
        obtain ⟨v, e1, e2⟩ := vbin_sound h
        exact ⟨_, e2, fun σ' ha K' hK => aop_bin_int rfl rfl rfl (by rw [agree_eval ha (by simp [Op.operands])]; exact h1) (by rw [agree_eval ha (by simp [Op.operands])]; exact h2) e1 hK⟩
    · rename_i x' y' h1 h2
      cases op <;> simp only [vbinS] at h
      all_goals first
        | exact h.elim
        | exact ⟨_, h.2, fun σ' ha K' hK => aop_concat rfl rfl rfl (by rw [agree_eval ha (by simp [Op.operands])]; exact h1) (by rw [agree_eval ha (by simp [Op.operands])]; exact h2) h.1 hK⟩
        | exact ⟨_, h, fun σ' ha K' hK => aop_bin_str rfl rfl rfl (by rw [agree_eval ha (by simp [Op.operands])]; exact h1) (by rw [agree_eval ha (by simp [Op.operands])]; exact h2) rfl hK⟩
    · rename_i x' y' h1 h2
      simp only [need_iff] at h
      obtain ⟨d, g1, f, g2, r, g3, g6⟩ := h
      exact ⟨_, g6, fun σ' ha K' hK => aop_bin_bool rfl rfl rfl g1 g2 (by rw [agree_eval ha (by simp [Op.operands])]; exact h1) (by rw [agree_eval ha (by simp [Op.operands])]; exact h2) g3 hK⟩
    · rename_i cs ds h1 h2
      simp only [need_iff] at h
      obtain ⟨g1, f, g2, d, g3, fs, g4, r, g5, g6⟩ := h
      exact ⟨_, g6, fun σ' ha K' hK => aop_eq_struct rfl g2 g1 g3 g4 (by rw [agree_eval ha (by simp [Op.operands])]; exact h1) (by rw [agree_eval ha (by simp [Op.operands])]; exact h2) g5 hK⟩
    · exact h.elim
  | unOp op t x =>
    simp only [dval] at h
    split at h
    · rename_i v he
      obtain ⟨u, h1, h2⟩ := need_iff.1 h
      exact ⟨_, h2, fun σ' ha K' hK => aop_un rfl rfl (by rw [agree_eval ha (by simp [Op.operands])]; exact he) h1 hK⟩
    · exact h.elim
  | makeInterface t x =>
    simp only [dval, need_iff] at h
    obtain ⟨d, h1, h2, h3⟩ := h
    exact ⟨_, h3, fun σ' ha K' hK => aop_iface rfl rfl h1 h2 (by rw [agree_eval ha (by simp [Op.operands])]; exact hK)⟩
  | slice t x lo hi mx =>
    cases mx with
    | some m => simp only [dval] at h
    | none =>
      simp only [dval, need_iff] at h
      obtain ⟨d, h1, h2⟩ := h
      have ok : ∀ x : Option Operand, ok? x = true := fun x => by cases x <;> rfl
      have hlo : ∀ σ' dd, agree (.slice t x lo hi none) σ σ' → bound lo σ' dd = bound lo σ dd := fun σ' dd ha => bound_congr fun p hp => agree_eval ha (by subst hp; simp [Op.operands])
      have hhi : ∀ σ' dd, agree (.slice t x lo hi none) σ σ' → bound hi σ' dd = bound hi σ dd := fun σ' dd ha => bound_congr fun p hp => agree_eval ha (by subst hp; simp [Op.operands])
      split at h2
      · rename_i s he
        obtain ⟨h3, l, h4, g, h5, h6, h7, h8⟩ := h2
        exact ⟨_, h8, fun σ' ha K' hK => aop_slice_str rfl rfl (ok _) (ok _) h1 h3 (by rw [agree_eval ha (by simp [Op.operands])]; exact he) (by rw [hlo _ _ ha]; exact h4) (by rw [hhi _ _ ha]; exact h5) h6 h7 hK⟩
      · rename_i ow xs he
        obtain ⟨e, h3, ed, h4, l, h5, g, h6, h7, h8, h9, h10⟩ := h2
        exact ⟨_, h10, fun σ' ha K' hK => aop_slice rfl rfl (ok _) (ok _) h1 h3 h4 (by rw [agree_eval ha (by simp [Op.operands])]; exact he) (by rw [hlo _ _ ha]; exact h5) (by rw [hhi _ _ ha]; exact h6) h7 h8 h9 hK⟩
      · rename_i b off len cap he
        obtain ⟨e, h3, ed, h4, l, h5, g, h6, h7, h8, h9, h10⟩ := h2
        refine ⟨_, h10 (if cap = l then off else off + l * ed.size) fun hlt => if_neg (by omega), fun σ' ha K' hK => aop_slice_b rfl h1 h3 h4 (by rw [agree_eval ha (by simp [Op.operands])]; exact he) (by rw [hlo _ _ ha]; exact h5) (by rw [hhi _ _ ha]; exact h6) h7 h8 h9 hK⟩
      · exact h2.elim
  | fieldAddr s x f =>
    simp only [dval, need_iff] at h
    obtain ⟨d, h1, fl, h2, fd, h3, h4, h5⟩ := h
    split at h5
    · rename_i cs he
      exact ⟨_, h5, fun σ' ha K' hK => aop_fieldAddr_c rfl rfl h1 h2 h3 h4 (by rw [agree_eval ha (by simp [Op.operands])]; exact he) hK⟩
    · rename_i i off he
      exact ⟨_, h5, fun σ' ha K' hK => aop_fieldAddr_b rfl rfl h1 h2 h3 h4 (by rw [agree_eval ha (by simp [Op.operands])]; exact he) hK⟩
    · exact h5.elim
  | field s x f =>
    simp only [dval, need_iff] at h
    obtain ⟨d, h1, fl, h2, fd, h3, h4⟩ := h
    split at h4
    · rename_i cs he
      exact ⟨_, h4.2.2, fun σ' ha K' hK => aop_field rfl rfl h1 h2 h3 h4.1 (by rw [agree_eval ha (by simp [Op.operands])]; exact he) h4.2.1 hK⟩
    · exact h4.elim
  | indexAddr t x i =>
    simp only [dval, need_iff] at h
    obtain ⟨d, h1, e, h2, ed, h3, h4⟩ := h
    split at h4
    · rename_i ow xs k i' he hi
      obtain ⟨h5, h6, h7⟩ := h4
      have hlt : i'.toNat < xs.length := by omega
      have h8 := h7 xs[i'.toNat] (List.getElem?_eq_getElem hlt)
      have e1 : xs.getD i'.toNat .undef = xs[i'.toNat] := by rw [List.getD_eq_getElem?_getD, List.getElem?_eq_getElem hlt]; rfl
      exact ⟨_, h8.2, fun σ' ha K' hK => aop_indexAddr rfl rfl rfl h1 h2 h3 (by rw [agree_eval ha (by simp [Op.operands])]; exact he) (by rw [agree_eval ha (by simp [Op.operands])]; exact hi) h5 h6 (by rw [e1]; exact h8.1) (by rw [e1]; exact hK)⟩
    · rename_i b off len cap k i' he hi
      exact ⟨_, h4.2.2, fun σ' ha K' hK => aop_indexAddr_b rfl h1 h2 h3 (by rw [agree_eval ha (by simp [Op.operands])]; exact he) (by rw [agree_eval ha (by simp [Op.operands])]; exact hi) h4.1 h4.2.1 hK⟩
    · exact h4.elim
  | index t x i =>
    simp only [dval, need_iff] at h
    obtain ⟨d, h1, h2⟩ := h
    split at h2
    · rename_i s k i' he hi
      obtain ⟨h3, h4, h5, h6⟩ := h2
      exact ⟨_, h6, fun σ' ha K' hK => aop_index_str rfl rfl rfl h1 h3 (by rw [agree_eval ha (by simp [Op.operands])]; exact he) (by rw [agree_eval ha (by simp [Op.operands])]; exact hi) h4 h5 hK⟩
    · exact h2.elim
  | extract x i =>
    simp only [dval] at h
    split at h
    · rename_i vs he
      exact ⟨_, h.2, fun σ' ha K' hK => aop_extract rfl rfl (by rw [agree_eval ha (by simp [Op.operands])]; exact he) h.1 hK⟩
    · exact h.elim
  | call c =>
    obtain ⟨callee, args, ats⟩ := c
    cases callee with
    | value f =>
      simp only [dval] at h
      split at h
      · rename_i f' caps he
        rcases h with ⟨r, h1, h2⟩ | ⟨ys, r, h1, h2, h3, h4⟩
        · refine ⟨_, h2, fun σ' ha K' hK => aop_call rfl rfl (fun _ _ => rfl) (f := f') (caps := caps) (r := r) (by rw [agree_eval ha (by simp [Op.operands, Call.operands])]; exact he) ?_ hK⟩
          have : args.toList.map σ'.eval = args.toList.map σ.eval := List.map_congr_left fun x hx => agree_eval ha (by simp [Op.operands, Call.operands]; right; simpa using hx)
          rw [this]; exact h1
        · refine ⟨_, h4, fun σ' ha K' hK => aop_call_l rfl (f := f') (caps := caps) (ys := ys) (r := r) (by rw [agree_eval ha (by simp [Op.operands, Call.operands])]; exact he) ?_ h2 h3 hK⟩
          have : args.toList.map σ'.eval = args.toList.map σ.eval := List.map_congr_left fun x hx => agree_eval ha (by simp [Op.operands, Call.operands]; right; simpa using hx)
          rw [this]; exact lendsL_congr (ha.2 rfl) h1
      · exact h.elim
    | invoke r m => simp only [dval] at h
    | builtin b =>
      have one : ∀ x : Operand, args.toList = [x] → args = #[x] := fun x e => by apply Array.ext'; simpa using e
      have one' : ∀ x : TypeId, ats.toList = [x] → ats = #[x] := fun x e => by apply Array.ext'; simpa using e
      have two : ∀ x y : Operand, args.toList = [x, y] → args = #[x, y] := fun x y e => by apply Array.ext'; simpa using e
      cases b <;> simp only [dval] at h
      case len =>
        split at h
        · rename_i x t ea et
          obtain rfl := one _ ea
          obtain rfl := one' _ et
          obtain ⟨d, h1, h2⟩ := need_iff.1 h
          split at h2
          · rename_i ow xs he
            obtain ⟨e, h3⟩ := Option.isSome_iff_exists.1 h2.1
            exact ⟨_, h2.2, fun σ' ha K' hK => aop_len rfl rfl h1 h3 (by rw [agree_eval ha (by simp [Op.operands, Call.operands])]; exact he) fun _ => hK⟩
          · rename_i s he
            exact ⟨_, h2.2, fun σ' ha K' hK => aop_len_str rfl rfl h1 h2.1 (by rw [agree_eval ha (by simp [Op.operands, Call.operands])]; exact he) fun _ => hK⟩
          · rename_i i off len cap he
            obtain ⟨e, h3⟩ := Option.isSome_iff_exists.1 h2.1
            exact ⟨_, h2.2, fun σ' ha K' hK => aop_len_b rfl h1 h3 (by rw [agree_eval ha (by simp [Op.operands, Call.operands])]; exact he) fun _ _ => hK⟩
          · exact h2.elim
        · exact h.elim
      case max =>
        split at h
        · rename_i x y ea
          obtain rfl := two _ _ ea
          unfold dminmax at h
          split at h
          · rename_i k x' k' y' h1 h2
            obtain ⟨rfl, h⟩ := h
            exact ⟨_, h, fun σ' ha K' hK => aop_max2 rfl rfl rfl (by rw [agree_eval ha (by simp [Op.operands, Call.operands])]; exact h1) (by rw [agree_eval ha (by simp [Op.operands, Call.operands])]; exact h2) hK⟩
          · exact h.elim
        · exact h.elim
      case min =>
        split at h
        · rename_i x y ea
          obtain rfl := two _ _ ea
          unfold dminmax at h
          split at h
          · rename_i k x' k' y' h1 h2
            obtain ⟨rfl, h⟩ := h
            exact ⟨_, h, fun σ' ha K' hK => aop_min2 rfl rfl rfl (by rw [agree_eval ha (by simp [Op.operands, Call.operands])]; exact h1) (by rw [agree_eval ha (by simp [Op.operands, Call.operands])]; exact h2) hK⟩
          · exact h.elim
        · exact h.elim
  | convert s d x =>
    simp only [dval, need_iff] at h
    obtain ⟨ds, h1, dd, h2, h3⟩ := h
    split at h3
    · rename_i k n he
      split at h3
      · rename_i k' hk
        exact ⟨_, h3, fun σ' ha K' hK => aop_conv_int rfl rfl (by rw [agree_eval ha (by simp [Op.operands])]; exact he) h1 h2 hk hK⟩
      · exact h3.elim
    · rename_i b he
      exact ⟨_, h3.2, fun σ' ha K' hK => aop_conv_same (x := .undef) rfl rfl h1 h2 h3.1 (by rw [agree_eval ha (by simp [Op.operands])]; exact he) hK⟩
    · exact h3.elim
  | makeFunc fn first caps =>
    cases fn <;> simp only [dval] at h
    rename_i f
    obtain ⟨h1, h2, h3⟩ := h
    obtain rfl : first = #[] := by apply Array.ext'; simpa using h1
    obtain rfl : caps = #[] := by apply Array.ext'; simpa using h2
    exact ⟨_, h3, fun σ' ha K' hK => aop_makeFunc rfl (fun _ _ => rfl) (by simpa using hK)⟩
  | _ => exact h.elim

/-! ### Slots, edges -/
def slotsOf (ops : List Oper) (o : Oper) : List Tmp :=
  (o.op.operands.toList.filterMap fun | .tmp t => some t | _ => none) ++ (match o.guard with
    | some (j, _) => ((ops[j]?).bind (·.dst)).toList
    | none => [])
def edgeTo (o : Oper) (i : Nat) : Bool := o.after.toList.any fun e => Region.binds .any e && e.on == i
theorem yielded_of {ops : List Oper} {G : Ghost} {M : Nat → Prop} {σ : Sta} {a : Act} {w : World} (hs : SR C G M σ a w) {j t : Nat} {b : Bool} (ht : (ops[j]?).bind (·.dst) = some t) (hlt : t < σ.n) (he : σ.get t = .lit (.bool b)) : yielded ops.toArray a.tmps j = some b := by
  have hr := hs.env t
  rw [he] at hr
  have hv := hr.lit_eq.1
  have hlt' : t < a.tmps.size := by rw [hs.size]; exact hlt
  simp only [yielded, List.getElem?_toArray, ht, Option.bind_some]
  have : a.tmps[t]? = some (.bool b) := by
    rw [Array.getD_eq_getD_getElem?, Array.getElem?_eq_getElem hlt'] at hv
    rw [Array.getElem?_eq_getElem hlt']; exact congrArg some hv
  rw [this]

def isApp (o : Oper) : Bool :=
  match o.op with
  | .call c => match c.callee with
    | .builtin .append => true
    | _ => false
  | _ => false
/-- An append, among operations that compute. -/
def dapp (P : Program) (o : Oper) (σ : Sta) (K : AV → List Bool → Prop) : Prop :=
  match o.op with
  | .call c => match c.args.toList, c.argTypes.toList with
    | [x, y], [t, u] => match σ.eval x, σ.eval y with
      | .sl ow xs, .sl _ ys => need (tyd P t) fun d => need (elemOf d) fun e => need (tyd P u) fun du => need (elemOf du) fun _ => need (tyd P e) fun ed => need ed.zero fun z =>
        z.cells.size = ed.size ∧ OwnLive σ.L ed.size ow ∧ (∀ x, x ∈ xs → x.flat.length = ed.size) ∧ (∀ y, y ∈ ys → y.flat.length = ed.size) ∧ xs.length + ys.length ≤ maxN ∧ (xs.length + ys.length) * ed.bytes ≤ maxN ∧
        K (.sl (.st σ.L.length ed.size) (xs ++ ys)) (kill σ.L (stampO ow) ++ [true])
      | _, _ => False
    | _, _ => False
  | _ => False
def ValA (C : Ctx P) (o : Oper) (σ : Sta) (x : AV) (L : List Bool) : Prop := ∀ σ', agree o.op σ σ' → σ'.L = σ.L → ∀ K' : Sta → Prop, K' ({ σ' with L := L }.put o.dst x) → aop C o K' σ'
theorem dapp_sound {o : Oper} {σ : Sta} {K : AV → List Bool → Prop} (hp : isApp o = true) (h : dapp P o σ K) : ∃ x L, K x L ∧ ValA C o σ x L := by
  obtain ⟨dst, op, type, pos, after, guard⟩ := o
  cases op with
  | call c =>
    obtain ⟨callee, args, ats⟩ := c
    have two : ∀ x y : Operand, args.toList = [x, y] → args = #[x, y] := fun x y e => by apply Array.ext'; simpa using e
    have two' : ∀ x y : TypeId, ats.toList = [x, y] → ats = #[x, y] := fun x y e => by apply Array.ext'; simpa using e
    cases callee with
    | builtin b =>
      cases b <;> simp only [isApp] at hp
      case append =>
        simp only [dapp] at h
        split at h
        · rename_i x y t u ea et
          obtain rfl := two _ _ ea
          obtain rfl := two' _ _ et
          split at h
          · rename_i ow xs owy ys h1 h2
            simp only [need_iff] at h
            obtain ⟨d, e1, e, e2, du, e3, e', e4, ed, e5, z, e6, e7, e8, e9, e10, e11, e12, e13⟩ := h
            refine ⟨_, _, e13, fun σ' ha hL K' hK => ?_⟩
            have k1 : σ'.eval x = .sl ow xs := by rw [agree_eval ha (by simp [Op.operands, Call.operands])]; exact h1
            have k2 : σ'.eval y = .sl owy ys := by rw [agree_eval ha (by simp [Op.operands, Call.operands])]; exact h2
            rw [← hL] at hK
            exact aop_append rfl rfl rfl e1 e2 e3 e4 e5 e6 e7 k1 (by rw [hL]; exact e8) k2 e9 e10 e11 e12 hK
          · exact h.elim
        · exact h.elim
      all_goals cases hp
    | _ => cases hp
  | _ => cases hp

end
end Go.Abs
