/- Closures, pieces of slices, lengths, max, min, nil. -/
import Derived.Test.YtlcajocjiehplaaZzOps5
import Derived.WideLaws
import Derived.LaidEql
set_option linter.unusedVariables false
set_option linter.unusedSimpArgs false
namespace Go.Abs
open Go Go.RowKit

section
variable {P : Program} {C : Ctx P} {G : Ghost} {M : Nat → Prop} {σ : Sta} {a : Act} {w w' : World} {o : Oper} {K : Sta → Prop}

/-- A variable that is not written any more. -/
theorem SR.freeze (hs : SR C G M σ a w) {i : Nat} {bc : BoxC} (hi : σ.H[i]? = some bc) : ∃ G', SR C G' M { σ with H := σ.H.set i ⟨bc.cells.map AV.weak, false⟩ } a w := by
  obtain ⟨b, hb, cells, e2⟩ := hs.boxes i bc hi
  have hil : i < σ.H.length := by
    rcases Nat.lt_or_ge i σ.H.length with h | h
    · exact h
    · rw [List.getElem?_eq_none h] at hi; cases hi
  cases hw : bc.wr with
  | false =>
    rw [hw] at e2
    refine ⟨G, { size := hs.size, env := hs.env, holds := hs.holds, mlt := hs.mlt, boxes := fun j bj hj => ?_, boxn := fun j hj => hs.boxn j (by simpa using hj), boxlt := hs.boxlt, boxinj := hs.boxinj, live := hs.live, nxt := hs.nxt, owns := hs.owns, owninj := hs.owninj, ownbox := hs.ownbox, loop := hs.loop, base := hs.base, defers := hs.defers, dnd := hs.dnd, ctx := hs.ctx }⟩
    simp only [list_set_getElem?] at hj
    by_cases hij : i = j
    · subst hij
      rw [if_pos rfl, if_pos hil] at hj
      cases hj
      exact ⟨b, hb, cells, e2.1, e2.2.weak⟩
    · rw [if_neg hij] at hj
      exact hs.boxes j bj hj
  | true =>
    rw [hw] at e2
    obtain ⟨hM, ⟨E, hh⟩, hS, hr, h1⟩ := e2
    have hsub : Shadow.le G.S (addS G.S b 0 cells) := fun c o v e => by
      by_cases h : c = b
      · subst h; rw [hS o] at e; cases e
      · rw [addS_ne h]; exact e
    have hle : G.le (G.withS (addS G.S b 0 cells)) := withS_le hsub
    have hholds : Holds (addS G.S b 0 cells) w := by
      intro c o v e
      simp only [addS] at e
      split at e
      · rename_i hin
        obtain ⟨rfl, h2, h3⟩ := hin
        cases e
        have ho : o < cells.length := by omega
        refine ⟨by unfold World.cell?; rw [show (⟨c, o, none⟩ : Addr).block = c from rfl, hh]; simp [List.getD_eq_getElem?_getD, ho], ?_⟩
        rw [Nat.sub_zero, List.getD_eq_getElem?_getD, List.getElem?_eq_getElem ho]
        exact h1 _ (List.getElem_mem ho)
      · exact hs.holds c o v e
    have hst : StepW G.S w (addS G.S b 0 cells) w (fun c => ¬ M c) := ⟨rfl, rfl, rfl, Nat.le_refl _, hsub, hholds, fun c hc hn => ⟨rfl, fun o => addS_ne fun h => hn (h ▸ hM)⟩⟩
    refine ⟨G.withS (addS G.S b 0 cells), { size := hs.size, env := fun t => (hs.env t).mono hle, holds := hholds, mlt := hs.mlt, boxes := fun j bj hj => ?_, boxn := fun j hj => hs.boxn j (by simpa using hj), boxlt := hs.boxlt, boxinj := hs.boxinj, live := hs.live, nxt := hs.nxt, owns := fun s r e => ?_, owninj := hs.owninj, ownbox := hs.ownbox, loop := hs.loop, base := hs.base.trans hle, defers := hs.defers, dnd := hs.dnd, ctx := C.stable _ _ _ _ _ _ _ _ hs.ctx hs.holds hst (fun _ h => h) (fun _ h => .inl h) hs.mlt }⟩
    · simp only [list_set_getElem?] at hj
      by_cases hij : i = j
      · subst hij
        rw [if_pos rfl, if_pos hil] at hj
        cases hj
        refine ⟨b, hb, cells, fun j hj => ?_, (hr.mono hle).weak⟩
        have := addS_in (S := G.S) (b := b) (lo := 0) hj
        rwa [Nat.zero_add] at this
      · rw [if_neg hij] at hj
        obtain ⟨c, f1, f2⟩ := hs.boxes j bj hj
        have hcb : c ≠ b := fun h => hij (hs.boxinj i j b hb (h ▸ f1))
        exact ⟨c, f1, f2.next hle (fun _ => ⟨rfl, fun o => addS_ne hcb⟩) fun h => h⟩
    · have hrb : r.blk ≠ b := fun h => hs.ownbox s r i e (h ▸ hb)
      exact (hs.owns s r e).next (fun _ => ⟨rfl, fun o => addS_ne hrb⟩) fun h => h

theorem aops_freeze {ops : Array Oper} {l : List Oper} {i : Nat} {bc : BoxC} (hi : σ.H[i]? = some bc) (h : aops C ops l K { σ with H := σ.H.set i ⟨bc.cells.map AV.weak, false⟩ }) : aops C ops l K σ := by
  intro ro n G M a w hs
  obtain ⟨G', hs'⟩ := hs.freeze hi
  exact h ro n G' M a w hs'

/-- What a captured operand is: a variable that stays as it is is told by its contents. -/
def capt (σ : Sta) (x : AV) : AV :=
  match x with
  | .bptr i off =>
    match σ.H[i]? with
    | some ⟨cells, false⟩ => .cptr (cells.drop off)
    | _ => .bptr i off
  | y => y
theorem capt_rep (hs : SR C G M σ a w) {v : Value} {x : AV} (h : Rep G v x) : Rep G v (capt σ x) := by
  cases x <;> try exact h
  rename_i i off
  simp only [capt]
  split
  · rename_i cells hi
    cases h with
    | bptr i off b hb =>
      obtain ⟨b', e1, vs, e2, e3⟩ := hs.boxes i _ hi
      rw [hb] at e1; cases e1
      refine .cptr b off _ (vs.drop off) (by have h3 : vs.length = cells.length := e3.1; simp only [List.length_drop]; omega) (fun j hj => ?_) (fun j => ?_)
      · simp only [List.length_drop] at hj
        have := e2 (off + j) (by omega)
        rw [this]; simp [List.getD_eq_getElem?_getD, List.getElem?_drop]
      · have := e3.2 (off + j)
        simpa [List.getD_eq_getElem?_getD, List.getElem?_drop] using this
  · exact h

theorem aop_makeFunc {f : FuncId} {caps : Array Operand} (ho : o.op = .makeFunc (.func f) #[] caps) (hx : ∀ x, x ∈ caps.toList → Op.ok x = true) (hK : K (σ.put o.dst (.clo f (caps.toList.map fun x => capt σ (σ.eval x))))) : aop C o K σ := by
  refine aop_pure (by rw [ho]; rfl) hK fun G M a w hs => ⟨.func (.func f) #[] (caps.map a.eval), ?_, .clo f _ _ (by simp) fun j => ?_⟩
  · simp [execOp, ho, Instr.makeFunc]
  · have h1 : RepL G (caps.toList.map a.eval) (caps.toList.map fun x => capt σ (σ.eval x)) :=
      RepL.of_map caps.toList a.eval (fun x => capt σ (σ.eval x)) fun x hx' => capt_rep hs (eval_rep hs x (opOK (hx x hx')))
    have := h1.2 j
    simpa [Array.getD_eq_getD_getElem?, List.getD_eq_getElem?_getD] using this

/-- A piece of a slice: the right to append goes. -/
theorem aop_slice {t e : TypeId} {X : Operand} {lo hi : Option Operand} {d ed : TyD} {ow : Own} {xs : List AV} {l h : Nat} (ho : o.op = .slice t X lo hi none) (hX : Op.ok X = true) (hlo : ok? lo = true) (hhi : ok? hi = true) (ht : tyd P t = some d) (he : Abs.elemOf d = some e) (hed : tyd P e = some ed)
    (h1 : σ.eval X = .sl ow xs) (e1 : bound lo σ 0 = some l) (e2 : bound hi σ xs.length = some h) (hlh : l ≤ h) (hh : h ≤ xs.length) (hsz : ∀ x, x ∈ xs → x.flat.length = ed.size) (hK : K (σ.put o.dst (.sl .no ((xs.drop l).take (h - l))))) : aop C o K σ := by
  refine aop_pure (by rw [ho]; rfl) hK fun G M a w hs => ?_
  have hr := eval_rep hs X (opOK hX)
  rw [h1] at hr
  generalize hv : a.eval X = v at hr
  have hdesc := elemOf_some he
  have run : ∀ base cap, h ≤ cap → a.eval X = .slice base xs.length cap → (execOp a.eval o).run P w = .ok (.value (.slice (if cap = l then base else base.map (·.add (l * ed.size))) (h - l) (cap - l))) w := by
    intro base cap hc hv
    have hb := run_sliceBounds (P := P) hs true hlo hhi e1 e2 hlh hc
    simp only [execOp, ho, hv, Instr.sliceAt, Sem.run_bind, run_underlying' ht, Result.andThen_ok, hdesc, Instr.slice, Option.map_none, hb, run_sizeOf' hed, Sem.run_pure]
  cases hr with
  | slnil ow =>
    have h0 : h = 0 := by simpa using hh
    have l0 : l = 0 := by omega
    subst h0 l0
    have := run none 0 (Nat.le_refl _) hv
    exact ⟨_, this, by simpa using Rep.slnil .no⟩
  | sl ow b off sz cap xs cells hl hS hR hz hc hm hO =>
    have := run _ cap (by omega) hv
    by_cases hlen : (xs.drop l).take (h - l) = []
    · rw [hlen]
      have hz0 : h - l = 0 := by
        have := congrArg List.length hlen
        simp only [List.length_take, List.length_drop, List.length_nil] at this; omega
      rw [hz0] at this
      by_cases hcl : cap = l
      · rw [if_pos hcl] at this
        exact ⟨_, this, .sl .no b off 0 (cap - l) [] [] rfl (fun j hj => by simp at hj) (fun j => by simpa [flats] using Rep.undef) (by simp) (by simp) (by simp) trivial⟩
      · rw [if_neg hcl] at this
        simp only [Option.map_some, addr_add] at this
        exact ⟨_, this, .sl .no b _ 0 (cap - l) [] [] rfl (fun j hj => by simp at hj) (fun j => by simpa [flats] using Rep.undef) (by simp) (by simp) (by simp) trivial⟩
    · have hlt : l < h := by
        rcases Nat.lt_or_ge l h with g | g
        · exact g
        · exact absurd (by rw [show h - l = 0 by omega]; rfl) hlen
      rw [if_neg (by omega)] at this
      simp only [Option.map_some, addr_add] at this
      have hflen : ((xs.drop l).take (h - l)).length = h - l := by simp only [List.length_take, List.length_drop]; omega
      have hzz : sz = ed.size := by
        have hmem : xs[l]'(by omega) ∈ xs := List.getElem_mem _
        rw [← hz _ hmem, hsz _ hmem]
      subst hzz
      have hwin : flats ((xs.drop l).take (h - l)) = ((flats xs).drop (l * ed.size)).take ((h - l) * ed.size) := by
        have e1 : flats xs = flats (xs.take l) ++ (flats ((xs.drop l).take (h - l)) ++ flats (xs.drop h)) := by
          have : xs = xs.take l ++ ((xs.drop l).take (h - l) ++ xs.drop h) := by
            have h2 : (xs.drop l).drop (h - l) = xs.drop h := by rw [List.drop_drop]; congr 1; omega
            rw [← h2, List.take_append_drop, List.take_append_drop]
          conv => lhs; rw [this]
          simp [flats]
        have l1 : (flats (xs.take l)).length = l * ed.size := by
          rw [flats_length fun x hx => hz x (List.mem_of_mem_take hx)]; simp only [List.length_take]; rw [Nat.min_eq_left (by omega)]
        have l2 : (flats ((xs.drop l).take (h - l))).length = (h - l) * ed.size := by
          rw [flats_length fun x hx => hz x (List.mem_of_mem_drop (List.mem_of_mem_take hx)), hflen]
        rw [e1, ← l1, List.drop_left', ← l2, List.take_left']
        · rfl
        · rfl
      have hR' : RepL G.pure cells (flats xs) := ⟨hl, hR⟩
      have hW := hR'.window (l * ed.size) ((h - l) * ed.size)
      rw [← hwin] at hW
      refine ⟨_, this, ?_⟩
      have hrep := Rep.sl (G := G) .no b (off + l * ed.size) ed.size (cap - l) ((xs.drop l).take (h - l)) ((cells.drop (l * ed.size)).take ((h - l) * ed.size)) hW.1 (fun j hj => by
          simp only [List.length_take, List.length_drop] at hj
          rw [getD_drop_take _ _ _ _ _ (by omega), Nat.add_assoc]
          exact hS _ (by omega)) hW.2 (fun x hx => hz x (List.mem_of_mem_drop (List.mem_of_mem_take hx))) (by omega) (by omega) trivial
      rw [hflen] at hrep; exact hrep

/-! ### Lengths -/
theorem run_call_builtin {b : Builtin} {args : Array Operand} {ats : Array TypeId} (ho : o.op = .call { callee := .builtin b, args, argTypes := ats }) :
    (execOp a.eval o).run P w = (builtin b ats o.type (args.map fun | .const _ => true | _ => false) (args.map a.eval)).run P w := by
  simp only [execOp, ho, resolve, Sem.run_bind, Sem.run_pure, Result.andThen_ok, invoke]
  rfl
theorem aop_len {t e : TypeId} {X : Operand} {d : TyD} {ow : Own} {xs : List AV} (ho : o.op = .call { callee := .builtin .len, args := #[X], argTypes := #[t] }) (hX : Op.ok X = true) (ht : tyd P t = some d) (he : Abs.elemOf d = some e)
    (h1 : σ.eval X = .sl ow xs) (hK : xs.length ≤ maxN → K (σ.put o.dst (.lit (.int .i64 xs.length)))) : aop C o K σ := by
  intro ro n G M a w next Q hs hn
  have hr := eval_rep hs X (opOK hX)
  rw [h1] at hr
  have hm := hr.sl_len
  generalize hv : a.eval X = v at hr
  have hdesc := elemOf_some he
  have run : ∀ base cap, a.eval X = .slice base xs.length cap → (execOp a.eval o).run P w = .ok (.value (.int .i64 xs.length)) w := fun base cap hv => by
    rw [run_call_builtin ho]
    simp [builtin, Builtin.len_, hv, run_underlying' ht, hdesc, goInt]
  have hok : litOK (.int .i64 xs.length) := by
    have e1 : IntKind.i64.min = -9223372036854775808 := by decide
    have e2 : IntKind.i64.max = 9223372036854775807 := by decide
    simp only [maxN] at hm
    exact ⟨by rw [e1]; omega, by rw [e2]; omega⟩
  cases hr with
  | slnil ow => exact wpIn_of_run (by rw [ho]; rfl) (run none 0 hv) (hn _ _ _ _ _ (hK hm) (hs.put o.dst (.lit hok)))
  | sl ow b off sz cap xs cells => exact wpIn_of_run (by rw [ho]; rfl) (run _ cap hv) (hn _ _ _ _ _ (hK hm) (hs.put o.dst (.lit hok)))
theorem aop_len_str {t : TypeId} {X : Operand} {d : TyD} {s : ByteArray} (ho : o.op = .call { callee := .builtin .len, args := #[X], argTypes := #[t] }) (hX : Op.ok X = true) (ht : tyd P t = some d) (hd : d.desc = .string)
    (h1 : σ.eval X = .lit (.string s)) (hK : s.size ≤ maxN → K (σ.put o.dst (.lit (.int .i64 s.size)))) : aop C o K σ := by
  intro ro n G M a w next Q hs hn
  obtain ⟨hv, hm⟩ := eval_lit hs hX h1
  have run : (execOp a.eval o).run P w = .ok (.value (.int .i64 s.size)) w := by
    rw [run_call_builtin ho]
    simp [builtin, Builtin.len_, hv, run_underlying' ht, hd, goInt]
  have hok : litOK (.int .i64 s.size) := by
    have e1 : IntKind.i64.min = -9223372036854775808 := by decide
    have e2 : IntKind.i64.max = 9223372036854775807 := by decide
    simp only [litOK, maxN] at hm
    exact ⟨by rw [e1]; omega, by rw [e2]; omega⟩
  exact wpIn_of_run (by rw [ho]; rfl) run (hn _ _ _ _ _ (hK hm) (hs.put o.dst (.lit hok)))

/-! ### max, min -/
def foldInts (f : Int → Int → Int) : List Int → Option Int
  | [] => none
  | x :: l => some (l.foldl f x)
theorem max_ok {k : IntKind} {x y : Int} (hx : litOK (.int k x)) (hy : litOK (.int k y)) : litOK (.int k (if y > x then y else x)) ∧ litOK (.int k (if y < x then y else x)) := ⟨by split <;> assumption, by split <;> assumption⟩
theorem aop_max2 {t : Array TypeId} {X Y : Operand} {k : IntKind} {x y : Int} (ho : o.op = .call { callee := .builtin .max, args := #[X, Y], argTypes := t }) (hX : Op.ok X = true) (hY : Op.ok Y = true)
    (h1 : σ.eval X = .lit (.int k x)) (h2 : σ.eval Y = .lit (.int k y)) (hK : K (σ.put o.dst (.lit (.int k (if y > x then y else x))))) : aop C o K σ := by
  refine aop_pure (by rw [ho]; rfl) hK fun G M a w hs => ?_
  obtain ⟨e1, k1⟩ := eval_lit hs hX h1
  obtain ⟨e2, k2⟩ := eval_lit hs hY h2
  refine ⟨_, ?_, .lit (max_ok k1 k2).1⟩
  rw [run_call_builtin ho]
  simp [builtin, Builtin.max_, Builtin.max2, e1, e2]
theorem aop_min2 {t : Array TypeId} {X Y : Operand} {k : IntKind} {x y : Int} (ho : o.op = .call { callee := .builtin .min, args := #[X, Y], argTypes := t }) (hX : Op.ok X = true) (hY : Op.ok Y = true)
    (h1 : σ.eval X = .lit (.int k x)) (h2 : σ.eval Y = .lit (.int k y)) (hK : K (σ.put o.dst (.lit (.int k (if y < x then y else x))))) : aop C o K σ := by
  refine aop_pure (by rw [ho]; rfl) hK fun G M a w hs => ?_
  obtain ⟨e1, k1⟩ := eval_lit hs hX h1
  obtain ⟨e2, k2⟩ := eval_lit hs hY h2
  refine ⟨_, ?_, .lit (max_ok k1 k2).2⟩
  rw [run_call_builtin ho]
  simp [builtin, Builtin.min_, Builtin.min2, e1, e2]
end
end Go.Abs
