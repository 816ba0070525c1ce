/- More of slices of our own: made, lent, frozen. -/
import Derived.Test.YtlcajocjiehplaaZzBox
import Derived.Test.YtlcajocjiehplaaZzRet
set_option linter.unusedVariables false
set_option linter.unusedSimpArgs false
namespace Go.Abs
open Go Go.RowKit

section
variable {P : Program} {C : Ctx P} {G : Ghost} {M : Nat → Prop} {σ : Sta} {a : Act} {w w' : World} {o : Oper} {K : Sta → Prop}

theorem run_append_zeros_grow (t tn ty e : TypeId) (i : TypeInfo) (z : Value) (kn : IntKind) (ht : P.underlying t = some (.slice e)) (htn : P.underlying tn = some (.int kn)) (hi : P.info? e = some i) (hz : i.zero = some z)
    (base : Option Addr) (sLen sCap n : Nat) (olds : List Value) (hold : (Builtin.firstCells i.size sLen (.slice base sLen sCap)).run P w.drew = .ok olds.toArray w.drew)
    (hs0 : 0 < i.size) (hn0 : 0 < n) (hg : sCap < sLen + n) (h63 : ((sLen + n : Nat) : Int) ≤ 9223372036854775807) (hb : n * i.bytes ≤ 281474976710656) (hfit : Builtin.nextslicecap (sLen + n) sCap * i.bytes ≤ 281474976710656) :
    (Builtin.append_ #[t, tn] ty #[.slice base sLen sCap, .int .i64 n]).run P w =
      .ok (.slice (some ⟨w.heap.size, 0, none⟩) (sLen + n) (grownCap w (sLen + n) sCap e))
        (w.drew.alloc (.cells (olds.toArray ++ Builtin.zeroCells z.cells n ++ Builtin.zeroCells z.cells (grownCap w (sLen + n) sCap e - (sLen + n))) e)) := by
  have hn : ¬ (sLen + n ≤ sCap) := by omega
  have hw : IntKind.i64.wrap (n : Int) = n := by rw [IntKind.wrap_i64]; omega
  have h63' : ¬ (9223372036854775807 < ((sLen : Int) + (n : Int))) := by omega
  have h48' : ¬ (281474976710656 < Builtin.nextslicecap (sLen + n) sCap * i.bytes) := by omega
  have h48i : ¬ (281474976710656 < (n : Int) * (i.bytes : Int)) := by rw [← Int.natCast_mul]; omega
  have hneg : ¬ ((n : Int) < 0) := by omega
  have hns : ¬ (n * i.size = 0) := Nat.mul_ne_zero (by omega) (by omega)
  simp [Builtin.append_, run_underlying ht, run_underlying htn, sizeOf, typeInfo, zeroValue, hi, hz, asInt, asIntOf, hw, hn, hneg, hns, h63', h48', h48i, Question.forced, hold, newRow, grownCap]

def isInt (d : TyD) : Bool :=
  match d.desc with
  | .int _ => true
  | _ => false

/-- append(x, make([]T, m)...), where that goes beyond the room. -/
theorem aop_append_z {t u e : TypeId} {X Y : Operand} {d du ed : TyD} {z : Value} {n m : Nat} {cx : List AV}
    (ho : o.op = .call { callee := .builtin .append, args := #[X, Y], argTypes := #[t, u] })
    (ht : tyd P t = some d) (he : Abs.elemOf d = some e) (hu : tyd P u = some du) (hui : isInt du = true) (hed : tyd P e = some ed) (hzv : ed.zero = some z) (hzs : z.cells.size = ed.size) (hz1 : (z.cells.toList.all fun v => v.oneCell') = true) (hs0 : 0 < ed.size)
    (h1 : Src σ ed.size (σ.eval X) n cx) (hd : Dst (σ.eval X) n) (h2 : σ.eval Y = .lit (.int .i64 m)) (hm0 : 0 < m) (hm : n + m ≤ maxN) (hb : (n + m) * ed.bytes ≤ maxN)
    (hcap : ∀ i off cap, σ.eval X = .bsl i off n cap → cap < n + m)
    (hKg : ∀ cap' k, n + m ≤ cap' → k = (cap' - n) * ed.size → K ({ σ with H := σ.H ++ [BoxC.mk (cx ++ List.replicate k AV.undef) true] }.put o.dst (.bsl σ.H.length 0 (n + m) cap'))) : aop C o K σ := by
  intro ro n' G M a w next Q hs hn
  have hrx := eval_rep hs X
  obtain ⟨hyv, _⟩ := eval_lit hs rfl h2
  obtain ⟨i, hi, hut, his, hib, hiz, _⟩ := tyd_some hed
  obtain ⟨_, _, hdt, _⟩ := tyd_some ht
  obtain ⟨_, _, hdu, _⟩ := tyd_some hu
  rw [elemOf_some he] at hdt
  obtain ⟨kn, hkn⟩ : ∃ kn, du.desc = .int kn := by
    unfold isInt at hui; split at hui
    · exact ⟨_, by assumption⟩
    · cases hui
  rw [hkn] at hdu
  rw [hzv] at hiz
  simp only [List.all_eq_true] at hz1
  obtain ⟨hnN, hxl, bx, cpx, nx, hxv, hnc, _, hxn, hxr, hx1, hxk⟩ := src_run hs hrx h1
  have hnx : nx.length = n * i.size := by rw [his]; exact hxr.1.trans hxl
  have hcall := run_call_append (P := P) (a := a) (w := w) ho
  simp only [maxN] at hm hb
  have hcp : cpx < n + m := by
    generalize hx : σ.eval X = x at hrx h1 hd hcap
    rw [hxv] at hrx
    cases hrx with
    | slnil ow => omega
    | sl ow b off sz cap xs cells hl hS hR hz hc hmx hO =>
      cases ow with
      | full => have : cpx = _ := hO; omega
      | _ => exact hd.elim
    | bsl ib off len cap b hb' hc hmx hx' => exact hcap _ _ _ rfl
    | _ => exact hd.elim
  have hfirst : (Builtin.firstCells i.size n (.slice bx n cpx)).run P w.drew = .ok nx.toArray w.drew := by
    cases bx with
    | none =>
      obtain ⟨rfl, rfl⟩ := hxn rfl
      have : nx = [] := List.eq_nil_of_length_eq_zero (by omega)
      subst this
      simp [run_firstCells_none]
    | some ad => exact run_firstCells_some (P := P) w.drew i.size n ad n cpx _ hnx fun j v hv => hxk ad rfl j v hv
  have hfit : Builtin.nextslicecap (n + m) cpx * i.bytes ≤ 281474976710656 := by
    have h2 := nextslicecap_le hcp
    have h3 : Builtin.nextslicecap (n + m) cpx * i.bytes ≤ 2 * (n + m) * i.bytes := Nat.mul_le_mul_right _ h2
    rw [Nat.mul_assoc, hib] at h3
    rw [hib]; omega
  have hbm : m * i.bytes ≤ 281474976710656 := by
    have : m * i.bytes ≤ (n + m) * i.bytes := Nat.mul_le_mul_right _ (by omega)
    rw [hib] at this ⊢; omega
  have hrun := run_append_zeros_grow (P := P) (w := w) t u o.type e i z kn hdt hdu hi hiz bx n cpx m nx hfirst (by omega) hm0 hcp (by omega) hbm hfit
  rw [hyv, hxv, hrun] at hcall
  refine wpIn_of_run (by rw [ho]; rfl) hcall ?_
  have hge := grownCap_ge w (n + m) cpx e
  have hlem := grownCap_le_maxLen w (n + m) cpx e (by simp only [maxLen]; omega)
  have hw : (w.drew.alloc (.cells (nx.toArray ++ Builtin.zeroCells z.cells m ++ Builtin.zeroCells z.cells (grownCap w (n + m) cpx e - (n + m))) e)) =
      w.drew.alloc (.cells (nx ++ ((Builtin.zeroCells z.cells m).toList ++ (Builtin.zeroCells z.cells (grownCap w (n + m) cpx e - (n + m))).toList)).toArray e (0, 0)) := by
    congr 2
    apply Array.ext'
    simp
  have hzl : ((Builtin.zeroCells z.cells m).toList ++ (Builtin.zeroCells z.cells (grownCap w (n + m) cpx e - (n + m))).toList).length = (grownCap w (n + m) cpx e - n) * ed.size := by
    simp only [List.length_append, Array.length_toList, size_zeroCells, hzs, ← Nat.add_mul]
    congr 1; omega
  have hzr : RepL G ((Builtin.zeroCells z.cells m).toList ++ (Builtin.zeroCells z.cells (grownCap w (n + m) cpx e - (n + m))).toList) (List.replicate ((grownCap w (n + m) cpx e - n) * ed.size) AV.undef) := by
    refine ⟨by rw [hzl, List.length_replicate], fun j => ?_⟩
    have : (List.replicate ((grownCap w (n + m) cpx e - n) * ed.size) AV.undef).getD j .undef = .undef := by
      rw [List.getD_eq_getElem?_getD]
      by_cases hj : j < (grownCap w (n + m) cpx e - n) * ed.size
      · simp [hj]
      · rw [List.getElem?_eq_none (by simpa using hj)]; rfl
    rw [this]; exact .undef
  obtain ⟨G', M', hle, hbx, hs'⟩ := hs.drew.newBox (nx ++ ((Builtin.zeroCells z.cells m).toList ++ (Builtin.zeroCells z.cells (grownCap w (n + m) cpx e - (n + m))).toList)) e _ (hxr.append hzr)
    (fun v hv => by
      rcases List.mem_append.1 hv with hv | hv
      · exact hx1 v hv
      · rcases List.mem_append.1 hv with hv | hv
        · exact hz1 v (zeroCells_mem hv)
        · exact hz1 v (zeroCells_mem hv))
  rw [hw]
  exact hn _ _ _ _ _ (hKg _ _ hge rfl) (hs'.put o.dst (.bsl _ 0 _ _ _ hbx hge (by simp only [maxN]; omega) hlem))

/-- A slice written out, as one of our own. -/
theorem aop_buildSlice_b {t e : TypeId} {n : Nat} {parts : Array (Nat × Operand)} {d ed : TyD} {z : Value} (ho : o.op = .buildSlice t n parts)
    (ht : tyd P t = some d) (he : Abs.elemOf d = some e) (hed : tyd P e = some ed) (hz : ed.zero = some z) (hzs : z.cells.size = ed.size) (hs0 : 0 < ed.size) (hk : (z.cells.toList.all fun v => v.oneCell') = true) (hn : n * ed.size ≤ 2 ^ 24)
    (hidx : parts.toList.map Prod.fst = List.range n) (hst : ∀ x, x ∈ parts.toList → storable (σ.eval x.2) = true ∧ (σ.eval x.2).flat.length = ed.size)
    (hK : K ({ σ with H := σ.H ++ [BoxC.mk (flats (parts.toList.map fun (x : Nat × Operand) => σ.eval x.2)) true] }.put o.dst (.bsl σ.H.length 0 n n))) : aop C o K σ := by
  intro ro n' G M a w next Q hs hnx
  have hlen : parts.toList.length = n := by have := congrArg List.length hidx; simpa using this
  simp only [List.all_eq_true] at hk
  obtain ⟨zs, hzs'⟩ : ∃ zs : Array Value, zs = (Array.range (n * ed.size)).map (fun i => z.cells[i % z.cells.size]!) := ⟨_, rfl⟩
  have hzl : zs.size = n * ed.size := by rw [hzs']; simp
  have hzm : ∀ v, v ∈ zs.toList → v ∈ z.cells.toList := fun v hv => by
    rw [hzs'] at hv
    simp only [Array.toList_map, List.mem_map] at hv
    obtain ⟨i, _, rfl⟩ := hv
    have : i % z.cells.size < z.cells.size := Nat.mod_lt _ (by omega)
    simp [getElem!_pos, this]
  have hdense := afill_dense ed.size (parts.toList.map fun x => σ.eval x.2) 0 [] (zs.toList.map cav) (by simp) (by simp [hzl, hlen]) (fun x hx' => by
    obtain ⟨p, hp, rfl⟩ := List.mem_map.1 hx'; exact hst p hp)
  have hzip : (List.range' 0 (parts.toList.map fun x => σ.eval x.2).length).zip (parts.toList.map fun x => σ.eval x.2) = parts.toList.map fun x => (x.1, σ.eval x.2) := by
    rw [List.length_map, hlen, ← List.range_eq_range', ← hidx, List.zip_map']
  rw [hzip] at hdense
  simp only [List.nil_append] at hdense
  obtain ⟨us, e1, e2, e3⟩ := fill_sound (G := G) (fun i => some (i * ed.size, ed.size)) (parts.toList.map fun x => (x.1, a.eval x.2)) (parts.toList.map fun x => (x.1, σ.eval x.2)) zs (zs.toList.map cav) _
    (by simp [Function.comp_def]) (fun j => by
      have := (evals_rep hs (parts.toList.map Prod.snd) (fun x hx' => rfl)).2 j
      simpa [Function.comp_def, List.map_map] using this)
    (by have := RepL.of_map (G := G) zs.toList id cav (fun x hx => .const G x); simpa using this) (fun v hv => hk v (hzm v hv)) hdense
  obtain ⟨G', M', hle, hbx, hs'⟩ := hs.newBox us.toList e _ e2 e3
  refine wpIn_of_run (r := .ok (.value (.slice (some ⟨w.heap.size, 0, none⟩) n n)) (w.alloc (.cells us e (0, 0)))) (by rw [ho]; rfl) ?_ ?_
  · have hcond : ¬ n * ed.size > 2 ^ 24 := by omega
    have hdesc := elemOf_some he
    have hfill : Instr.fill (fun i => some (i * ed.size, ed.size)) zs (parts.map fun (i, x) => (i, a.eval x)).toList = some us := by
      rw [← e1]; simp
    by_cases h0 : n * ed.size = 0
    · have hz0 : zs = #[] := Array.eq_empty_of_size_eq_zero (by omega)
      rw [hz0] at hfill
      have hr0 : ∀ f : Nat → Value, Array.map f (Array.range 0) = #[] := fun f => by apply Array.ext'; simp
      have hc0 : ¬ 0 > 2 ^ 24 := by decide
      simp only [execOp, ho, Instr.buildSlice, Sem.run_bind, run_underlying' ht, Result.andThen_ok, hdesc, run_sizeOf' hed, h0, if_neg hc0, if_true, Sem.run_pure, hr0, hfill, newRow, run_newObj]
      rfl
    · simp only [execOp, ho, Instr.buildSlice, Sem.run_bind, run_underlying' ht, Result.andThen_ok, hdesc, run_sizeOf' hed, if_neg hcond, if_neg h0, run_zeroValue' hed hz, Sem.run_pure]
      rw [← hzs']
      simp only [hfill, newRow, run_newObj, Sem.run_bind, Sem.run_pure, Result.andThen_ok]
      rfl
  · have hle : n ≤ 2 ^ 24 := Nat.le_trans (Nat.le_mul_of_pos_right n hs0) hn
    exact hnx _ _ _ _ _ hK (hs'.put o.dst (.bsl _ 0 n n _ hbx (Nat.le_refl _) (by simp only [maxN]; omega) (by simp only [maxLen]; omega)))

/-! ### Another reading of a state -/
def Sta.to (C : Ctx P) (σ σ' : Sta) : Prop := ∀ G M a w, SR C G M σ a w → ∃ G' M', SR C G' M' σ' a w
theorem Sta.to.refl : Sta.to C σ σ := fun G M a w h => ⟨G, M, h⟩
theorem Sta.to.trans {σ' σ'' : Sta} (h : Sta.to C σ σ') (k : Sta.to C σ' σ'') : Sta.to C σ σ'' := fun G M a w hs => by
  obtain ⟨G', M', hs'⟩ := h G M a w hs
  exact k G' M' a w hs'
theorem awp_to {c : Code} {Q : Exit → Sta → Prop} {σ' : Sta} (h : Sta.to C σ σ') (k : awp C c Q σ') : awp C c Q σ := fun n G M a w hs => by
  obtain ⟨G', M', hs'⟩ := h G M a w hs
  exact k n G' M' a w hs'
theorem aop_to {σ' : Sta} (h : Sta.to C σ σ') (k : aop C o K σ') : aop C o K σ := fun ro n G M a w next Q hs hn => by
  obtain ⟨G', M', hs'⟩ := h G M a w hs
  exact k ro n G' M' a w next Q hs' hn
theorem awp_post_to {c : Code} {Q : Exit → Sta → Prop} (h : awp C c (fun e σ => ∃ σ', Sta.to C σ σ' ∧ Q e σ') σ) : awp C c Q σ := fun n G M a w hs => by
  refine Go.wpIn_mono (h n G M a w hs) ?_
  rintro e a w ⟨G, M, σ, ⟨σ', h1, h2⟩, hs⟩
  obtain ⟨G', M', hs'⟩ := h1 G M a w hs
  exact ⟨G', M', σ', h2, hs'⟩

/-- A slice of our own becomes one that stays as it is. -/
theorem to_sl {t i off len cap z : Nat} {bc : BoxC} {xs : List AV} (ht : σ.get t = .bsl i off len cap) (hi : σ.H[i]? = some bc) (hx : flats xs = (bc.cells.drop off).take (len * z)) (hz : ∀ x, x ∈ xs → x.flat.length = z) (hl : len = xs.length) (hle : off + len * z ≤ bc.cells.length) :
    Sta.to C σ { σ with H := σ.H.set i ⟨bc.cells.map AV.weak, false⟩, env := fun k => if k = t then .sl .no (xs.map AV.weak) else σ.env k } := by
  intro G M a w hs
  obtain ⟨G', hs'⟩ := hs.freeze hi
  refine ⟨G', M, hs'.env' (σ' := { σ with H := σ.H.set i ⟨bc.cells.map AV.weak, false⟩, env := fun k => if k = t then .sl .no (xs.map AV.weak) else σ.env k }) rfl rfl rfl rfl rfl (by exact hs'.size) fun k => ?_⟩
  by_cases hk : k = t
  · subst hk
    simp only [Sta.get, if_true]
    have hr := hs'.env k
    rw [show Sta.get { σ with H := σ.H.set i ⟨bc.cells.map AV.weak, false⟩ } k = σ.get k from rfl, ht] at hr
    generalize hv : a.tmps.getD k undef = v at hr
    cases hr with
    | bsl i off len cap b hb hc hm hx' =>
      have hil : i < σ.H.length := by
        rcases Nat.lt_or_ge i σ.H.length with h | h
        · exact h
        · rw [List.getElem?_eq_none h] at hi; cases hi
      obtain ⟨b', e1, cells, e2⟩ := hs'.boxes i ⟨bc.cells.map AV.weak, false⟩ (by simp [hil])
      rw [hb] at e1; cases e1
      obtain ⟨e2, e3⟩ := e2
      have hfl : flats (xs.map AV.weak) = ((bc.cells.map AV.weak).drop off).take (len * z) := by rw [weak_flats, hx, List.map_take, List.map_drop]
      have hW := e3.window off (len * z)
      rw [← hfl] at hW
      have hcl : cells.length = bc.cells.length := by have := e3.1; simpa using this
      have := Rep.sl (G := G') .no b off z cap (xs.map AV.weak) ((cells.drop off).take (len * z)) hW.1 (fun j hj => by
          simp only [List.length_take, List.length_drop] at hj
          rw [getD_drop_take _ _ _ _ _ (by omega)]
          exact e2 _ (by omega)) hW.2 (fun x hx => by
          obtain ⟨y, hy, rfl⟩ := List.mem_map.1 hx
          rw [weak_flat, List.length_map]; exact hz y hy) (by rw [List.length_map]; omega) (by rw [List.length_map]; omega) trivial
      rw [List.length_map, ← hl] at this
      exact this
  · simp only [Sta.get, if_neg hk]
    exact hs'.env k
end
end Go.Abs
