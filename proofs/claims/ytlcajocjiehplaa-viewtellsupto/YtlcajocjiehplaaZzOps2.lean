/- Rules for operations on variables, fields, elements. -/
import Derived.Test.YtlcajocjiehplaaZzMem
set_option linter.unusedVariables false
set_option linter.unusedSimpArgs false
namespace Go.Abs
open Go Go.RowKit

def Op.ok (_ : Operand) : Bool := true
theorem opOK {o : Operand} (_ : Op.ok o = true) : True := trivial

/-- What may be stored into cells. -/
def storable : AV → Bool
  | .undef | .tup _ => false
  | .lit v => v.oneCell'
  | _ => true
theorem Rep.cells {G : Ghost} {v : Value} {x : AV} (h : Rep G v x) (hs : storable x = true) : RepL G v.cells.toList x.flat ∧ ∀ c, c ∈ v.cells.toList → c.oneCell' = true := by
  cases h with
  | undef => cases hs
  | lit hv =>
    cases v <;> simp_all [storable, Value.oneCell', Value.cells, AV.flat] <;> exact RepL.cons (.lit hv) (.nil G)
  | slnil o => exact ⟨RepL.cons (.slnil o) (.nil G), by simp [Value.cells, Value.oneCell']⟩
  | sl o b off sz cap xs cells hl hS hR hz hc hm hO => exact ⟨RepL.cons (.sl o b off sz cap xs cells hl hS hR hz hc hm hO) (.nil G), by simp [Value.cells, Value.oneCell']⟩
  | agg vs cs hl h h1 => exact ⟨⟨by simpa [Value.cells, AV.flat] using hl, fun j => by simpa [Value.cells, AV.flat, Array.getD_eq_getD_getElem?, List.getD_eq_getElem?_getD] using h j⟩, by simpa [Value.cells] using h1⟩
  | tup vs cs hl h => cases hs
  | cptr b off cs cells hl hS hR => exact ⟨RepL.cons (.cptr b off cs cells hl hS hR) (.nil G), by simp [Value.cells, Value.oneCell']⟩
  | bptr i off b h => exact ⟨RepL.cons (.bptr i off b h) (.nil G), by simp [Value.cells, Value.oneCell']⟩
  | bsl i off len cap b h hc hm hx => exact ⟨RepL.cons (.bsl i off len cap b h hc hm hx) (.nil G), by simp [Value.cells, Value.oneCell']⟩
  | clo f vs cs hl h => exact ⟨RepL.cons (.clo f vs cs hl h) (.nil G), by simp [Value.cells, Value.oneCell']⟩
  | iface t v a h => exact ⟨RepL.cons (.iface t v a h) (.nil G), by simp [Value.cells, Value.oneCell']⟩
  | yld l h => exact ⟨RepL.cons (.yld l h) (.nil G), by simp [Value.cells, Value.oneCell']⟩

/-- A run of cells as one value. -/
def packed (d : TyD) (cs : List AV) : AV := if d.agg then .agg cs else cs.getD 0 .undef

theorem getD_drop_take {α : Type} (l : List α) (off n j : Nat) (x : α) (hj : j < n) : ((l.drop off).take n).getD j x = l.getD (off + j) x := by
  simp [List.getD_eq_getElem?_getD, List.getElem?_take, hj, List.getElem?_drop]
theorem RepL.window {G : Ghost} {vs : List Value} {cs : List AV} (h : RepL G vs cs) (off n : Nat) : RepL G ((vs.drop off).take n) ((cs.drop off).take n) := by
  refine ⟨by simp [h.1], fun j => ?_⟩
  by_cases hj : j < n
  · rw [getD_drop_take _ _ _ _ _ hj, getD_drop_take _ _ _ _ _ hj]; exact h.2 _
  · have : ((cs.drop off).take n).getD j .undef = .undef := by
      rw [List.getD_eq_getElem?_getD, List.getElem?_take, if_neg hj]; rfl
    rw [this]; exact .undef

section
variable {P : Program} {C : Ctx P} {G : Ghost} {M : Nat → Prop} {σ : Sta} {a : Act} {w : World}

theorem rep_packed {d : TyD} {vs : List Value} {cs : List AV} (h : RepL G vs cs) (h1 : ∀ v, v ∈ vs → v.oneCell' = true) : Rep G (if d.agg then .agg vs.toArray else vs.getD 0 undef) (packed d cs) := by
  unfold packed
  cases d.agg with
  | true => exact .agg _ _ (by simpa using h.1) (fun j => by simpa [Array.getD_eq_getD_getElem?, List.getD_eq_getElem?_getD] using h.2 j) (by simpa using h1)
  | false => exact h.2 0

/-- 'load' through a pointer to what stays as it is. -/
theorem aop_load_c {o : Oper} {t : TypeId} {x : Operand} {d : TyD} {cs : List AV} {K : Sta → Prop} (ho : o.op = .load t x) (hx : Op.ok x = true) (ht : tyd P t = some d) (ha : d.agg = true ∨ d.size = 1)
    (he : σ.eval x = .cptr cs) (hl : d.size ≤ cs.length) (hK : K (σ.put o.dst (packed d (cs.take d.size)))) : aop C o K σ := by
  refine aop_pure (by rw [ho]; rfl) hK fun G M a w hs => ?_
  have hr := eval_rep hs x (opOK hx)
  rw [he] at hr
  generalize hv : a.eval x = v at hr
  cases hr with
  | cptr b off cs cells hl' hS hR =>
    have hc : ∀ j, j < (cells.take d.size).length → w.cell? ⟨b, off + j, none⟩ = some ((cells.take d.size).getD j undef) := fun j hj => by
      simp only [List.length_take] at hj
      have := (hs.holds _ _ _ (hS j (by omega))).1
      rw [this, List.getD_eq_getElem?_getD, List.getD_eq_getElem?_getD, List.getElem?_take, if_pos (by omega)]
    have hrun := run_loadVar' (w := w) ht (b := b) (off := off) (cells.take d.size) (by simp only [List.length_take]; omega) hc ha
    generalize hV : (if d.agg = true then Value.agg _ else _) = V at hrun
    refine ⟨V, by simp only [execOp, ho, hv, Instr.loadAt, Instr.sureAddr, Sem.run_bind, Sem.run_pure, Result.andThen_ok, hrun], ?_⟩
    rw [← hV]
    refine rep_packed (d := d) ?_ ?_
    · have h0 : RepL (gp G.S) cells cs := ⟨hl', hR⟩
      have := (h0.up (G := G) (fun _ _ _ e => e)).window 0 d.size
      simpa using this
    · intro v hv'
      obtain ⟨j, hj, rfl⟩ := List.mem_iff_getElem.1 (List.mem_of_mem_take hv')
      have := (hs.holds _ _ _ (hS j hj)).2
      rwa [List.getD_eq_getElem?_getD, List.getElem?_eq_getElem hj] at this

/-- 'load' through a pointer into a variable of our own. -/
theorem aop_load_b {o : Oper} {t : TypeId} {x : Operand} {d : TyD} {i off : Nat} {bc : BoxC} {K : Sta → Prop} (ho : o.op = .load t x) (hx : Op.ok x = true) (ht : tyd P t = some d) (ha : d.agg = true ∨ d.size = 1)
    (he : σ.eval x = .bptr i off) (hi : σ.H[i]? = some bc) (hl : off + d.size ≤ bc.cells.length) (hK : K (σ.put o.dst (packed d ((bc.cells.drop off).take d.size)))) : aop C o K σ := by
  refine aop_pure (by rw [ho]; rfl) hK fun G M a w hs => ?_
  have hr := eval_rep hs x (opOK hx)
  rw [he] at hr
  generalize hv : a.eval x = v at hr
  cases hr with
  | bptr i off b hb =>
    obtain ⟨b', e1, cells, e2⟩ := hs.boxes i bc hi
    rw [hb] at e1; cases e1
    have key : RepL G cells bc.cells ∧ (∀ v, v ∈ cells → v.oneCell' = true) ∧ ∀ j, j < cells.length → w.cell? ⟨b, j, none⟩ = some (cells.getD j undef) := by
      cases hw : bc.wr with
      | true =>
        rw [hw] at e2
        obtain ⟨_, ⟨E, h2⟩, _, h4, h5⟩ := e2
        refine ⟨h4, h5, fun j hj => ?_⟩
        simp [World.cell?, h2, List.getD_eq_getElem?_getD, hj]
      | false =>
        rw [hw] at e2
        refine ⟨RepL.up e2.2 (fun _ _ _ e => e), fun v hv' => ?_, fun j hj => (hs.holds _ _ _ (e2.1 j hj)).1⟩
        obtain ⟨j, hj, rfl⟩ := List.mem_iff_getElem.1 hv'
        have := (hs.holds _ _ _ (e2.1 j hj)).2
        rwa [List.getD_eq_getElem?_getD, List.getElem?_eq_getElem hj] at this
    obtain ⟨k1, k2, k3⟩ := key
    have hlen : ((cells.drop off).take d.size).length = d.size := by have := k1.1; simp only [List.length_take, List.length_drop]; omega
    have hc : ∀ j, j < ((cells.drop off).take d.size).length → w.cell? ⟨b, off + j, none⟩ = some (((cells.drop off).take d.size).getD j undef) := fun j hj => by
      rw [getD_drop_take _ _ _ _ _ (by omega)]
      exact k3 (off + j) (by have := k1.1; omega)
    have hrun := run_loadVar' (w := w) ht (b := b) (off := off) _ hlen hc ha
    generalize hV : (if d.agg = true then Value.agg _ else _) = V at hrun
    refine ⟨V, by simp only [execOp, ho, hv, Instr.loadAt, Instr.sureAddr, Sem.run_bind, Sem.run_pure, Result.andThen_ok, hrun], ?_⟩
    rw [← hV]
    exact rep_packed (d := d) (k1.window off d.size) fun v hv' => k2 v (List.mem_of_mem_drop (List.mem_of_mem_take hv'))

def splice {α : Type} (l : List α) (off : Nat) (xs : List α) : List α := l.take off ++ xs ++ l.drop (off + xs.length)
theorem RepL.splice {G : Ghost} {vs us : List Value} {cs ds : List AV} (h : RepL G vs cs) (k : RepL G us ds) (off : Nat) : RepL G (Abs.splice vs off us) (Abs.splice cs off ds) := by
  unfold Abs.splice
  have h1 := h.window 0 off
  have h2 : RepL G (vs.drop (off + us.length)) (cs.drop (off + ds.length)) := by
    have := h.window (off + us.length) vs.length
    rw [List.take_of_length_le (by simp), List.take_of_length_le (by simp [h.1])] at this
    rw [← k.1]; exact this
  simp only [List.drop_zero] at h1
  exact (h1.append k).append h2

/-- 'store' into a variable of our own. -/
theorem aop_store {o : Oper} {t : TypeId} {x y : Operand} {d : TyD} {i off : Nat} {bc : BoxC} {K : Sta → Prop} (ho : o.op = .store t x y) (hx : Op.ok x = true) (hy : Op.ok y = true) (ht : tyd P t = some d)
    (he : σ.eval x = .bptr i off) (hi : σ.H[i]? = some bc) (hw : bc.wr = true) (hst : storable (σ.eval y) = true) (hf : (σ.eval y).flat.length = d.size) (hl : off + d.size ≤ bc.cells.length)
    (hK : K ({ σ with H := σ.H.set i (BoxC.mk (splice bc.cells off (σ.eval y).flat) true) }.put o.dst .undef)) : aop C o K σ := by
  intro ro n G M a w next Q hs hn
  have hr := eval_rep hs x (opOK hx)
  have hry := eval_rep hs y (opOK hy)
  rw [he] at hr
  generalize hv : a.eval x = v at hr
  cases hr with
  | bptr i off b hb =>
    obtain ⟨b', e1, cells, e2⟩ := hs.boxes i bc hi
    rw [hb] at e1; cases e1
    rw [hw] at e2
    obtain ⟨hM, ⟨E, h2⟩, hS, h4, h5⟩ := e2
    obtain ⟨hyc, hy1⟩ := hry.cells hst
    have hlen : (a.eval y).cells.toList.length = d.size := hyc.1.trans hf
    have hrun : (storeVar t ⟨b, off, none⟩ (a.eval y)).run P w = .ok () (w.setRow b (Abs.splice cells off (a.eval y).cells.toList).toArray) := by
      have hst := run_storeCells_at P b off E (a.eval y).cells.toList 0 cells.toArray w h2 (by have := h4.1; simp only [List.size_toArray]; omega) hy1
      simp only [Nat.add_zero] at hst
      simp only [storeVar, Sem.run_bind, run_sizeOf' ht, Result.andThen_ok]
      rw [if_neg (by simpa using hlen)]
      exact hst
    refine wpIn_of_run (r := .ok .skip (w.setRow b (Abs.splice cells off (a.eval y).cells.toList).toArray)) (by rw [ho]; rfl) ?_ ?_
    · simp only [execOp, ho, hv, Instr.storeAt, Instr.sureAddr, Sem.run_bind, Sem.run_pure, Result.andThen_ok, hrun]
    · have hs' := hs.setBox hi hb hw h2 (h4.splice hyc off) (fun c hc => by
        simp only [Abs.splice, List.mem_append] at hc
        rcases hc with (hc | hc) | hc
        · exact h5 c (List.mem_of_mem_take hc)
        · exact hy1 c hc
        · exact h5 c (List.mem_of_mem_drop hc))
      exact hn _ _ _ _ _ hK (hs'.put o.dst .undef)

/-- 'alloc': a new variable, at nought. -/
theorem aop_alloc {o : Oper} {t : TypeId} {d : TyD} {z : Value} {K : Sta → Prop} (ho : o.op = .alloc t) (ht : tyd P t = some d) (hz : d.zero = some z)
    (hk : (z.cells.toList.all fun v => v.oneCell') = true)
    (hK : K ({ σ with H := σ.H ++ [BoxC.mk (z.cells.toList.map cav) true] }.put o.dst (.bptr σ.H.length 0))) : aop C o K σ := by
  intro ro n G M a w next Q hs hn
  simp only [List.all_eq_true] at hk
  obtain ⟨G', M', hle, hb, hs'⟩ := hs.newBox z.cells.toList t (z.cells.toList.map cav)
    (by have := RepL.of_map (G := G) z.cells.toList id cav (fun x hx => .const G x); simpa using this) hk
  refine wpIn_of_run (r := .ok (.value (.pointer (some ⟨w.heap.size, 0, none⟩))) (w.alloc (.cells z.cells t (0, 0)))) (by rw [ho]; rfl) ?_ ?_
  · simp only [execOp, ho, Instr.alloc, Sem.run_bind, run_zeroValue' ht hz, Result.andThen_ok, newVar, newRow, run_newObj, Sem.run_pure, Sem.run_map]
    rfl
  · exact hn _ _ _ _ _ hK (hs'.put o.dst (.bptr _ 0 _ hb))

/-- 'box': a new variable with a value. -/
theorem aop_box {o : Oper} {t : TypeId} {x : Operand} {K : Sta → Prop} (ho : o.op = .box t x) (hx : Op.ok x = true) (hst : storable (σ.eval x) = true)
    (hK : K ({ σ with H := σ.H ++ [BoxC.mk (σ.eval x).flat true] }.put o.dst (.bptr σ.H.length 0))) : aop C o K σ := by
  intro ro n G M a w next Q hs hn
  have hr := (eval_rep hs x (opOK hx)).cells hst
  obtain ⟨G', M', hle, hb, hs'⟩ := hs.newBox (a.eval x).cells.toList t _ hr.1 hr.2
  refine wpIn_of_run (r := .ok (.value (.pointer (some ⟨w.heap.size, 0, none⟩))) (w.alloc (.cells (a.eval x).cells t (0, 0)))) (by rw [ho]; rfl) ?_ ?_
  · simp only [execOp, ho, Instr.box, Sem.run_bind, Result.andThen_ok, newVar, newRow, run_newObj, Sem.run_pure, Sem.run_map]
    rfl
  · exact hn _ _ _ _ _ hK (hs'.put o.dst (.bptr _ 0 _ hb))
end
end Go.Abs
