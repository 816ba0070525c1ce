/- Slices over variables of our own, that may be written. -/
import Derived.Test.YtlcajocjiehplaaZzOps6
set_option linter.unusedVariables false
set_option linter.unusedSimpArgs false
namespace Go.Abs
open Go Go.RowKit

section
variable {P : Program} {C : Ctx P} {G : Ghost} {M : Nat → Prop} {σ : Sta} {a : Act} {w w' : World} {o : Oper} {K : Sta → Prop}

theorem SR.boxCells (hs : SR C G M σ a w) {i b : Nat} {bc : BoxC} (hi : σ.H[i]? = some bc) (hb : G.box i = some b) :
    ∃ cells : List Value, RepL G cells bc.cells ∧ (∀ v, v ∈ cells → v.oneCell' = true) ∧ (∀ j, j < cells.length → w.cell? ⟨b, j, none⟩ = some (cells.getD j undef)) ∧
      (bc.wr = true → M b ∧ (∀ o, G.S b o = none) ∧ ∃ E, w.heap[b]? = some (.cells cells.toArray E (0, 0))) := by
  obtain ⟨b', e1, cells, e2⟩ := hs.boxes i bc hi
  rw [hb] at e1; cases e1
  cases hw : bc.wr with
  | true =>
    rw [hw] at e2
    obtain ⟨h1, ⟨E, h2⟩, h3, h4, h5⟩ := e2
    exact ⟨cells, h4, h5, fun j hj => by simp [World.cell?, h2, List.getD_eq_getElem?_getD, hj], fun _ => ⟨h1, h3, E, h2⟩⟩
  | false =>
    rw [hw] at e2
    refine ⟨cells, RepL.up e2.2 (fun _ _ _ e => e), fun v hv' => ?_, fun j hj => (hs.holds _ _ _ (e2.1 j hj)).1, fun h => by cases h⟩
    obtain ⟨j, hj, rfl⟩ := List.mem_iff_getElem.1 hv'
    have := (hs.holds _ _ _ (e2.1 j hj)).2
    rwa [List.getD_eq_getElem?_getD, List.getElem?_eq_getElem hj] at this

/-- What can be copied out of: n elements of z cells each, these cells. -/
def Src (σ : Sta) (z : Nat) (y : AV) (n : Nat) (cs : List AV) : Prop :=
  match y with
  | .sl _ ys => n = ys.length ∧ cs = flats ys ∧ ∀ x, x ∈ ys → x.flat.length = z
  | .bsl i off len _ => ∃ bc, σ.H[i]? = some bc ∧ n = len ∧ cs = (bc.cells.drop off).take (len * z) ∧ off + len * z ≤ bc.cells.length
  | _ => False

theorem src_run (hs : SR C G M σ a w) {v : Value} {y : AV} {z n : Nat} {cs : List AV} (hr : Rep G v y) (h : Src σ z y n cs) :
    n ≤ maxN ∧ cs.length = n * z ∧ ∃ base c news, v = .slice base n c ∧ n ≤ c ∧ c ≤ maxLen + c ∧ (base = none → n = 0 ∧ c = 0) ∧ RepL G news cs ∧ (∀ v, v ∈ news → v.oneCell' = true) ∧
      (∀ ad, base = some ad → ∀ j v, news[j]? = some v → w.cell? (ad.add j) = some v) := by
  cases hr with
  | slnil ow =>
    obtain ⟨rfl, rfl, h3⟩ := h
    exact ⟨Nat.zero_le _, by simp [flats], none, 0, [], rfl, Nat.le_refl _, by omega, fun _ => ⟨rfl, rfl⟩, .nil _, by simp, by simp⟩
  | sl ow b off sz cap xs cells hl hS hR hz hc hm hO =>
    obtain ⟨rfl, rfl, h3⟩ := h
    obtain ⟨k1, k2⟩ := cells_known hs.holds hS
    exact ⟨hm, flats_length h3, _, cap, cells, rfl, hc, by omega, (fun h => nomatch h), RepL.up (S := G.S) (⟨hl, hR⟩ : RepL G.pure cells (flats xs)) (fun _ _ _ e => e), k2, fun ad e => by cases e; exact k1⟩
  | bsl i off len cap b hb hc hm hx =>
    obtain ⟨bc, hi, rfl, rfl, hle⟩ := h
    obtain ⟨cells, k1, k2, k3, _⟩ := hs.boxCells hi hb
    have hlen : ((cells.drop off).take (n * z)).length = n * z := by have := k1.1; simp only [List.length_take, List.length_drop]; omega
    refine ⟨hm, by simp only [List.length_take, List.length_drop]; omega, _, cap, (cells.drop off).take (n * z), rfl, hc, by omega, (fun h => nomatch h), k1.window off (n * z), fun v hv => k2 v (List.mem_of_mem_drop (List.mem_of_mem_take hv)), fun ad e j v hv => ?_⟩
    cases e
    have hj : j < n * z := by
      rcases Nat.lt_or_ge j (n * z) with h | h
      · exact h
      · rw [List.getElem?_eq_none (by omega)] at hv; cases hv
    rw [addr_add, k3 (off + j) (by have := k1.1; omega)]
    have h2 := getD_drop_take cells off (n * z) j undef hj
    rw [List.getD_eq_getElem?_getD, hv] at h2
    rw [← h2]; rfl
  | _ => exact h.elim

theorem aop_indexAddr_b {t e : TypeId} {X I : Operand} {d ed : TyD} {i off len cap : Nat} {k : IntKind} {ix : Int} (ho : o.op = .indexAddr t X I) (ht : tyd P t = some d) (he : Abs.elemOf d = some e) (hed : tyd P e = some ed)
    (h1 : σ.eval X = .bsl i off len cap) (h2 : σ.eval I = .lit (.int k ix)) (h0 : 0 ≤ ix) (hi : ix < (len : Int)) (hK : K (σ.put o.dst (.bptr i (off + ix.toNat * ed.size)))) : aop C o K σ := by
  refine aop_pure (by rw [ho]; rfl) hK fun G M a w hs => ?_
  have hr := eval_rep hs X
  rw [h1] at hr
  have hi2 := (eval_lit hs rfl h2).1
  generalize hv : a.eval X = v at hr
  have hdesc := elemOf_some he
  cases hr with
  | bsl i off len cap b hb hc hm hx =>
    refine ⟨.pointer (some ⟨b, off + ix.toNat * ed.size, none⟩), ?_, .bptr _ _ b hb⟩
    simp only [execOp, ho, hv, hi2, Instr.indexAt, asIntOf, Sem.run_bind, Sem.run_pure, Result.andThen_ok, run_underlying' ht, hdesc, run_sizeOf' hed]
    rw [if_pos ⟨h0, hi⟩]
    simp only [Sem.run_bind, run_sizeOf' hed, Result.andThen_ok, Sem.run_pure, addr_add]

theorem aop_slice_b {t e : TypeId} {X : Operand} {lo hi : Option Operand} {d ed : TyD} {i off len cap l h : Nat} (ho : o.op = .slice t X lo hi none) (ht : tyd P t = some d) (he : Abs.elemOf d = some e) (hed : tyd P e = some ed)
    (h1 : σ.eval X = .bsl i off len cap) (e1 : bound lo σ 0 = some l) (e2 : bound hi σ len = some h) (hlh : l ≤ h) (hh : h ≤ cap) (hm : h ≤ maxN)
    (hK : K (σ.put o.dst (.bsl i (if cap = l then off else off + l * ed.size) (h - l) (cap - l)))) : aop C o K σ := by
  refine aop_pure (by rw [ho]; rfl) hK fun G M a w hs => ?_
  have hr := eval_rep hs X
  rw [h1] at hr
  generalize hv : a.eval X = v at hr
  have hdesc := elemOf_some he
  cases hr with
  | bsl i off len cap b hb hc hm' hx =>
    have hbnd := run_sliceBounds (P := P) hs true (by cases lo <;> rfl) (by cases hi <;> rfl) e1 e2 hlh hh
    refine ⟨.slice (if cap = l then some ⟨b, off, none⟩ else (some ⟨b, off, none⟩ : Option Addr).map (·.add (l * ed.size))) (h - l) (cap - l), ?_, ?_⟩
    · simp only [execOp, ho, hv, Instr.sliceAt, Sem.run_bind, run_underlying' ht, Result.andThen_ok, hdesc, Instr.slice, Option.map_none, hbnd, run_sizeOf' hed, Sem.run_pure]
    · by_cases hcl : cap = l
      · rw [if_pos hcl, if_pos hcl]
        exact .bsl i off _ _ b hb (by omega) (by omega) (by omega)
      · rw [if_neg hcl, if_neg hcl, Option.map_some, addr_add]
        exact .bsl i _ _ _ b hb (by omega) (by omega) (by omega)

theorem i64ok {n : Nat} (h : n ≤ maxLen) : litOK (.int .i64 n) := by
  have e1 : IntKind.i64.min = -9223372036854775808 := by decide
  have e2 : IntKind.i64.max = 9223372036854775807 := by decide
  simp only [maxLen] at h
  exact ⟨by rw [e1]; omega, by rw [e2]; omega⟩
theorem maxN_le : maxN ≤ maxLen := by simp [maxN, maxLen]

theorem aop_len_b {t e : TypeId} {X : Operand} {d : TyD} {i off len cap : Nat} (ho : o.op = .call { callee := .builtin .len, args := #[X], argTypes := #[t] }) (ht : tyd P t = some d) (he : Abs.elemOf d = some e)
    (h1 : σ.eval X = .bsl i off len cap) (hK : len ≤ maxN → len ≤ cap → K (σ.put o.dst (.lit (.int .i64 len)))) : aop C o K σ := by
  intro ro n G M a w next Q hs hn
  have hr := eval_rep hs X
  rw [h1] at hr
  generalize hv : a.eval X = v at hr
  have hdesc := elemOf_some he
  cases hr with
  | bsl i off len cap b hb hc hm hx =>
    have run : (execOp a.eval o).run P w = .ok (.value (.int .i64 len)) w := by
      rw [run_call_builtin ho]
      simp [builtin, Builtin.len_, hv, run_underlying' ht, hdesc, goInt]
    exact wpIn_of_run (by rw [ho]; rfl) run (hn _ _ _ _ _ (hK hm hc) (hs.put o.dst (.lit (i64ok (Nat.le_trans hm maxN_le)))))
theorem aop_cap_b {t e : TypeId} {X : Operand} {d : TyD} {i off len cap : Nat} (ho : o.op = .call { callee := .builtin .cap, args := #[X], argTypes := #[t] }) (ht : tyd P t = some d) (he : Abs.elemOf d = some e)
    (h1 : σ.eval X = .bsl i off len cap) (hK : len ≤ cap → cap ≤ maxLen → K (σ.put o.dst (.lit (.int .i64 cap)))) : aop C o K σ := by
  intro ro n G M a w next Q hs hn
  have hr := eval_rep hs X
  rw [h1] at hr
  generalize hv : a.eval X = v at hr
  have hdesc := elemOf_some he
  cases hr with
  | bsl i off len cap b hb hc hm hx =>
    have run : (execOp a.eval o).run P w = .ok (.value (.int .i64 cap)) w := by
      rw [run_call_builtin ho]
      simp [builtin, Builtin.cap_, hv, run_underlying' ht, hdesc, goInt]
    exact wpIn_of_run (by rw [ho]; rfl) run (hn _ _ _ _ _ (hK hc hx) (hs.put o.dst (.lit (i64ok hx))))

/-- copy into a slice of our own. -/
theorem aop_copy_b {t u e : TypeId} {X Y : Operand} {d ed : TyD} {i off len cap m : Nat} {bc : BoxC} {cy : List AV} (ho : o.op = .call { callee := .builtin .copy, args := #[X, Y], argTypes := #[t, u] }) (ht : tyd P t = some d) (he : Abs.elemOf d = some e) (hed : tyd P e = some ed)
    (h1 : σ.eval X = .bsl i off len cap) (h2 : Src σ ed.size (σ.eval Y) m cy) (hi : σ.H[i]? = some bc) (hw : bc.wr = true) (hl : off + len * ed.size ≤ bc.cells.length)
    (hK : K ({ σ with H := σ.H.set i (BoxC.mk (splice bc.cells off (cy.take (min m len * ed.size))) true) }.put o.dst (.lit (.int .i64 ((min m len : Nat) : Int))))) : aop C o K σ := by
  intro ro n G M a w next Q hs hn
  have hr := eval_rep hs X
  rw [h1] at hr
  have hry := eval_rep hs Y
  obtain ⟨hmN, hcl, base, c, news, hyv, hmc, _, hbn, hnr, hn1, hnk⟩ := src_run hs hry h2
  generalize hv : a.eval X = v at hr
  have hdesc := elemOf_some he
  cases hr with
  | bsl i off len cap b hb hc hm hx =>
    obtain ⟨cells, k1, k2, k3, k4⟩ := hs.boxCells hi hb
    obtain ⟨hM, hS, E, hh⟩ := k4 hw
    have hkm : min m len * ed.size ≤ m * ed.size := Nat.mul_le_mul_right _ (Nat.min_le_left _ _)
    have hkl : min m len * ed.size ≤ len * ed.size := Nat.mul_le_mul_right _ (Nat.min_le_right _ _)
    have hnl : news.length = m * ed.size := hnr.1.trans hcl
    have htl : (news.take (min m len * ed.size)).length = min m len * ed.size := by rw [List.length_take]; omega
    have hfirst : (Builtin.firstCells ed.size (min m len) (.slice base m c)).run P w = .ok (news.take (min m len * ed.size)).toArray w := by
      cases base with
      | none =>
        obtain ⟨rfl, rfl⟩ := hbn rfl
        have : news = [] := List.eq_nil_of_length_eq_zero (by omega)
        subst this
        simp [run_firstCells_none]
      | some ad =>
        refine run_firstCells_some (P := P) w ed.size (min m len) ad m c _ htl fun j v hv => ?_
        rw [List.getElem?_take] at hv
        split at hv
        · exact hnk ad rfl j v hv
        · cases hv
    have hst := run_storeCells_at P b off E (news.take (min m len * ed.size)) 0 cells.toArray w hh (by have := k1.1; simp only [List.size_toArray]; omega) (fun v hv => hn1 v (List.mem_of_mem_take hv))
    simp only [Nat.add_zero] at hst
    have hrun : (execOp a.eval o).run P w = .ok (.value (.int .i64 ((min m len : Nat) : Int))) (w.setRow b (splice cells off (news.take (min m len * ed.size))).toArray) := by
      rw [run_call_builtin ho]
      have hst' : (storeCells ⟨b, off, none⟩ (news.take (min m len * ed.size))).run P w = .ok () (w.setRow b (splice cells off (news.take (min m len * ed.size))).toArray) := hst
      simp [builtin, Builtin.copy_, hv, hyv, run_underlying' ht, hdesc, run_sizeOf' hed, Builtin.lenOf, goInt, hfirst, hst', Nat.min_def ▸ hfirst]
    have hnr' : RepL G (news.take (min m len * ed.size)) (cy.take (min m len * ed.size)) := by simpa using hnr.window 0 (min m len * ed.size)
    refine wpIn_of_run (by rw [ho]; rfl) hrun ?_
    have hs' := hs.setBox hi hb hw hh (k1.splice hnr' off) (fun c hc => by
        simp only [Abs.splice, List.mem_append] at hc
        rcases hc with (hc | hc) | hc
        · exact k2 c (List.mem_of_mem_take hc)
        · exact hn1 c (List.mem_of_mem_take hc)
        · exact k2 c (List.mem_of_mem_drop hc))
    exact hn _ _ _ _ _ hK (hs'.put o.dst (.lit (i64ok (Nat.le_trans (Nat.min_le_left _ _) (Nat.le_trans hmN maxN_le)))))

theorem zeroCells_mem {z : Array Value} {n : Nat} {v : Value} (h : v ∈ (Builtin.zeroCells z n).toList) : v ∈ z.toList := by
  simp only [Builtin.zeroCells, Array.toList_map, List.mem_map] at h
  obtain ⟨i, hi, rfl⟩ := h
  have hi' : i < n * z.size := by simpa using hi
  have hz : 0 < z.size := by
    rcases Nat.eq_zero_or_pos z.size with h | h
    · rw [h, Nat.mul_zero] at hi'; omega
    · exact h
  have : i % z.size < z.size := Nat.mod_lt _ hz
  simp [getElem!_pos, this]

/-- May be appended to, into a slice of our own. -/
def Dst (x : AV) (n : Nat) : Prop :=
  match x with
  | .sl .full _ => True
  | .bsl _ _ len _ => len = n
  | _ => False

theorem aop_append_b {t u e e' : TypeId} {X Y : Operand} {d du ed : TyD} {z : Value} {n m : Nat} {cx cy : List AV}
    (ho : o.op = .call { callee := .builtin .append, args := #[X, Y], argTypes := #[t, u] })
    (ht : tyd P t = some d) (he : Abs.elemOf d = some e) (hu : tyd P u = some du) (he' : Abs.elemOf du = some e') (hed : tyd P e = some ed) (hzv : ed.zero = some z) (hzs : z.cells.size = ed.size) (hz1 : (z.cells.toList.all fun v => v.oneCell') = true)
    (h1 : Src σ ed.size (σ.eval X) n cx) (hd : Dst (σ.eval X) n) (h2 : Src σ ed.size (σ.eval Y) m cy) (hm : n + m ≤ maxN) (hb : (n + m) * ed.bytes ≤ maxN)
    (hK0 : m = 0 → K (σ.put o.dst (σ.eval X)))
    (hKr : 0 < m → ∀ i off cap, σ.eval X = .bsl i off n cap → n + m ≤ cap → ∃ bc, σ.H[i]? = some bc ∧ bc.wr = true ∧ off + (n + m) * ed.size ≤ bc.cells.length ∧
      K ({ σ with H := σ.H.set i (BoxC.mk (splice bc.cells (off + n * ed.size) cy) true) }.put o.dst (.bsl i off (n + m) cap)))
    (hKg : 0 < m → (∀ i off cap, σ.eval X = .bsl i off n cap → cap < n + m) → ∀ cap' k, n + m ≤ cap' → k = (cap' - (n + m)) * ed.size → K ({ σ with H := σ.H ++ [BoxC.mk (cx ++ cy ++ List.replicate k AV.undef) true] }.put o.dst (.bsl σ.H.length 0 (n + m) cap'))) : aop C o K σ := by
  intro ro n' G M a w next Q hs hn
  have hrx := eval_rep hs X
  have hry := eval_rep hs Y
  obtain ⟨i, hi, hut, his, hib, hiz, _⟩ := tyd_some hed
  obtain ⟨_, _, hdt, _⟩ := tyd_some ht
  obtain ⟨_, _, hdu, _⟩ := tyd_some hu
  rw [elemOf_some he] at hdt
  rw [elemOf_some he'] at hdu
  rw [hzv] at hiz
  simp only [List.all_eq_true] at hz1
  obtain ⟨hnN, hxl, bx, cpx, nx, hxv, hnc, _, hxn, hxr, hx1, hxk⟩ := src_run hs hrx h1
  obtain ⟨hmN, hyl, by_, cpy, ny, hyv, hmc, _, hyn, hyr, hy1, hyk⟩ := src_run hs hry h2
  have hnx : nx.length = n * i.size := by rw [his]; exact hxr.1.trans hxl
  have hny : ny.length = m * i.size := by rw [his]; exact hyr.1.trans hyl
  have hcall := run_call_append (P := P) (a := a) (w := w) ho
  simp only [maxN] at hm hb
  by_cases hm0 : m = 0
  · subst hm0
    rw [hyv, hxv, run_append_none t u o.type e e' i hdt hdu hi bx n cpx by_ cpy hnc] at hcall
    refine wpIn_of_run (by rw [ho]; rfl) hcall ?_
    rw [hxv] at hrx
    exact hn _ _ _ _ _ (hK0 rfl) (hs.put o.dst hrx)
  · have hm1 : 0 < m := Nat.pos_of_ne_zero hm0
    cases by_ with
    | none => exact absurd (hyn rfl).1 hm0
    | some ady =>
      have hyk' := hyk ady rfl
      have grown : ∀ cap, (∀ i off cap, σ.eval X = .bsl i off n cap → cap < n + m) → cap < n + m →
          next (a.put o.dst (.slice (some ⟨w.heap.size, 0, none⟩) (n + m) (grownCap w (n + m) cap e)))
            (w.drew.alloc (.cells (nx.toArray ++ ny.toArray ++ Builtin.zeroCells z.cells (grownCap w (n + m) cap e - (n + m))) e)) := by
        intro cap hall hcap
        have hge := grownCap_ge w (n + m) cap e
        have hlem := grownCap_le_maxLen w (n + m) cap e (by simp only [maxLen]; omega)
        have hw : (w.drew.alloc (.cells (nx.toArray ++ ny.toArray ++ Builtin.zeroCells z.cells (grownCap w (n + m) cap e - (n + m))) e)) =
            w.drew.alloc (.cells (nx ++ ny ++ (Builtin.zeroCells z.cells (grownCap w (n + m) cap e - (n + m))).toList).toArray e (0, 0)) := by
          congr 2
          apply Array.ext'
          simp
        have hzl : (Builtin.zeroCells z.cells (grownCap w (n + m) cap e - (n + m))).toList.length = (grownCap w (n + m) cap e - (n + m)) * ed.size := by simp [size_zeroCells, hzs]
        have hzr : RepL G (Builtin.zeroCells z.cells (grownCap w (n + m) cap e - (n + m))).toList (List.replicate ((grownCap w (n + m) cap e - (n + m)) * ed.size) .undef) := by
          refine ⟨by rw [hzl, List.length_replicate], fun j => ?_⟩
          have : (List.replicate ((grownCap w (n + m) cap e - (n + m)) * ed.size) AV.undef).getD j .undef = .undef := by
            rw [List.getD_eq_getElem?_getD]
            by_cases hj : j < (grownCap w (n + m) cap e - (n + m)) * ed.size
            · simp [hj]
            · rw [List.getElem?_eq_none (by simpa using hj)]; rfl
          rw [this]; exact .undef
        have hzo : ∀ v, v ∈ (Builtin.zeroCells z.cells (grownCap w (n + m) cap e - (n + m))).toList → v.oneCell' = true := fun v hv => by
          refine hz1 v ?_
          exact zeroCells_mem hv
        obtain ⟨G', M', hle, hbx, hs'⟩ := hs.drew.newBox (nx ++ ny ++ (Builtin.zeroCells z.cells (grownCap w (n + m) cap e - (n + m))).toList) e _ ((hxr.append hyr).append hzr)
          (fun v hv => by
            rcases List.mem_append.1 hv with hv | hv
            · rcases List.mem_append.1 hv with hv | hv
              · exact hx1 v hv
              · exact hy1 v hv
            · exact hzo v hv)
        rw [hw]
        exact hn _ _ _ _ _ (hKg hm1 hall _ _ hge rfl) (hs'.put o.dst (.bsl _ 0 _ _ _ hbx hge (by simp only [maxN]; omega) hlem))
      have viaGrow : (∀ i off cap, σ.eval X = .bsl i off n cap → cap < n + m) → ∀ ad, bx = some ad → cpx < n + m → o.wpIn (fw ro) n' P a w next Q := fun hall ad had hcap => by
        subst had
        have hfit : Builtin.nextslicecap (n + m) cpx * i.bytes ≤ 281474976710656 := by
          have h2 := nextslicecap_le hcap
          have h3 : Builtin.nextslicecap (n + m) cpx * i.bytes ≤ 2 * (n + m) * i.bytes := Nat.mul_le_mul_right _ h2
          rw [Nat.mul_assoc, hib] at h3
          rw [hib]; omega
        have hrun := run_append_grow' (P := P) (w := w) t u o.type e e' i z hdt hdu hi hiz ad n cpx nx hnx (hxk ad rfl) ady m cpy ny hny hyk' hcap (by omega) hfit
        rw [hyv, hxv, hrun] at hcall
        refine wpIn_of_run (by rw [ho]; rfl) hcall ?_
        exact grown cpx hall hcap
      have viaNil : (∀ i off cap, σ.eval X = .bsl i off n cap → cap < n + m) → bx = none → o.wpIn (fw ro) n' P a w next Q := fun hall had => by
        subst had
        obtain ⟨rfl, rfl⟩ := hxn rfl
        have hnx0 : nx = [] := List.eq_nil_of_length_eq_zero (by omega)
        subst hnx0
        have hrun := run_append_nil' (P := P) (w := w) t u o.type e e' i z hdt hdu hi hiz ady m cpy ny hny hyk' hm1 (by omega) (by rw [hib]; simp only [Nat.zero_add] at hb; omega)
        rw [hyv, hxv, hrun] at hcall
        refine wpIn_of_run (by rw [ho]; rfl) hcall ?_
        have := grown 0 hall (by omega)
        show next _ _
        simpa using this
      generalize hx : σ.eval X = x at hrx h1 hd hKr hKg viaNil viaGrow grown
      rw [hxv] at hrx
      cases hrx with
      | slnil ow => exact viaNil (fun _ _ _ h => nomatch h) rfl
      | sl ow b off sz cap xs cells hl hS hR hz hc hmx hO =>
        cases ow with
        | full =>
          have : cpx = _ := hO
          exact viaGrow (fun _ _ _ h => nomatch h) _ rfl (by omega)
        | _ => exact hd.elim
      | bsl ib off len cap b hb' hc hmx hx' =>
        by_cases hroom : n + m ≤ cpx
        · obtain ⟨bc, hi', hw, hl, hk⟩ := hKr hm1 _ _ _ rfl hroom
          obtain ⟨cells, k1, k2, k3, k4⟩ := hs.boxCells hi' hb'
          obtain ⟨hM, hS, E, hh⟩ := k4 hw
          have hmul : (n + m) * ed.size = n * ed.size + m * ed.size := Nat.add_mul _ _ _
          have hfit : off + n * i.size + ny.length ≤ cells.toArray.size := by have := k1.1; simp only [List.size_toArray]; rw [hny, his]; omega
          have hrun := run_append_room' (P := P) (w := w) t u o.type e e' i hdt hdu hi b off n cpx cells.toArray E hh ady m cpy ny hny hyk' hy1 hroom hfit
          rw [hyv, hxv, hrun, his] at hcall
          refine wpIn_of_run (by rw [ho]; rfl) hcall ?_
          have hs' := hs.setBox hi' hb' hw hh (k1.splice hyr (off + n * ed.size)) (fun c hc => by
            simp only [Abs.splice, List.mem_append] at hc
            rcases hc with (hc | hc) | hc
            · exact k2 c (List.mem_of_mem_take hc)
            · exact hy1 c hc
            · exact k2 c (List.mem_of_mem_drop hc))
          exact hn _ _ _ _ _ hk (hs'.put o.dst (.bsl ib off (n + m) cpx b hb' hroom (by simp only [maxN]; omega) hx'))
        · exact viaGrow (fun _ _ _ h => by cases h; omega) _ rfl (by omega)
      | _ => exact hd.elim
end
end Go.Abs
