/- Rules for operations that make memory which stays as it is; pieces of slices; lengths. -/
import Derived.Test.YtlcajocjiehplaaZzRet
set_option linter.unusedVariables false
set_option linter.unusedSimpArgs false
namespace Go.Abs
open Go Go.RowKit

section
variable {P : Program} {C : Ctx P} {G : Ghost} {M : Nat → Prop} {σ : Sta} {a : Act} {w w' : World} {o : Oper} {K : Sta → Prop}

/-- A new block that stays as it is. -/
theorem SR.commit (hs : SR C G M σ a w) {E : TypeId} {cells : List Value} (h1 : ∀ v, v ∈ cells → v.oneCell' = true) :
    G.le (G.withS (addS G.S w.heap.size 0 cells)) ∧ SR C (G.withS (addS G.S w.heap.size 0 cells)) M σ a (w.alloc (.cells cells.toArray E (0, 0))) := by
  have hS0 : ∀ o v, G.S w.heap.size o = some v → False := fun o v e => absurd (hs.holds.lt e) (Nat.lt_irrefl _)
  have hsub : Shadow.le G.S (addS G.S w.heap.size 0 cells) := fun b o v e => by
    by_cases h : b = w.heap.size
    · subst h; exact (hS0 o v e).elim
    · rw [addS_ne h]; exact e
  have hle : G.le (G.withS (addS G.S w.heap.size 0 cells)) := withS_le hsub
  have hh : (w.alloc (.cells cells.toArray E (0, 0))).heap[w.heap.size]? = some (.cells cells.toArray E (0, 0)) := SR.alloc_new w _
  have hholds : Holds (addS G.S w.heap.size 0 cells) (w.alloc (.cells cells.toArray E (0, 0))) := by
    intro b o v e
    simp only [addS] at e
    split at e
    · rename_i hin
      obtain ⟨rfl, h2, h3⟩ := hin
      cases e
      have ho : o < cells.length := by omega
      refine ⟨by unfold World.cell?; rw [show (⟨w.heap.size, o, none⟩ : Addr).block = w.heap.size from rfl, hh]; simp [List.getD_eq_getElem?_getD, ho], ?_⟩
      rw [Nat.sub_zero, List.getD_eq_getElem?_getD, List.getElem?_eq_getElem ho]
      exact h1 _ (List.getElem_mem ho)
    · exact hs.holds.alloc _ b o v e
  refine ⟨hle, hs.next (G' := G.withS (addS G.S w.heap.size 0 cells)) ⟨rfl, rfl, rfl, by simp, hsub, hholds, fun b hb _ => ⟨Below.heap_alloc w _ b hb, fun o => addS_ne (by omega)⟩⟩ hle (fun b hb => ?_) (fun _ h => h) (fun _ h => .inl h) (fun b hb => by have := hs.mlt b hb; simp; omega) rfl rfl rfl rfl⟩
  have := hs.mlt b hb
  exact ⟨Below.heap_alloc w _ b this, fun o => addS_ne (by omega)⟩

theorem splice_cons {α : Type} (l : List α) (p : Nat) (v : α) (vs : List α) (hp : p < l.length) : splice (l.set p v) (p + 1) vs = splice l p (v :: vs) := by
  have e1 : (l.set p v).take (p + 1) = l.take p ++ [v] := by
    rw [List.take_add_one, List.take_set_of_le (Nat.le_refl p)]
    simp [hp]
  have e2 : (l.set p v).drop (p + 1 + vs.length) = l.drop (p + 1 + vs.length) := List.drop_set_of_lt (by omega)
  simp only [splice, e1, e2, List.length_cons, List.append_assoc, List.singleton_append]
  rw [show p + (vs.length + 1) = p + 1 + vs.length by omega]
theorem zipIdx_fold (off : Nat) : ∀ (vs : List Value) (k : Nat) (cs : Array Value), off + k + vs.length ≤ cs.size →
    ((vs.zipIdx k).foldl (fun cs (c, j) => cs.setIfInBounds (off + j) c) cs).toList = splice cs.toList (off + k) vs
  | [], k, cs, h => by simp [splice]
  | v :: vs, k, cs, h => by
    simp only [List.zipIdx_cons, List.foldl_cons]
    rw [zipIdx_fold off vs (k + 1) _ (by simp at h ⊢; omega)]
    simp only [Array.toList_setIfInBounds]
    exact splice_cons cs.toList (off + k) v vs (by simp at h ⊢; omega)

/-- 'fill' on abstract cells. -/
def afill (place : Nat → Option (Nat × Nat)) : List AV → List (Nat × AV) → Option (List AV)
  | cells, [] => some cells
  | cells, (i, v) :: rest =>
    match place i with
    | none => none
    | some (off, size) => if storable v = true ∧ v.flat.length = size ∧ off + size ≤ cells.length then afill place (splice cells off v.flat) rest else none

theorem fill_sound {G : Ghost} (place : Nat → Option (Nat × Nat)) : ∀ (ps : List (Nat × Value)) (qs : List (Nat × AV)) (vs : Array Value) (cs r : List AV),
    ps.map Prod.fst = qs.map Prod.fst → (∀ j, Rep G ((ps.map Prod.snd).getD j undef) ((qs.map Prod.snd).getD j .undef)) → RepL G vs.toList cs → (∀ v, v ∈ vs.toList → v.oneCell' = true) → afill place cs qs = some r →
    ∃ us, Instr.fill place vs ps = some us ∧ RepL G us.toList r ∧ ∀ v, v ∈ us.toList → v.oneCell' = true
  | [], [], vs, cs, r, _, _, hv, h1, h => by simp only [afill, Option.some.injEq] at h; subst h; exact ⟨vs, rfl, hv, h1⟩
  | [], _ :: _, _, _, _, h, _, _, _, _ => by simp at h
  | _ :: _, [], _, _, _, h, _, _, _, _ => by simp at h
  | (i, p) :: ps, (k, q) :: qs, vs, cs, r, hi, hr, hv, h1, h => by
    simp only [List.map_cons, List.cons.injEq] at hi
    obtain ⟨rfl, hi⟩ := hi
    have h0 : Rep G p q := by simpa using hr 0
    simp only [afill] at h
    split at h
    · cases h
    · rename_i off size hp
      split at h
      · rename_i hc
        obtain ⟨hst, hf, hl⟩ := hc
        obtain ⟨hc1, hc2⟩ := h0.cells hst
        have hsz : p.cells.size = size := by have := hc1.1; simp at this; omega
        have hvl : vs.size = cs.length := by have := hv.1; simpa using this
        have key := zipIdx_fold off p.cells.toList 0 vs (by simp; omega)
        rw [Nat.add_zero] at key
        obtain ⟨us, e1, e2, e3⟩ := fill_sound place ps qs (p.cells.toList.zipIdx.foldl (fun cs (c, j) => cs.setIfInBounds (off + j) c) vs) (splice cs off q.flat) r hi
          (fun j => by simpa using hr (j + 1)) (by rw [key]; exact hv.splice hc1 off) (fun v hv' => by
            rw [key] at hv'
            simp only [splice, List.mem_append] at hv'
            rcases hv' with (h | h) | h
            · exact h1 v (List.mem_of_mem_take h)
            · exact hc2 v h
            · exact h1 v (List.mem_of_mem_drop h)) h
        refine ⟨us, ?_, e2, e3⟩
        simp only [Instr.fill, hp]
        rw [if_neg (by simp; omega)]
        rw [← e1]
        congr 1
        rw [← Array.foldl_toList, Array.toList_zipIdx]
      · cases h

def fieldsOf (d : TyD) : Option (List Field) :=
  match d.desc with
  | .struct fs => some fs.toList
  | _ => none
/-- Where the fields of a struct lie, and how many cells they take. -/
def placesOf (P : Program) (fs : List Field) : Option (List (Nat × Nat)) := fs.mapM fun f => (tyd P f.type).map fun d => (f.offset, d.size)

theorem run_places' {fs : List Field} {ps : List (Nat × Nat)} (h : placesOf P fs = some ps) : (fs.mapM fun f => do pure (f.offset, ← sizeOf f.type) : Sem (List (Nat × Nat))).run P w = .ok ps w := by
  induction fs generalizing ps with
  | nil => simp [placesOf] at h; subst h; rfl
  | cons f fs ih =>
    simp only [placesOf, List.mapM_cons] at h
    cases hf : tyd P f.type with
    | none => rw [hf] at h; cases h
    | some d =>
      cases hl : fs.mapM (fun f => (tyd P f.type).map fun d => (f.offset, d.size)) with
      | none => rw [hf, hl] at h; cases h
      | some qs =>
        rw [hf, hl] at h
        cases h
        simp only [List.mapM_cons, Sem.run_bind, run_sizeOf' hf, Result.andThen_ok, Sem.run_pure, ih hl]

theorem run_build' {t : TypeId} {d : TyD} {z : Value} {fs : List Field} {ps : List (Nat × Nat)} {parts : Array (Nat × Value)} {us : Array Value} (ht : tyd P t = some d) (hz : d.zero = some z) (hf : fieldsOf d = some fs) (hp : placesOf P fs = some ps)
    (h : Instr.fill (ps[·]?) z.cells parts.toList = some us) : (Instr.build t parts).run P w = .ok (.agg us) w := by
  unfold fieldsOf at hf
  split at hf
  · rename_i fa hd
    cases hf
    have hpl := run_places' (P := P) (w := w) hp
    have e : ∀ i : Nat, ps.toArray[i]? = ps[i]? := fun i => by simp
    simp only [Instr.build, Sem.run_bind, run_zeroValue' ht hz, Result.andThen_ok, run_underlying' ht, hd, Array.mapM_eq_mapM_toList, Sem.run_map]
    refine Eq.trans (congrArg (fun r => Result.andThen (Result.andThen r fun a w' => Result.ok a.toArray w') _) (?_ : _ = Result.ok ps w)) ?_
    · exact hpl
    · simp only [Result.andThen_ok]
      have : Instr.fill (fun x => ps.toArray[x]?) z.cells parts.toList = some us := by
        rw [show (fun x => ps.toArray[x]?) = (ps[·]?) from funext e]; exact h
      rw [this]
      rfl
  · cases hf

/-- A struct written out. -/
theorem aop_build {t : TypeId} {parts : Array (Nat × Operand)} {d : TyD} {z : Value} {fs : List Field} {ps : List (Nat × Nat)} {cs : List AV} (ho : o.op = .build t parts) (hx : ∀ x, x ∈ parts.toList → Op.ok x.2 = true)
    (ht : tyd P t = some d) (hz : d.zero = some z) (hf : fieldsOf d = some fs) (hp : placesOf P fs = some ps) (hk : (z.cells.toList.all fun v => v.oneCell') = true)
    (h : afill (ps[·]?) (z.cells.toList.map cav) (parts.toList.map fun x => (x.1, σ.eval x.2)) = some cs) (hK : K (σ.put o.dst (.agg cs))) : aop C o K σ := by
  simp only [List.all_eq_true] at hk
  refine aop_pure (by rw [ho]; rfl) hK fun G M a w hs => ?_
  obtain ⟨us, e1, e2, e3⟩ := fill_sound (G := G) (ps[·]?) (parts.toList.map fun x => (x.1, a.eval x.2)) (parts.toList.map fun x => (x.1, σ.eval x.2)) z.cells (z.cells.toList.map cav) cs
    (by simp [Function.comp_def]) (fun j => by
      have := (evals_rep hs (parts.toList.map Prod.snd) (fun x hx' => by
        obtain ⟨p, hp, rfl⟩ := List.mem_map.1 hx'; exact hx p hp)).2 j
      simpa [Function.comp_def, List.map_map] using this)
    (by have := RepL.of_map (G := G) z.cells.toList id cav (fun x hx => .const G x); simpa using this) (fun v hv => hk v hv) h
  refine ⟨.agg us, ?_, .agg us cs (by have := e2.1; simpa using this) (fun j => by have := e2.2 j; simpa [Array.getD_eq_getD_getElem?, List.getD_eq_getElem?_getD] using this) (fun v hv => e3 v (by simpa using hv))⟩
  simp only [execOp, ho, Sem.run_bind]
  rw [run_build' (P := P) (w := w) ht hz hf hp (us := us) (by simpa using e1)]
  rfl

/-- Parts in their order fill a row. -/
theorem afill_dense (sz : Nat) : ∀ (xs : List AV) (k : Nat) (pre rest : List AV), pre.length = k * sz → rest.length = xs.length * sz → (∀ x, x ∈ xs → storable x = true ∧ x.flat.length = sz) →
    afill (fun i => some (i * sz, sz)) (pre ++ rest) ((List.range' k xs.length).zip xs) = some (pre ++ flats xs)
  | [], k, pre, rest, h1, h2, h3 => by
    have : rest = [] := List.eq_nil_of_length_eq_zero (by simpa using h2)
    subst this; simp [afill, flats]
  | x :: xs, k, pre, rest, h1, h2, h3 => by
    obtain ⟨hs, hx⟩ := h3 x (by simp)
    simp only [List.length_cons, Nat.succ_mul] at h2
    simp only [List.length_cons, List.range'_succ, List.zip_cons_cons, afill]
    rw [if_pos ⟨hs, hx, by simp; omega⟩]
    have e : splice (pre ++ rest) (k * sz) x.flat = (pre ++ x.flat) ++ rest.drop sz := by
      simp only [splice]
      rw [← h1, List.take_left', List.drop_append, List.drop_of_length_le (by omega), hx]
      · simp
      · rfl
    rw [e, afill_dense sz xs (k + 1) (pre ++ x.flat) (rest.drop sz) (by simp [h1, hx, Nat.succ_mul]) (by simp; omega) (fun y hy => h3 y (by simp [hy]))]
    simp [flats]

theorem weak_flat (x : AV) : x.weak.flat = x.flat.map AV.weak := by
  cases x <;> simp [AV.weak, AV.flat, weakL_map]
theorem weak_flats (xs : List AV) : flats (xs.map AV.weak) = (flats xs).map AV.weak := by
  induction xs with
  | nil => rfl
  | cons x xs ih => simp only [flats, List.map_cons, List.flatMap_cons, List.map_append, weak_flat] at ih ⊢; rw [ih]

/-- A slice written out. -/
theorem aop_buildSlice {t e : TypeId} {n : Nat} {parts : Array (Nat × Operand)} {d ed : TyD} {z : Value} (ho : o.op = .buildSlice t n parts) (hx : ∀ x, x ∈ parts.toList → Op.ok x.2 = true)
    (ht : tyd P t = some d) (he : Abs.elemOf d = some e) (hed : tyd P e = some ed) (hz : ed.zero = some z) (hzs : z.cells.size = ed.size) (hs0 : 0 < ed.size) (hk : (z.cells.toList.all fun v => v.oneCell') = true) (hn : n * ed.size ≤ 2 ^ 24)
    (hidx : parts.toList.map Prod.fst = List.range n) (hst : ∀ x, x ∈ parts.toList → storable (σ.eval x.2) = true ∧ (σ.eval x.2).flat.length = ed.size)
    (hK : K (σ.put o.dst (.sl .full (parts.toList.map fun x => (σ.eval x.2).weak)))) : aop C o K σ := by
  intro ro n' G M a w next Q hs hnx
  have hlen : parts.toList.length = n := by have := congrArg List.length hidx; simpa using this
  simp only [List.all_eq_true] at hk
  obtain ⟨zs, hzs'⟩ : ∃ zs : Array Value, zs = (Array.range (n * ed.size)).map (fun i => z.cells[i % z.cells.size]!) := ⟨_, rfl⟩
  have hzl : zs.size = n * ed.size := by rw [hzs']; simp
  have hzm : ∀ v, v ∈ zs.toList → v ∈ z.cells.toList := fun v hv => by
    rw [hzs'] at hv
    simp only [Array.toList_map, List.mem_map] at hv
    obtain ⟨i, _, rfl⟩ := hv
    have : i % z.cells.size < z.cells.size := Nat.mod_lt _ (by omega)
    simp [getElem!_pos, this]
  have hdense := afill_dense ed.size (parts.toList.map fun x => σ.eval x.2) 0 [] (zs.toList.map cav) (by simp) (by simp [hzl, hlen]) (fun x hx' => by
    obtain ⟨p, hp, rfl⟩ := List.mem_map.1 hx'; exact hst p hp)
  have hzip : (List.range' 0 (parts.toList.map fun x => σ.eval x.2).length).zip (parts.toList.map fun x => σ.eval x.2) = parts.toList.map fun x => (x.1, σ.eval x.2) := by
    rw [List.length_map, hlen, ← List.range_eq_range', ← hidx, List.zip_map']
  rw [hzip] at hdense
  simp only [List.nil_append] at hdense
  obtain ⟨us, e1, e2, e3⟩ := fill_sound (G := G) (fun i => some (i * ed.size, ed.size)) (parts.toList.map fun x => (x.1, a.eval x.2)) (parts.toList.map fun x => (x.1, σ.eval x.2)) zs (zs.toList.map cav) _
    (by simp [Function.comp_def]) (fun j => by
      have := (evals_rep hs (parts.toList.map Prod.snd) (fun x hx' => by
        obtain ⟨p, hp, rfl⟩ := List.mem_map.1 hx'; exact hx p hp)).2 j
      simpa [Function.comp_def, List.map_map] using this)
    (by have := RepL.of_map (G := G) zs.toList id cav (fun x hx => .const G x); simpa using this) (fun v hv => hk v (hzm v hv)) hdense
  have hul : us.size = n * ed.size := by
    have h1 := e2.1
    rw [flats_length (sz := ed.size) (fun x hx' => by obtain ⟨p, hp, rfl⟩ := List.mem_map.1 hx'; exact (hst p hp).2)] at h1
    simpa [hlen] using h1
  obtain ⟨hle, hs'⟩ := hs.commit (E := e) (cells := us.toList) e3
  have hw : RepL G.pure us.toList (flats (parts.toList.map fun x => (σ.eval x.2).weak)) := by
    have h1 := e2.weak
    rw [← weak_flats, List.map_map] at h1
    exact h1
  refine wpIn_of_run (r := .ok (.value (.slice (some ⟨w.heap.size, 0, none⟩) n n)) (w.alloc (.cells us e (0, 0)))) (by rw [ho]; rfl) ?_ ?_
  · have hcond : ¬ n * ed.size > 2 ^ 24 := by omega
    have hdesc := elemOf_some he
    have hfill : Instr.fill (fun i => some (i * ed.size, ed.size)) zs (parts.map fun (i, x) => (i, a.eval x)).toList = some us := by
      rw [← e1]; simp
    by_cases h0 : n * ed.size = 0
    · have hz0 : zs = #[] := Array.eq_empty_of_size_eq_zero (by omega)
      rw [hz0] at hfill
      have hr0 : ∀ f : Nat → Value, Array.map f (Array.range 0) = #[] := fun f => by apply Array.ext'; simp
      have hc0 : ¬ 0 > 2 ^ 24 := by decide
      simp only [execOp, ho, Instr.buildSlice, Sem.run_bind, run_underlying' ht, Result.andThen_ok, hdesc, run_sizeOf' hed, h0, if_neg hc0, if_true, Sem.run_pure, hr0, hfill, newRow, run_newObj]
      rfl
    · simp only [execOp, ho, Instr.buildSlice, Sem.run_bind, run_underlying' ht, Result.andThen_ok, hdesc, run_sizeOf' hed, if_neg hcond, if_neg h0, run_zeroValue' hed hz, Sem.run_pure]
      rw [← hzs']
      simp only [hfill, newRow, run_newObj, Sem.run_bind, Sem.run_pure, Result.andThen_ok]
      rfl
  · refine hnx _ _ _ _ _ hK (hs'.put o.dst ?_)
    have hll : (parts.toList.map fun x => (σ.eval x.2).weak).length = n := by simpa using hlen
    have := Rep.sl (G := G.withS (addS G.S w.heap.size 0 us.toList)) .full w.heap.size 0 ed.size n (parts.toList.map fun x => (σ.eval x.2).weak) us.toList hw.1 (fun j hj => addS_in hj)
      (fun j => (hw.2 j).mono hle.pure) (fun x hx' => by
        obtain ⟨p, hp, rfl⟩ := List.mem_map.1 hx'
        rw [weak_flat, List.length_map]; exact (hst p hp).2) (by omega) (by rw [hll]; simp only [maxN]; have := Nat.le_mul_of_pos_right n hs0; omega) (by rw [hll]; rfl)
    rw [hll] at this; exact this
end
end Go.Abs
