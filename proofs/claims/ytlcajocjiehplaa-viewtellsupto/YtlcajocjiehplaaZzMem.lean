/- How a state relation is carried over what is done to memory. -/
import Derived.Test.YtlcajocjiehplaaZzOps
set_option linter.unusedVariables false
set_option linter.unusedSimpArgs false
namespace Go.Abs
open Go Go.RowKit

section
variable {P : Program} {C : Ctx P} {G G' : Ghost} {M M' : Nat → Prop} {σ : Sta} {a : Act} {w w' : World}

theorem BoxOK.next {b : Nat} {bc : BoxC} (h : BoxOK G M w b bc) (hle : G.le G') (hm : M b → w'.heap[b]? = w.heap[b]? ∧ ∀ o, G'.S b o = G.S b o) (hM : M b → M' b) : BoxOK G' M' w' b bc := by
  obtain ⟨cells, h⟩ := h
  refine ⟨cells, ?_⟩
  cases hw : bc.wr with
  | true =>
    rw [hw] at h
    obtain ⟨h1, ⟨E, h2⟩, h3, h4, h5⟩ := h
    exact ⟨hM h1, ⟨E, (hm h1).1.trans h2⟩, fun o => ((hm h1).2 o).trans (h3 o), h4.mono hle, h5⟩
  | false =>
    rw [hw] at h
    exact ⟨fun j hj => hle.S _ _ _ (h.1 j hj), h.2.mono hle.pure⟩
theorem OwnsOK.next {r : OwnRec} (h : OwnsOK G M w r) (hm : M r.blk → w'.heap[r.blk]? = w.heap[r.blk]? ∧ ∀ o, G'.S r.blk o = G.S r.blk o) (hM : M r.blk → M' r.blk) : OwnsOK G' M' w' r := by
  obtain ⟨c, E, h2, h3⟩ := h.heap
  exact ⟨hM h.m, ⟨c, E, (hm h.m).1.trans h2, h3⟩, h.fin, fun o ho => h.S o (by rwa [← (hm h.m).2 o])⟩

/-- On to a world in which our own blocks lie as they lay. -/
theorem SR.next (hs : SR C G M σ a w) (hst : StepW G.S w G'.S w' (fun b => ¬ M b)) (hle : G.le G') (hm : ∀ b, M b → w'.heap[b]? = w.heap[b]? ∧ ∀ o, G'.S b o = G.S b o)
    (hM : ∀ b, M b → M' b) (hM2 : ∀ b, M' b → M b ∨ w.heap.size ≤ b) (hM3 : ∀ b, M' b → b < w'.heap.size) (hb : G'.box = G.box) (ho : G'.own = G.own) (hf : G'.ful = G.ful) (hx : G'.nxt = G.nxt) : SR C G' M' σ a w' where
  size := hs.size
  env := fun t => (hs.env t).mono hle
  holds := hst.holds
  mlt := hM3
  boxes := fun i bc hi => by
    obtain ⟨b, h1, h2⟩ := hs.boxes i bc hi
    exact ⟨b, by rw [hb]; exact h1, h2.next hle (hm b) (hM b)⟩
  boxn := by rw [hb]; exact hs.boxn
  boxlt := by rw [hb]; exact fun i b e => Nat.lt_of_lt_of_le (hs.boxlt i b e) hst.size
  boxinj := by rw [hb]; exact hs.boxinj
  live := by rw [ho, hf, hx]; exact hs.live
  nxt := by rw [ho]; exact fun s r h => Nat.lt_of_lt_of_le (hs.nxt s r h) hle.nxt
  owns := by rw [ho]; exact fun s r h => (hs.owns s r h).next (hm _) (hM _)
  owninj := by rw [ho]; exact hs.owninj
  ownbox := by rw [ho, hb]; exact hs.ownbox
  loop := hle.loop.trans hs.loop
  base := hs.base.trans hle
  defers := fun d hd => by
    obtain ⟨D, h1, h2, h3⟩ := hs.defers d hd
    exact ⟨D, h1, hM D h2, (hm D h2).1.trans h3⟩
  dnd := hs.dnd
  ctx := C.stable _ _ _ _ _ _ _ _ hs.ctx hs.holds hst hM hM2 hM3

theorem Holds.alloc {S : Shadow} (h : Holds S w) (o : Obj) : Holds S (w.alloc o) := fun b i v e => by
  refine ⟨?_, (h b i v e).2⟩
  have hlt := h.lt e
  have := (h b i v e).1
  rw [← this]
  exact World.cell?_of_block (w := w) (Below.heap_alloc w o b hlt)
theorem StepW.alloc {S : Shadow} (h : Holds S w) (o : Obj) (K : Nat → Prop) : StepW S w S (w.alloc o) K :=
  ⟨rfl, rfl, rfl, by simp, fun _ _ _ e => e, h.alloc o, fun b hb _ => ⟨Below.heap_alloc w o b hb, fun _ => rfl⟩⟩
theorem Holds.drew {S : Shadow} (h : Holds S w) : Holds S w.drew := h
theorem StepW.drew {S : Shadow} (h : Holds S w) (K : Nat → Prop) : StepW S w S w.drew K :=
  ⟨rfl, rfl, rfl, Nat.le_refl _, fun _ _ _ e => e, h, fun _ _ _ => ⟨rfl, fun _ => rfl⟩⟩

/-- A new block, nothing known of it: ours. -/
theorem SR.alloc (hs : SR C G M σ a w) (o : Obj) : SR C G (fun b => M b ∨ b = w.heap.size) σ a (w.alloc o) :=
  hs.next (StepW.alloc hs.holds o _) (.refl G) (fun b hb => ⟨Below.heap_alloc w o b (hs.mlt b hb), fun _ => rfl⟩) (fun _ h => .inl h)
    (fun b h => h.imp id fun e => by omega) (fun b h => by
      rcases h with h | h
      · have := hs.mlt b h; simp; omega
      · simp; omega) rfl rfl rfl rfl
theorem SR.drew (hs : SR C G M σ a w) : SR C G M σ a w.drew :=
  hs.next (StepW.drew hs.holds _) (.refl G) (fun b hb => ⟨rfl, fun _ => rfl⟩) (fun _ h => h) (fun _ h => .inl h) (fun b h => hs.mlt b h) rfl rfl rfl rfl

theorem SR.alloc_new (w : World) (o : Obj) : (w.alloc o).heap[w.heap.size]? = some o := World.alloc_heap_new w o

def addBox (G : Ghost) (i b : Nat) : Ghost := { G with box := fun j => if j = i then some b else G.box j }
theorem addBox_le {i b : Nat} (h : G.box i = none) : G.le (addBox G i b) :=
  ⟨fun _ _ _ e => e, fun j c e => by
    simp only [addBox]
    split
    · rename_i hj; subst hj; rw [h] at e; cases e
    · exact e, Nat.le_refl _, fun _ _ _ e => e, fun _ _ e => e, rfl⟩

/-- One of our blocks becomes a box. -/
theorem SR.addBox (hs : SR C G M σ a w) {b : Nat} {cells : List Value} {E : TypeId} {cs : List AV} (hb : M b) (hh : w.heap[b]? = some (.cells cells.toArray E (0, 0))) (hS : ∀ o, G.S b o = none)
    (hr : RepL G cells cs) (h1 : ∀ v, v ∈ cells → v.oneCell' = true) (hn : ∀ i, G.box i ≠ some b) (ho : ∀ s r, G.own s = some r → r.blk ≠ b) :
    SR C (Abs.addBox G σ.H.length b) M { σ with H := σ.H ++ [⟨cs, true⟩] } a w := by
  have hnone : G.box σ.H.length = none := hs.boxn _ (Nat.le_refl _)
  have hle : G.le (Abs.addBox G σ.H.length b) := addBox_le hnone
  exact {
    size := hs.size
    env := fun t => (hs.env t).mono hle
    holds := hs.holds
    mlt := hs.mlt
    boxes := fun i bc hi => by
      rcases Nat.lt_or_ge i σ.H.length with hlt | hge
      · have hi' : σ.H[i]? = some bc := by rw [← List.getElem?_append_left hlt]; exact hi
        obtain ⟨c, e1, e2⟩ := hs.boxes i bc hi'
        exact ⟨c, hle.box i c e1, e2.next hle (fun _ => ⟨rfl, fun _ => rfl⟩) fun h => h⟩
      · have hi' : ([⟨cs, true⟩] : List BoxC)[i - σ.H.length]? = some bc := by rw [← List.getElem?_append_right hge]; exact hi
        have hz : i = σ.H.length := by
          rcases Nat.lt_or_ge (i - σ.H.length) 1 with h | h
          · omega
          · rw [List.getElem?_eq_none (by simpa using h)] at hi'; cases hi'
        subst hz
        simp only [Nat.sub_self, List.getElem?_cons_zero, Option.some.injEq] at hi'
        subst hi'
        exact ⟨b, by simp [Abs.addBox], cells, hb, ⟨E, hh⟩, hS, hr.mono hle, h1⟩
    boxn := fun i hi => by
      simp only [List.length_append, List.length_cons, List.length_nil] at hi
      simp only [Abs.addBox]
      rw [if_neg (by omega)]
      exact hs.boxn i (by omega)
    boxlt := fun i c e => by
      simp only [Abs.addBox] at e
      split at e
      · cases e; exact hs.mlt b hb
      · exact hs.boxlt i c e
    boxinj := fun i j c e1 e2 => by
      simp only [Abs.addBox] at e1 e2
      split at e1 <;> split at e2
      · omega
      · cases e1; exact absurd e2 (hn j)
      · cases e2; exact absurd e1 (hn i)
      · exact hs.boxinj i j c e1 e2
    live := hs.live
    nxt := hs.nxt
    owns := fun s r e => (hs.owns s r e).next (fun _ => ⟨rfl, fun _ => rfl⟩) fun h => h
    owninj := hs.owninj
    ownbox := fun s r i e => by
      simp only [Abs.addBox]
      split
      · exact fun e2 => ho s r e (Option.some.inj e2).symm
      · exact hs.ownbox s r i e
    loop := hs.loop
    base := hs.base.trans hle
    defers := hs.defers
    dnd := hs.dnd
    ctx := hs.ctx }

/-- A new variable. -/
theorem SR.newBox (hs : SR C G M σ a w) (cells : List Value) (E : TypeId) (cs : List AV) (hr : RepL G cells cs) (h1 : ∀ v, v ∈ cells → v.oneCell' = true) :
    ∃ G' M', G.le G' ∧ G'.box σ.H.length = some w.heap.size ∧ SR C G' M' { σ with H := σ.H ++ [⟨cs, true⟩] } a (w.alloc (.cells cells.toArray E (0, 0))) := by
  have h := hs.alloc (.cells cells.toArray E (0, 0))
  have hS : ∀ o, G.S w.heap.size o = none := fun o => by
    cases e : G.S w.heap.size o with
    | none => rfl
    | some v => exact absurd (hs.holds.lt e) (Nat.lt_irrefl _)
  refine ⟨_, _, addBox_le (hs.boxn _ (Nat.le_refl _)), by simp [Abs.addBox], h.addBox (.inr rfl) (SR.alloc_new w _) hS hr h1 ?_ ?_⟩
  · intro i e; exact absurd (hs.boxlt i _ e) (Nat.lt_irrefl _)
  · intro s r e hb
    have := hs.mlt _ (hs.owns s r e).m
    omega

theorem list_set_getElem? {α : Type} (l : List α) (i j : Nat) (x : α) : (l.set i x)[j]? = if i = j then (if i < l.length then some x else none) else l[j]? := by
  rw [List.getElem?_set]

/-- A box gets other contents. -/
theorem SR.setBox (hs : SR C G M σ a w) {i b : Nat} {bc : BoxC} {cells cells' : List Value} {E : TypeId} {cs : List AV} (hi : σ.H[i]? = some bc) (hb : G.box i = some b) (hw : bc.wr = true)
    (hh : w.heap[b]? = some (.cells cells.toArray E (0, 0))) (hr : RepL G cells' cs) (h1 : ∀ v, v ∈ cells' → v.oneCell' = true) :
    SR C G M { σ with H := σ.H.set i ⟨cs, true⟩ } a (w.setRow b cells'.toArray) := by
  obtain ⟨b', e1, c0, e2⟩ := hs.boxes i bc hi
  rw [hb] at e1; cases e1
  rw [hw] at e2
  obtain ⟨hM, _, hS, _, _⟩ := e2
  have hil : i < σ.H.length := by
    rcases Nat.lt_or_ge i σ.H.length with h | h
    · exact h
    · rw [List.getElem?_eq_none h] at hi; cases hi
  have hnew : (w.setRow b cells'.toArray).heap[b]? = some (.cells cells'.toArray E (0, 0)) := setRow_heap w b _ _ E _ hh
  have hold : ∀ k, k ≠ b → (w.setRow b cells'.toArray).heap[k]? = w.heap[k]? := fun k hk => by
    simp only [World.setRow, Array.getElem?_modify]
    rw [if_neg (Ne.symm hk)]
  have hsz : (w.setRow b cells'.toArray).heap.size = w.heap.size := by simp [World.setRow]
  have hholds : Holds G.S (w.setRow b cells'.toArray) := fun k o v e => by
    refine ⟨?_, (hs.holds k o v e).2⟩
    have hk : k ≠ b := fun h => by subst h; rw [hS o] at e; cases e
    exact (World.cell?_of_block (w := w) (hold k hk)).trans (hs.holds k o v e).1
  have hst : StepW G.S w G.S (w.setRow b cells'.toArray) (fun c => ¬ M c) :=
    ⟨rfl, rfl, rfl, Nat.le_of_eq hsz.symm, fun _ _ _ e => e, hholds, fun c hc hk => ⟨hold c fun h => hk (h ▸ hM), fun _ => rfl⟩⟩
  exact {
    size := hs.size
    env := hs.env
    holds := hholds
    mlt := fun c hc => by rw [hsz]; exact hs.mlt c hc
    boxes := fun j bj hj => by
      simp only [list_set_getElem?] at hj
      by_cases hij : i = j
      · subst hij
        rw [if_pos rfl, if_pos hil] at hj
        cases hj
        exact ⟨b, hb, cells', hM, ⟨E, hnew⟩, hS, hr, h1⟩
      · rw [if_neg hij] at hj
        obtain ⟨c, f1, f2⟩ := hs.boxes j bj hj
        have hcb : c ≠ b := fun h => hij (hs.boxinj i j b hb (h ▸ f1))
        exact ⟨c, f1, f2.next (.refl G) (fun _ => ⟨hold c hcb, fun _ => rfl⟩) fun h => h⟩
    boxn := fun j hj => hs.boxn j (by simpa using hj)
    boxlt := fun j c e => by rw [hsz]; exact hs.boxlt j c e
    boxinj := hs.boxinj
    live := hs.live
    nxt := hs.nxt
    owns := fun s r e => (hs.owns s r e).next (fun _ => ⟨hold _ fun h => hs.ownbox s r i e (h ▸ hb), fun _ => rfl⟩) fun h => h
    owninj := hs.owninj
    ownbox := hs.ownbox
    loop := hs.loop
    base := hs.base
    defers := fun d hd => by
      obtain ⟨D, f1, f2, f3⟩ := hs.defers d hd
      refine ⟨D, f1, f2, (hold D fun h => ?_).trans f3⟩
      subst h; rw [hh] at f3; cases f3
    dnd := hs.dnd
    ctx := C.stable _ _ _ _ _ _ _ _ hs.ctx hs.holds hst (fun _ h => h) (fun _ h => .inl h) (fun c hc => by rw [hsz]; exact hs.mlt c hc) }
end
end Go.Abs
