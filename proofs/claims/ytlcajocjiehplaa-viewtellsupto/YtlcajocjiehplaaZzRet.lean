/- Leaving a function; the contract of a function out of its body. -/
import Derived.Test.YtlcajocjiehplaaZzCall
import Derived.RangeFuncOwn
set_option linter.unusedVariables false
set_option linter.unusedSimpArgs false
namespace Go.Abs
open Go Go.RowKit

section
variable {P : Program} {C : Ctx P} {G : Ghost} {M : Nat → Prop} {σ : Sta} {a : Act} {w w' : World}

/-- An object of our own that is no row of cells gets another value. -/
theorem SR.putObj (hs : SR C G M σ a w) {D : Nat} {x y : Obj} (hM : M D) (hh : w.heap[D]? = some x) (hx : x.isCells = false) {ds : List Deferred} (hds : ∀ d, d ∈ ds → d ∈ a.defers ∧ d.target ≠ .collected D) (hnd : (ds.map Deferred.target).Nodup) :
    SR C G M σ { a with defers := ds } (w.putObj D y) := by
  have hlt : D < w.heap.size := hs.mlt D hM
  have hold : ∀ k, k ≠ D → (w.putObj D y).heap[k]? = w.heap[k]? := fun k hk => World.putObj_heap_other hk
  have hne : ∀ b cells E, w.heap[b]? = some (.cells cells E (0, 0)) → b ≠ D := fun b cells E e h => by subst h; rw [hh] at e; cases e; cases hx
  have hsz : (w.putObj D y).heap.size = w.heap.size := World.putObj_size
  have hholds : Holds G.S (w.putObj D y) := fun b o v e => by
    refine ⟨?_, (hs.holds b o v e).2⟩
    have hk : b ≠ D := fun h => by
      subst h
      have := (hs.holds b o v e).1
      unfold World.cell? at this
      rw [hh] at this
      cases x <;> simp_all [Obj.isCells]
    exact (World.cell?_of_block (w := w) (hold b hk)).trans (hs.holds b o v e).1
  have hst : StepW G.S w G.S (w.putObj D y) (fun c => ¬ M c) :=
    ⟨rfl, rfl, rfl, Nat.le_of_eq hsz.symm, fun _ _ _ e => e, hholds, fun c hc hk => ⟨hold c fun h => hk (h ▸ hM), fun _ => rfl⟩⟩
  exact {
    size := hs.size
    env := hs.env
    holds := hholds
    mlt := fun c hc => by rw [hsz]; exact hs.mlt c hc
    boxes := fun j bj hj => by
      obtain ⟨c, f1, f2⟩ := hs.boxes j bj hj
      obtain ⟨cells, f3⟩ := f2
      refine ⟨c, f1, cells, ?_⟩
      cases hw : bj.wr with
      | true =>
        rw [hw] at f3
        obtain ⟨g1, ⟨E, g2⟩, g3, g4, g5⟩ := f3
        exact ⟨g1, ⟨E, (hold c (hne c _ _ g2)).trans g2⟩, g3, g4, g5⟩
      | false => rw [hw] at f3; exact f3
    boxn := hs.boxn
    boxlt := fun j c e => by rw [hsz]; exact hs.boxlt j c e
    boxinj := hs.boxinj
    live := hs.live
    nxt := hs.nxt
    owns := fun s r e => by
      have ho := hs.owns s r e
      obtain ⟨c, E, h1, h2⟩ := ho.heap
      exact ⟨ho.m, ⟨c, E, (hold _ (hne _ _ _ h1)).trans h1, h2⟩, ho.fin, ho.S⟩
    owninj := hs.owninj
    ownbox := hs.ownbox
    loop := hs.loop
    base := hs.base
    defers := fun d hd => by
      obtain ⟨h1, h2⟩ := hds d hd
      obtain ⟨D', f1, f2, f3⟩ := hs.defers d h1
      refine ⟨D', f1, f2, (hold D' fun h => ?_).trans f3⟩
      subst h; subst f1; exact h2 rfl
    dnd := hnd
    ctx := C.stable _ _ _ _ _ _ _ _ hs.ctx hs.holds hst (fun _ h => h) (fun _ h => .inl h) (fun c hc => by rw [hsz]; exact hs.mlt c hc) }

theorem leaves {fn : Func} {n : Nat} {R : Ending → World → Prop} : ∀ (ds : List Deferred) (a : Act) (w : World), a.defers = ds → SR C G M σ a w →
    (∀ w', SR C G M σ { a with defers := [] } w' → ∃ v, (results fn a.tmps).run P w' = .ok v w' ∧ R (.returned v) w') → LeavesInM Fence.wide n P fn a.tmps R ds .returning w := by
  intro ds
  induction ds with
  | nil =>
    intro a w hd hs h
    have : a = { a with defers := [] } := by cases a; simp_all
    exact h w (this ▸ hs)
  | cons d ds ih =>
    intro a w hd hs h
    obtain ⟨D, h1, h2, h3⟩ := hs.defers d (by rw [hd]; simp)
    have hnd := hs.dnd
    rw [hd] at hnd
    simp only [List.map_cons, List.nodup_cons] at hnd
    refine ⟨by simp, .inl ⟨D, w.putObj D (.deferred none), by rw [h1], run_takeDeferred h3, ?_⟩⟩
    have hs' := hs.putObj (y := .deferred none) h2 h3 rfl (ds := ds) (fun d' hd' => ⟨by rw [hd]; simp [hd'], fun e => hnd.1 (by have := List.mem_map_of_mem (f := Deferred.target) hd'; rw [e] at this; rw [h1]; exact this)⟩) hnd.2
    exact ih { a with defers := ds } _ rfl hs' h
end

section
variable {P : Program}
theorem sr0 {C : Ctx P} {S0 : Shadow} {w0 : World} {vs : List Value} {args : List AV} (n : Nat) (hh : Holds S0 w0) (hr : RepL (gp S0) vs args) (hl : C.loop = none) (hG : C.G0 = botG none) (hJ : C.J [] false S0 (fun _ => False) w0) :
    SR C (gp S0) (fun _ => False) (sta0 args n) { tmps := vs.toArray ++ Array.replicate (n - vs.toArray.size) undef, defers := [] } w0 where
  size := by simp [sta0, hr.1]; omega
  env := fun t => by
    simp only [Sta.get, sta0]
    have h2 := hr.2 t
    simp only [Array.getD_eq_getD_getElem?, List.getD_eq_getElem?_getD, Array.getElem?_append, List.size_toArray] at h2 ⊢
    by_cases ht : t < vs.length
    · rw [if_pos ht]
      simpa using h2
    · rw [if_neg ht]
      have : args[t]?.getD AV.undef = .undef := by rw [List.getElem?_eq_none (by have := hr.1; omega)]; rfl
      rw [this]; exact .undef
  holds := hh
  mlt := fun _ h => h.elim
  boxes := fun i bc h => by simp [sta0] at h
  boxn := fun _ _ => rfl
  boxlt := fun _ _ h => by cases h
  boxinj := fun _ _ _ h => by cases h
  live := ⟨rfl, fun s h => by simp [sta0] at h⟩
  nxt := fun _ _ h => by cases h
  owns := fun _ _ h => by cases h
  owninj := fun _ _ _ _ h => by cases h
  ownbox := fun _ _ _ h => by cases h
  loop := hl.symm
  base := by rw [hG]; exact botG_le rfl
  defers := fun d h => by cases h
  dnd := by simp
  ctx := hJ

/-- **THE CONTRACT OF A FUNCTION OUT OF ITS BODY.** -/
theorem Pure.introW {ow : Nat → Bool} {f : FuncId} {fn : Func} {c : Code} {args : List AV} {r : AV} (hf : P.funcs[f]? = some fn) (hb : fn.body = some c) (hn : (fn.name == "runtime.NumGoroutine") = false)
    (h : ∀ S0 w0, awp (pureCtx P S0 w0 ow) c (RetQ P fn (· = r)) (sta0 args fn.ntmps)) : Pure P f args r := by
  refine ⟨enters_of hf hb hn, fun n S w vs hh hr => callsIn_of_wp_marks hf hb trivial ?_⟩
  have hs := sr0 (C := pureCtx P S w ow) fn.ntmps hh hr rfl rfl ⟨StepW.refl hh _, fun _ h => h.elim⟩
  refine Go.wpIn_mono (h S w n _ _ _ _ hs) ?_
  rintro e a w' ⟨G, M, σ, ⟨he, l, hl, rfl⟩, hs'⟩
  have fin : ∀ a' : Act, a'.tmps = a.tmps → ∀ w', SR (pureCtx P S w ow) G M σ a' w' → ∃ v, (results fn a.tmps).run P w' = .ok v w' ∧ ∃ v' S', (Ending.returned v) = .returned v' ∧ StepW S w S' w' (fun _ => True) ∧ Rep (gp S') v' (oneOf l) := by
    intro a' ha w' hs
    obtain ⟨v, h1, h2⟩ := run_results hs hl
    rw [ha] at h1
    exact ⟨v, h1, v, G.S, rfl, hs.ctx.1, h2⟩
  rcases he with rfl | rfl
  · exact leaves a.defers a w' rfl hs' fun w' hs => fin { a with defers := [] } rfl w' hs
  · exact leaves a.defers a w' rfl hs' fun w' hs => fin { a with defers := [] } rfl w' hs
theorem Pure.intro {f : FuncId} {fn : Func} {c : Code} {args : List AV} {r : AV} (hf : P.funcs[f]? = some fn) (hb : fn.body = some c) (hn : (fn.name == "runtime.NumGoroutine") = false)
    (h : ∀ S0 w0, awp (pureCtx P S0 w0 (fun _ => false)) c (RetQ P fn (· = r)) (sta0 args fn.ntmps)) : Pure P f args r := Pure.introW hf hb hn h
end
end Go.Abs
