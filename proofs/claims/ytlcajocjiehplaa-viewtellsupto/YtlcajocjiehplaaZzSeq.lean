/- Ranging over a function: iterators and their contracts; the statement. -/
import Derived.Test.YtlcajocjiehplaaZzGen
set_option linter.unusedVariables false
set_option linter.unusedSimpArgs false
namespace Go.Abs
open Go Go.RowKit

/-- A state relation but for what stands about the activation and for its deferred calls. -/
structure SRb {P : Program} (lp : Option Nat) (G0 : Ghost) (G : Ghost) (M : Nat → Prop) (σ : Sta) (a : Act) (w : World) : Prop where
  size : a.tmps.size = σ.n
  env : ∀ t, Rep G (a.tmps.getD t undef) (σ.get t)
  holds : Holds G.S w
  mlt : ∀ b, M b → b < w.heap.size
  boxes : ∀ i bc, σ.H[i]? = some bc → ∃ b, G.box i = some b ∧ BoxOK G M w b bc
  boxn : ∀ i, σ.H.length ≤ i → G.box i = none
  boxlt : ∀ i b, G.box i = some b → b < w.heap.size
  boxinj : ∀ i j b, G.box i = some b → G.box j = some b → i = j
  live : σ.L.length = G.nxt ∧ ∀ s, σ.L[s]? = some true → (∃ r, G.own s = some r) ∨ G.ful s = true
  nxt : ∀ s r, G.own s = some r → s < G.nxt
  owns : ∀ s r, G.own s = some r → OwnsOK G M w r
  owninj : ∀ s t r q, G.own s = some r → G.own t = some q → r.blk = q.blk → s = t
  ownbox : ∀ s r i, G.own s = some r → G.box i ≠ some r.blk
  loop : G.loop = lp
  base : G0.le G

section
variable {P : Program} {C : Ctx P} {G G' : Ghost} {M M' : Nat → Prop} {σ : Sta} {a : Act} {w w' : World} {lp : Option Nat} {G0 : Ghost}

/-- The blocks of an activation's deferred calls. -/
def defBlk (a : Act) (b : Nat) : Prop := ∃ d, d ∈ a.defers ∧ d.target = .collected b

theorem SR.toB (hs : SR C G M σ a w) (N : Nat → Prop) (hN : ∀ b, N b → ∀ cells E fr, w.heap[b]? ≠ some (.cells cells E fr)) : SRb (P := P) C.loop C.G0 G (fun b => M b ∧ ¬ N b) σ a w where
  size := hs.size
  env := hs.env
  holds := hs.holds
  mlt := fun b h => hs.mlt b h.1
  boxes := fun i bc hi => by
    obtain ⟨b, h1, cells, h2⟩ := hs.boxes i bc hi
    refine ⟨b, h1, cells, ?_⟩
    cases hw : bc.wr with
    | true =>
      rw [hw] at h2
      obtain ⟨h3, ⟨E, h4⟩, h5⟩ := h2
      exact ⟨⟨h3, fun hn => hN b hn _ _ _ h4⟩, ⟨E, h4⟩, h5⟩
    | false => rw [hw] at h2; exact h2
  boxn := hs.boxn
  boxlt := hs.boxlt
  boxinj := hs.boxinj
  live := hs.live
  nxt := hs.nxt
  owns := fun s r e => by
    have h := hs.owns s r e
    obtain ⟨c, E, h2, h3⟩ := h.heap
    exact ⟨⟨h.m, fun hn => hN _ hn _ _ _ h2⟩, ⟨c, E, h2, h3⟩, h.fin, h.S⟩
  owninj := hs.owninj
  ownbox := hs.ownbox
  loop := hs.loop
  base := hs.base

theorem SRb.next (hs : SRb (P := P) lp G0 G M σ a w) (hh : Holds G'.S w') (hsz : w.heap.size ≤ w'.heap.size) (hle : G.le G') (hm : ∀ b, M b → w'.heap[b]? = w.heap[b]? ∧ ∀ o, G'.S b o = G.S b o) (hb : G'.box = G.box) (ho : G'.own = G.own) (hf : G'.ful = G.ful) (hx : G'.nxt = G.nxt) : SRb (P := P) lp G0 G' M σ a w' where
  size := hs.size
  env := fun t => (hs.env t).mono hle
  holds := hh
  mlt := fun b h => Nat.lt_of_lt_of_le (hs.mlt b h) hsz
  boxes := fun i bc hi => by
    obtain ⟨b, h1, h2⟩ := hs.boxes i bc hi
    exact ⟨b, by rw [hb]; exact h1, h2.next hle (hm b) fun h => h⟩
  boxn := by rw [hb]; exact hs.boxn
  boxlt := by rw [hb]; exact fun i b e => Nat.lt_of_lt_of_le (hs.boxlt i b e) hsz
  boxinj := by rw [hb]; exact hs.boxinj
  live := by rw [ho, hf, hx]; exact hs.live
  nxt := by rw [ho]; exact fun s r h => Nat.lt_of_lt_of_le (hs.nxt s r h) hle.nxt
  owns := by rw [ho]; exact fun s r h => (hs.owns s r h).next (hm _) fun h => h
  owninj := by rw [ho]; exact hs.owninj
  ownbox := by rw [ho, hb]; exact hs.ownbox
  loop := hle.loop.trans hs.loop
  base := hs.base.trans hle

/-- Back: more blocks are ours; the deferred calls. -/
theorem SRb.toSR (hs : SRb (P := P) C.loop C.G0 G M σ a w) (hM : ∀ b, M b → M' b) (hlt : ∀ b, M' b → b < w.heap.size) {ds : List Deferred} (hd : ∀ d, d ∈ ds → ∃ D, d = { target := .collected D, args := #[] } ∧ M' D ∧ w.heap[D]? = some (.deferred (some []))) (hnd : (ds.map Deferred.target).Nodup)
    (hJ : C.J σ.tr σ.stop G.S M' w) : SR C G M' σ { a with defers := ds } w where
  size := hs.size
  env := hs.env
  holds := hs.holds
  mlt := hlt
  boxes := fun i bc hi => by
    obtain ⟨b, h1, h2⟩ := hs.boxes i bc hi
    exact ⟨b, h1, h2.next (.refl G) (fun _ => ⟨rfl, fun _ => rfl⟩) (hM b)⟩
  boxn := hs.boxn
  boxlt := hs.boxlt
  boxinj := hs.boxinj
  live := hs.live
  nxt := hs.nxt
  owns := fun s r h => (hs.owns s r h).next (fun _ => ⟨rfl, fun _ => rfl⟩) (hM _)
  owninj := hs.owninj
  ownbox := hs.ownbox
  loop := hs.loop
  base := hs.base
  defers := hd
  dnd := hnd
  ctx := hJ

theorem Holds.putObj {S : Shadow} (h : Holds S w) {l : Nat} {x y : Obj} (hh : w.heap[l]? = some x) (hx : x.isCells = false) : Holds S (w.putObj l y) := fun b o v e => by
  refine ⟨?_, (h b o v e).2⟩
  have hk : b ≠ l := fun hb => by
    subst hb
    have := (h b o v e).1
    unfold World.cell? at this
    rw [hh] at this
    cases x <;> simp_all [Obj.isCells]
  exact (World.cell?_of_block (w := w) (World.putObj_heap_other hk)).trans (h b o v e).1
theorem StepW.putObj {S : Shadow} (h : Holds S w) {l : Nat} {x : Obj} (y : Obj) (hh : w.heap[l]? = some x) (hx : x.isCells = false) {K : Nat → Prop} (hK : ∀ b, K b → b ≠ l) : StepW S w S (w.putObj l y) K :=
  ⟨rfl, rfl, rfl, Nat.le_of_eq World.putObj_size.symm, fun _ _ _ e => e, h.putObj hh hx, fun b _ hk => ⟨World.putObj_heap_other (hK b hk), fun _ => rfl⟩⟩

/-! ### Iterators -/
/-- What stands about an iterator that gives xs, at the loop l. -/
structure SeqCtx (C : Ctx P) (l : Nat) (xs : List (List AV)) : Prop where
  loop : C.loop = some l
  ro : C.ro = none
  own : C.own = fun _ => false
  G0 : C.G0 = botG (some l)
  may : ∀ tr args, tr = xs.take tr.length → xs[tr.length]? = some args → C.may tr args

/-- A function that, called with a yield, gives xs, one behind another, till it is told to end. -/
def SeqC (P : Program) (f : FuncId) (caps : List AV) (xs : List (List AV)) : Prop :=
  Enters P f ∧ ∀ (C : Ctx P) (l n : Nat) (S : Shadow) (w : World) (vs : List Value), SeqCtx C l xs → Holds S w → RepL (gp S) vs caps → C.J [] false S (fun _ => False) w →
    CallsIn Fence.wide n P f (#[.func (.yield l) #[] #[]] ++ vs.toArray) w fun e w' => ∃ v S' X tr st, e = .returned v ∧ C.J tr st S' X w' ∧ Holds S' w' ∧ (∀ b, X b → b < w'.heap.size) ∧ (st = true ∨ tr = xs)

theorem sr0y {C : Ctx P} {l : Nat} {S0 : Shadow} {w0 : World} {vs : List Value} {args : List AV} (n : Nat) (hh : Holds S0 w0) (hr : RepL (gp S0) vs args) (hl : C.loop = some l) (hG : C.G0 = botG (some l)) (hJ : C.J [] false S0 (fun _ => False) w0) :
    SR C { gp S0 with loop := some l } (fun _ => False) (sta0 (.yld :: args) n) { tmps := (Value.func (.yield l) #[] #[] :: vs).toArray ++ Array.replicate (n - (Value.func (.yield l) #[] #[] :: vs).toArray.size) undef, defers := [] } w0 where
  size := by simp [sta0, hr.1]; omega
  env := fun t => by
    have hr2 : RepL { gp S0 with loop := some l } (Value.func (.yield l) #[] #[] :: vs) (.yld :: args) := RepL.cons (.yld l rfl) (hr.up fun _ _ _ e => e)
    simp only [Sta.get, sta0]
    have h2 := hr2.2 t
    simp only [Array.getD_eq_getD_getElem?, List.getD_eq_getElem?_getD, Array.getElem?_append, List.size_toArray] at h2 ⊢
    by_cases ht : t < (Value.func (.yield l) #[] #[] :: vs).length
    · rw [if_pos ht]
      simpa using h2
    · rw [if_neg ht]
      have : (AV.yld :: args)[t]?.getD AV.undef = .undef := by rw [List.getElem?_eq_none (by have := hr2.1; omega)]; rfl
      rw [this]; exact .undef
  holds := hh
  mlt := fun _ h => h.elim
  boxes := fun i bc h => by simp [sta0] at h
  boxn := fun _ _ => rfl
  boxlt := fun _ _ h => by cases h
  boxinj := fun _ _ _ h => by cases h
  live := ⟨rfl, fun s h => by simp [sta0] at h⟩
  nxt := fun _ _ h => by cases h
  owns := fun _ _ h => by cases h
  owninj := fun _ _ _ _ h => by cases h
  ownbox := fun _ _ _ h => by cases h
  loop := hl.symm
  base := by rw [hG]; exact botG_le rfl
  defers := fun d h => by cases h
  dnd := by simp
  ctx := hJ

/-- Left: all was given, or an end was asked for. -/
def SeqQ (xs : List (List AV)) : Exit → Sta → Prop := fun e σ => (e = .normal ∨ e = .ret) ∧ (σ.stop = true ∨ σ.tr = xs)
/-- **AN ITERATOR's CONTRACT OUT OF ITS BODY.** -/
theorem SeqC.intro {f : FuncId} {fn : Func} {c : Code} {caps : List AV} {xs : List (List AV)} (hf : P.funcs[f]? = some fn) (hb : fn.body = some c) (hn : (fn.name == "runtime.NumGoroutine") = false) (hres : fn.results.toList = [])
    (h : ∀ (C : Ctx P) l, SeqCtx C l xs → awp C c (SeqQ xs) (sta0 (.yld :: caps) fn.ntmps)) : SeqC P f caps xs := by
  refine ⟨enters_of hf hb hn, fun C l n S w vs hC hh hr hJ => ?_⟩
  have harr : #[Value.func (.yield l) #[] #[]] ++ vs.toArray = (Value.func (.yield l) #[] #[] :: vs).toArray := by simp
  rw [harr]
  refine callsIn_of_wp_marks hf hb trivial ?_
  have hs := sr0y fn.ntmps hh hr hC.loop hC.G0 hJ
  have hw := h C l hC n _ _ _ _ hs
  rw [show fw C.ro = Fence.wide by rw [hC.ro]; rfl] at hw
  refine Go.wpIn_mono hw ?_
  rintro e a w' ⟨G, M, σ, ⟨he, hq⟩, hs'⟩
  have fin : ∀ a' : Act, a'.tmps = a.tmps → ∀ w', SR C G M σ a' w' → ∃ v, (results fn a.tmps).run P w' = .ok v w' ∧ ∃ v' S' X tr st, (Ending.returned v) = .returned v' ∧ C.J tr st S' X w' ∧ Holds S' w' ∧ (∀ b, X b → b < w'.heap.size) ∧ (st = true ∨ tr = xs) := by
    intro a' ha w' hs
    obtain ⟨v, h1, h2⟩ := run_results hs (fn := fn) (l := []) (by rw [hres]; rfl)
    rw [ha] at h1
    exact ⟨v, h1, v, G.S, M, σ.tr, σ.stop, rfl, hs.ctx, hs.holds, hs.mlt, hq⟩
  rcases he with rfl | rfl
  · exact leaves a.defers a w' rfl hs' fun w' hs => fin { a with defers := [] } rfl w' hs
  · exact leaves a.defers a w' rfl hs' fun w' hs => fin { a with defers := [] } rfl w' hs

/-! ### The statement -/
/-- What stands about a round: as about the activation. -/
structure RoundCtx (C C' : Ctx P) (l : Nat) : Prop where
  ro : C'.ro = some l
  own : C'.own = C.own
  may : C'.may = C.may
  loop : C'.loop = C.loop

/-- The circumstances of a round: the blocks of K lie as they lay. -/
def roundCtx (C : Ctx P) (l : Nat) (G0 : Ghost) (S0 : Shadow) (w0 : World) (K : Nat → Prop) (hK : ∀ b, K b → b < w0.heap.size) : Ctx P where
  J := fun tr st S Y W => C.J tr st S (fun b => Y b ∨ K b) W ∧ StepW S0 w0 S W K ∧ ∀ b, Y b → ¬ K b
  stable := fun tr st S Y W S' Y' W' hJ hh hst h1 h2 h3 => by
    obtain ⟨k1, k2, k3⟩ := hJ
    refine ⟨C.stable _ _ _ _ _ _ _ _ k1 hh (hst.mono fun b hb h => hb (.inl h)) (fun b h => h.imp (h1 b) id) (fun b h => ?_) (fun b h => ?_), ?_, fun b hb hk => ?_⟩
    · rcases h with h | h
      · exact (h2 b h).imp .inl id
      · exact .inl (.inr h)
    · rcases h with h | h
      · exact h3 b h
      · exact Nat.lt_of_lt_of_le (hK b h) (Nat.le_trans k2.size hst.size)
    · exact k2.trans (hst.mono fun b hb hy => k3 b hy hb)
    · rcases h2 b hb with h | h
      · exact k3 b h hk
      · have := hK b hk; have := k2.size; omega
  loop := C.loop
  ro := some l
  own := C.own
  G0 := G0
  may := C.may
  yield := fun l' hl' tr args S Y W vs m hJ hh hY hmay hr => by
    obtain ⟨k1, k2, k3⟩ := hJ
    obtain ⟨fn, tmps, assign, body, hy, hround⟩ := C.yield l' hl' tr args S _ W vs m k1 hh (fun b h => by
      rcases h with h | h
      · exact hY b h
      · exact Nat.lt_of_lt_of_le (hK b h) k2.size) hmay hr
    refine ⟨fn, tmps, assign, body, hy, RoundIn.mono hround ?_⟩
    rintro e W' ⟨b, S', rfl, h1, h2⟩
    exact ⟨b, S', rfl, ⟨h1, k2.trans (h2.mono fun b h => .inr h), k3⟩, h2.mono fun b h => .inl h⟩

theorem roundCtx_like (C : Ctx P) (l : Nat) (G0 : Ghost) (S0 : Shadow) (w0 : World) (K : Nat → Prop) (hK : ∀ b, K b → b < w0.heap.size) : RoundCtx C (roundCtx C l G0 S0 w0 K hK) l := ⟨rfl, rfl, rfl, rfl⟩

/-- The state of a round: what is given stands in the slots. -/
def Sta.bind (σ : Sta) : List Tmp → List AV → Sta
  | p :: ps, x :: xs => (σ.put (some p) x).bind ps xs
  | _, _ => σ
theorem bind_rest : ∀ (ps : List Tmp) (xs : List AV) (σ : Sta), (σ.bind ps xs).n = σ.n ∧ (σ.bind ps xs).H = σ.H ∧ (σ.bind ps xs).L = σ.L ∧ (σ.bind ps xs).tr = σ.tr ∧ (σ.bind ps xs).stop = σ.stop
  | [], xs, σ => ⟨rfl, rfl, rfl, rfl, rfl⟩
  | p :: ps, [], σ => ⟨rfl, rfl, rfl, rfl, rfl⟩
  | p :: ps, x :: xs, σ => bind_rest ps xs (σ.put (some p) x)
theorem SR.bind : ∀ (ps : List Tmp) (vs : List Value) (xs : List AV) (σ : Sta) (tmps : Array Value), SR C G M σ { tmps := tmps, defers := [] } w → RepL G vs xs →
    SR C G M (σ.bind ps xs) { tmps := (ps.zip vs).foldl (fun t p => t.setIfInBounds p.1 p.2) tmps, defers := [] } w
  | [], vs, xs, σ, tmps, hs, hr => by simpa [Sta.bind] using hs
  | p :: ps, [], xs, σ, tmps, hs, hr => by
    have : xs = [] := List.eq_nil_of_length_eq_zero hr.1.symm
    subst this
    simpa [Sta.bind] using hs
  | p :: ps, v :: vs, [], σ, tmps, hs, hr => by have := hr.1; simp at this
  | p :: ps, v :: vs, x :: xs, σ, tmps, hs, hr => by
    simp only [Sta.bind, List.zip_cons_cons, List.foldl_cons]
    exact SR.bind ps vs xs _ _ (hs.put (some p) (by simpa using hr.2 0)) ⟨by simpa using hr.1, fun j => by simpa using hr.2 (j + 1)⟩

/-- How a round may be left. -/
def rndQ (I : List (List AV) → List BoxC → List Bool → List (List AV) → Bool → Prop) (Ix : Code → List (List AV) → List BoxC → List Bool → List (List AV) → Bool → Prop) (pre : List (List AV)) : Exit → Sta → Prop
  | .normal, σ => I pre σ.H σ.L σ.tr σ.stop
  | .ret, σ => Ix .ret pre σ.H σ.L σ.tr σ.stop
  | .exit id, σ => Ix (.exit id) pre σ.H σ.L σ.tr σ.stop
  | _, _ => False

/-- **RANGING OVER A FUNCTION**: what holds between two rounds; how a round leaves; what follows. -/
theorem awp_range {g : Operand} {ps : Array Tmp} {assign body : Code} {Q : Exit → Sta → Prop} {f : FuncId} {caps : List AV} {xs : List (List AV)} (hro : C.ro = none) (hg : σ.eval g = .clo f caps) (hseq : SeqC P f (caps.map AV.weak) xs) (hps : ∀ x, x ∈ xs → x.length = ps.size)
    (I : List (List AV) → List BoxC → List Bool → List (List AV) → Bool → Prop) (Ix : Code → List (List AV) → List BoxC → List Bool → List (List AV) → Bool → Prop) (h0 : I [] σ.H σ.L σ.tr σ.stop)
    (hround : ∀ (l : Nat) (C' : Ctx P), RoundCtx C C' l → ∀ pre x H L tr st, I pre H L tr st → pre = xs.take pre.length → xs[pre.length]? = some x →
      awp C' assign (fun e σ' => e = .normal ∧ ∀ C'', RoundCtx C C'' l → awp C'' body (rndQ I Ix (pre ++ [x])) σ') (({ σ with H := H, L := L, tr := tr, stop := st } : Sta).bind ps.toList x))
    (hdone : ∀ H L tr st, I xs H L tr st → Q .normal { σ with H := H, L := L, tr := tr, stop := st })
    (hstop : ∀ c pre H L tr st, Ix c pre H L tr st → awp C c Q { σ with H := H, L := L, tr := tr, stop := st }) : awp C (.rangeFunc g ps assign body) Q σ := by
  intro n G M a w hs
  rw [show fw C.ro = Fence.wide by rw [hro]; rfl]
  refine wpIn_rangeFunc ?_
  intro fn hfn
  rw [show Fence.wide.round = none from rfl]
  obtain ⟨D, hD⟩ : ∃ D, D = w.heap.size := ⟨_, rfl⟩
  obtain ⟨l, hl⟩ : ∃ l, l = w.heap.size + 1 := ⟨_, rfl⟩
  obtain ⟨rec, hrec⟩ : ∃ rec : LoopState → Option Code → Loop, rec = fun st pe => { state := st, pending := pe, fn, tmps := a.tmps, params := ps, assign, body, defers := w.heap.size } := ⟨_, rfl⟩
  obtain ⟨W1, hW1⟩ : ∃ W1, (w.alloc (.deferred (some []))).alloc (.loop (rec .ready none)) = W1 := ⟨_, rfl⟩
  have hL1 : W1.heap[l]? = some (.loop (rec .ready none)) := by
    rw [← hW1, hl]; have := World.alloc_heap_new (w.alloc (.deferred (some []))) (.loop (rec .ready none)); rwa [World.size_alloc] at this
  have hK1 : W1.heap[D]? = some (.deferred (some [])) := by
    rw [← hW1, hD]; exact (Below.heap_alloc _ _ _ (by simp)).trans (World.alloc_heap_new w _)
  have hsA := (hs.alloc (.deferred (some []))).alloc (.loop (rec .ready none))
  rw [hW1] at hsA
  have hsz1 : W1.heap.size = w.heap.size + 2 := by rw [← hW1]; simp
  -- the blocks that are protected
  obtain ⟨N, hN⟩ : ∃ N : Nat → Prop, N = fun b => b = D ∨ b = l ∨ defBlk a b := ⟨_, rfl⟩
  have hdef : ∀ b, defBlk a b → M b ∧ w.heap[b]? = some (.deferred (some [])) := fun b ⟨d, hd, ht⟩ => by
    obtain ⟨D', e, h1, h2⟩ := hs.defers d hd
    subst e; cases ht; exact ⟨h1, h2⟩
  have hold : ∀ b, b < w.heap.size → W1.heap[b]? = w.heap[b]? := fun b hb => by
    rw [← hW1]
    exact (Below.heap_alloc _ _ b (by simp; omega)).trans (Below.heap_alloc w _ b hb)
  have hN1 : ∀ b, N b → ∃ o : Obj, W1.heap[b]? = some o ∧ o.isCells = false := fun b hb => by
    rw [hN] at hb
    rcases hb with rfl | rfl | hb
    · exact ⟨_, hK1, rfl⟩
    · exact ⟨_, hL1, rfl⟩
    · obtain ⟨h1, h2⟩ := hdef b hb
      exact ⟨_, (hold b (hs.mlt b h1)).trans h2, rfl⟩
  obtain ⟨MA, hMA⟩ : ∃ MA : Nat → Prop, MA = fun b => (M b ∨ b = w.heap.size) ∨ b = (w.alloc (.deferred (some []))).heap.size := ⟨_, rfl⟩
  rw [← hMA] at hsA
  have hsB := hsA.toB N fun b hb cells E fr e => by
    obtain ⟨o, h1, h2⟩ := hN1 b hb
    rw [e] at h1; cases h1; cases h2
  have hsz2 : (w.alloc (.deferred (some []))).heap.size = w.heap.size + 1 := by simp
  have hNlt : ∀ b, N b → b < W1.heap.size := fun b hb => by
    rw [hN] at hb
    rcases hb with rfl | rfl | hb
    · omega
    · omega
    · have := hs.mlt b (hdef b hb).1; omega
  have hall : (fun b => (MA b ∧ ¬ N b) ∨ False ∨ N b) = MA := by
    funext b; apply propext
    constructor
    · rintro (h | h | h)
      · exact h.1
      · exact h.elim
      · rw [hN] at h; rw [hMA]
        rcases h with rfl | rfl | h
        · exact .inl (.inr hD)
        · exact .inr (by rw [hsz2]; exact hl)
        · exact .inl (.inl (hdef b h).1)
    · intro h
      by_cases hn : N b
      · exact .inr (.inr hn)
      · exact .inl ⟨h, hn⟩
  have hr := eval_rep hs g
  rw [hg] at hr
  generalize hv : a.eval g = v at hr
  cases hr with
  | clo f vs caps hcl hcr =>
  have hcaps : RepL G vs.toList caps := ⟨by simpa using hcl, fun j => by simpa [Array.getD_eq_getD_getElem?, List.getD_eq_getElem?_getD] using hcr j⟩
  have hcw := hcaps.weak
  -- the invariant that the iterator carries
  let J : List (List AV) → Bool → Shadow → (Nat → Prop) → World → Prop := fun tr st S X W => ∃ (G' : Ghost) (M' : Nat → Prop) (H : List BoxC) (L : List Bool) (ctr : List (List AV)) (cst : Bool) (pe : Option Code),
    G'.S = S ∧ SRb (P := P) C.loop C.G0 G' M' { σ with H := H, L := L, tr := ctr, stop := cst } a W ∧ C.J ctr cst S (fun b => M' b ∨ X b ∨ N b) W ∧ (∀ b, M' b → ¬ X b ∧ ¬ N b) ∧ (∀ b, X b → ¬ N b) ∧ W1.heap.size ≤ W.heap.size ∧ (∀ b, N b → b ≠ l → W.heap[b]? = W1.heap[b]?) ∧
    W.heap[l]? = some (.loop (rec (if st = true then .done else .ready) pe)) ∧ (st = false → pe = none ∧ I tr H L ctr cst) ∧ (st = true → ∃ c, pe = some c ∧ Ix c tr H L ctr cst)
  have hJ0 : J [] false G.S (fun _ => False) W1 := ⟨G, fun b => MA b ∧ ¬ N b, σ.H, σ.L, σ.tr, σ.stop, none, rfl, hsB, by rw [hall]; exact hsA.ctx, fun b h => ⟨id, h.2⟩, fun _ h => h.elim, Nat.le_refl _, fun _ _ _ => rfl, hL1, fun _ => ⟨rfl, h0⟩, fun h => nomatch h⟩
  have hstable : ∀ tr st S X W S' X' W', J tr st S X W → Holds S W → StepW S W S' W' (fun b => ¬ X b) → (∀ b, X b → X' b) → (∀ b, X' b → X b ∨ W.heap.size ≤ b) → (∀ b, X' b → b < W'.heap.size) → J tr st S' X' W' := by
    rintro tr st S X W S' X' W' ⟨G', M', H, L, ctr, cst, pe, rfl, e1, e2, e3, e4, e5, e6, e7, e8, e9⟩ hh hst h1 h2 h3
    have hlW : l < W.heap.size := by omega
    have hnX : ∀ b, N b → ¬ X b := fun b hn hx => e4 b hx hn
    have hNl : N l := by rw [hN]; exact .inr (.inl rfl)
    refine ⟨G'.withS S', M', H, L, ctr, cst, pe, rfl, e1.next hst.holds hst.size (withS_le hst.sub) (fun b hb => hst.keep b (e1.mlt b hb) (e3 b hb).1) rfl rfl rfl rfl, ?_, fun b hb => ⟨fun hx => ?_, (e3 b hb).2⟩, fun b hx hn => ?_, Nat.le_trans e5 hst.size, fun b hn hbl => ?_, ?_, e8, e9⟩
    · refine C.stable _ _ _ _ _ _ _ _ e2 hh (hst.mono fun b hb hx => hb (.inr (.inl hx))) (fun b h => h.imp id fun h => h.imp (h1 b) id) (fun b h => ?_) (fun b h => ?_)
      · rcases h with h | h | h
        · exact .inl (.inl h)
        · exact (h2 b h).imp (fun h => .inr (.inl h)) id
        · exact .inl (.inr (.inr h))
      · rcases h with h | h | h
        · exact Nat.lt_of_lt_of_le (e1.mlt b h) hst.size
        · exact h3 b h
        · exact Nat.lt_of_lt_of_le (hNlt b h) (Nat.le_trans e5 hst.size)
    · rcases h2 b hx with h | h
      · exact (e3 b hb).1 h
      · have := e1.mlt b hb; omega
    · rcases h2 b hx with h | h
      · exact e4 b h hn
      · have := hNlt b hn; omega
    · exact ((hst.keep b (Nat.lt_of_lt_of_le (hNlt b hn) e5) (hnX b hn)).1).trans (e6 b hn hbl)
    · exact ((hst.keep l hlW (hnX l hNl)).1).trans e7
  -- one round
  have hyield : ∀ l', some l = some l' → ∀ tr args S X W vs m, J tr false S X W → Holds S W → (∀ b, X b → b < W.heap.size) → (tr = xs.take tr.length ∧ xs[tr.length]? = some args) → RepL (gp S) vs args →
      YieldAt Fence.wide m P l' vs.toArray W fun e W' => ∃ b S', e = .returned (.bool b) ∧ J (tr ++ [args]) (!b) S' X W' ∧ StepW S W S' W' X := by
    intro l' hl' tr args S X W vs m hJ hh hX hmay hrep
    cases hl'
    obtain ⟨G', M', H, L, ctr, cst, pe, rfl, e1, e2, e3, e4, e5, e6, e7, e8, e9⟩ := hJ
    obtain ⟨rfl, hI⟩ := e8 rfl
    have hlen : vs.length = ps.size := hrep.1.trans (hps args (List.mem_of_getElem? hmay.2))
    simp only [Bool.false_eq_true, if_false] at e7
    have hy := run_yield (P := P) (args := vs.toArray) e7 (by rw [hrec]; simpa using hlen)
    rw [hrec] at hy
    simp only at hy
    refine ⟨fn, _, assign, body, hy, roundIn_of_wpIn trivial ?_⟩
    have hlW : l < W.heap.size := by omega
    have hNl : N l := by rw [hN]; exact .inr (.inl rfl)
    have hKlt : ∀ b, (X b ∨ N b) → b < W.heap.size := fun b h => h.elim (hX b) fun h => Nat.lt_of_lt_of_le (hNlt b h) e5
    -- the round's first part: what is given is assigned
    have hs0 : SR (roundCtx C l G' G'.S W (fun b => X b ∨ N b) hKlt) G' M' { σ with H := H, L := L, tr := ctr, stop := cst } { tmps := a.tmps, defers := [] } W :=
      SRb.toSR (C := roundCtx C l G' G'.S W (fun b => X b ∨ N b) hKlt) (ds := []) ⟨e1.size, e1.env, e1.holds, e1.mlt, e1.boxes, e1.boxn, e1.boxlt, e1.boxinj, e1.live, e1.nxt, e1.owns, e1.owninj, e1.ownbox, e1.loop, .refl G'⟩ (fun _ h => h) e1.mlt (fun d h => by cases h) (by simp)
        ⟨e2, StepW.refl hh _, fun b hb hk => hk.elim (e3 b hb).1 (e3 b hb).2⟩
    have hs0 := SR.bind ps.toList vs args _ _ hs0 (hrep.up (fun _ _ _ h => h))
    have hzip : (ps.zip vs.toArray).foldl (fun tmps (x : Tmp × Value) => tmps.setIfInBounds x.1 x.2) a.tmps = (ps.toList.zip vs).foldl (fun t p => t.setIfInBounds p.1 p.2) a.tmps := by
      rw [← Array.foldl_toList, Array.toList_zip]
    rw [show (ps.zip vs.toArray).foldl (fun tmps x => match x with | (t, a) => tmps.setIfInBounds t a) a.tmps = (ps.toList.zip vs).foldl (fun t p => t.setIfInBounds p.1 p.2) a.tmps from hzip]
    have hcont : ∀ (S1 : Shadow) (w1 : World) (h1 : ∀ b, (X b ∨ N b) → b < w1.heap.size) (G1 : Ghost), RoundCtx C (roundCtx C l G1 S1 w1 (fun b => X b ∨ N b) h1) l := fun S1 w1 h1 G1 => roundCtx_like C l G1 S1 w1 _ h1
    -- any circumstances of the second part
    have hro1 : fw (roundCtx C l G' G'.S W (fun b => X b ∨ N b) hKlt).ro = Fence.wide.inRound l := rfl
    have go : ∀ (G1 : Ghost) (M1 : Nat → Prop) (σ1 : Sta) (a1 : Act) (w1 : World), G'.le G1 → SR (roundCtx C l G' G'.S W (fun b => X b ∨ N b) hKlt) G1 M1 σ1 a1 w1 → (∀ C'', RoundCtx C C'' l → awp C'' body (rndQ I Ix (tr ++ [args])) σ1) →
        ∃ w2, (Instr.beginRound l).run P w1 = .ok () w2 ∧ body.wpIn (Fence.wide.inRound l) m P (roundPost P l fun e W' => ∃ b S', e = .returned (.bool b) ∧ J (tr ++ [args]) (!b) S' X W' ∧ StepW G'.S W S' W' X) a1 w2 := by
      intro G1 M1 σ1 a1 w1 hle1 hs1 hbody
      obtain ⟨k1, k2, k3⟩ := hs1.ctx
      have hl1 : w1.heap[l]? = some (.loop (rec .ready none)) := ((k2.keep l hlW (.inr hNl)).1).trans e7
      refine ⟨w1.putObj l (.loop { rec .ready none with state := .busy }), run_beginRound hl1 (by rw [hrec]), ?_⟩
      obtain ⟨w2, hw2⟩ : ∃ w2, w1.putObj l (.loop { rec .ready none with state := .busy }) = w2 := ⟨_, rfl⟩
      rw [hw2]
      have hsz12 : w2.heap.size = w1.heap.size := by rw [← hw2]; exact World.putObj_size
      have hK2 : ∀ b, (X b ∨ N b) → b < w2.heap.size := fun b h => by rw [hsz12]; exact Nat.lt_of_lt_of_le (hKlt b h) k2.size
      have hM1l : ∀ b, M1 b → b ≠ l := fun b hb e => k3 b hb (.inr (e ▸ hNl))
      have hst12 : ∀ K : Nat → Prop, (∀ b, K b → b ≠ l) → StepW G1.S w1 G1.S w2 K := fun K hK => by rw [← hw2]; exact StepW.putObj hs1.holds _ hl1 rfl hK
      have hl2 : w2.heap[l]? = some (.loop { rec .ready none with state := .busy }) := by rw [← hw2]; exact World.putObj_heap_same (Nat.lt_of_lt_of_le hlW k2.size)
      have hs2 : SR (roundCtx C l G1 G1.S w2 (fun b => X b ∨ N b) hK2) G1 M1 σ1 a1 w2 := {
        size := hs1.size
        env := hs1.env
        holds := (hst12 _ (fun b h => h)).holds
        mlt := fun b h => by rw [hsz12]; exact hs1.mlt b h
        boxes := fun i bc hi => by
          obtain ⟨b, h1, h2⟩ := hs1.boxes i bc hi
          exact ⟨b, h1, h2.next (.refl G1) (fun hM => (hst12 M1 hM1l).keep b (hs1.mlt b hM) hM) fun h => h⟩
        boxn := hs1.boxn
        boxlt := fun i b e => by rw [hsz12]; exact hs1.boxlt i b e
        boxinj := hs1.boxinj
        live := hs1.live
        nxt := hs1.nxt
        owns := fun s r h => (hs1.owns s r h).next (fun hM => (hst12 M1 hM1l).keep _ (hs1.mlt _ hM) hM) fun h => h
        owninj := hs1.owninj
        ownbox := hs1.ownbox
        loop := hs1.loop
        base := .refl G1
        defers := fun d hd => by
          obtain ⟨D', f1, f2, f3⟩ := hs1.defers d hd
          exact ⟨D', f1, f2, ((hst12 M1 hM1l).keep D' (hs1.mlt D' f2) f2).1.trans f3⟩
        dnd := hs1.dnd
        ctx := ⟨C.stable _ _ _ _ _ _ _ _ k1 hs1.holds (hst12 _ fun b hb e => hb (.inr (.inr (e ▸ hNl)))) (fun _ h => h) (fun _ h => .inl h) (fun b h => h.elim (fun h => by rw [hsz12]; exact hs1.mlt b h) (hK2 b)), StepW.refl (hst12 _ (fun b h => h)).holds _, k3⟩ }
      have hb := hbody _ (hcont G1.S w2 hK2 G1) m G1 M1 a1 w2 hs2
      refine Go.wpIn_mono (show body.wpIn (Fence.wide.inRound l) m P _ a1 w2 from hb) ?_
      rintro e a3 w3 ⟨G3, M3, σ3, hq, hs3⟩
      obtain ⟨q1, q2, q3⟩ := hs3.ctx
      have hl3 : w3.heap[l]? = some (.loop { rec .ready none with state := .busy }) := ((q2.keep l (by rw [hsz12]; exact Nat.lt_of_lt_of_le hlW k2.size) (.inr hNl)).1).trans hl2
      have hle3 : G1.le G3 := hs3.base
      have fin : ∀ (jump : Option Code), (match jump with | none => I (tr ++ [args]) σ3.H σ3.L σ3.tr σ3.stop | some c => Ix c (tr ++ [args]) σ3.H σ3.L σ3.tr σ3.stop) →
          ∃ v w4, (Instr.endRound l jump).run P w3 = .ok v w4 ∧ ∃ b S', (Ending.returned v) = .returned (.bool b) ∧ J (tr ++ [args]) (!b) S' X w4 ∧ StepW G'.S W S' w4 X := by
        intro jump hj
        have hend := run_endRound (P := P) jump hl3
        obtain ⟨w4, hw4⟩ : ∃ w4, w3.putObj l (.loop { ({ rec .ready none with state := .busy } : Loop) with state := if jump.isNone then .ready else .done, pending := jump }) = w4 := ⟨_, rfl⟩
        rw [hw4] at hend
        have hl4 : w4.heap[l]? = some (.loop { ({ rec .ready none with state := .busy } : Loop) with state := if jump.isNone then .ready else .done, pending := jump }) := by
          rw [← hw4]; exact World.putObj_heap_same (Array.getElem?_eq_some_iff.1 hl3).1
        have hsz34 : w4.heap.size = w3.heap.size := by rw [← hw4]; exact World.putObj_size
        have hst34 : ∀ K : Nat → Prop, (∀ b, K b → b ≠ l) → StepW G3.S w3 G3.S w4 K := fun K hK => by rw [← hw4]; exact StepW.putObj hs3.holds _ hl3 rfl hK
        have hM3l : ∀ b, M3 b → b ≠ l := fun b hb e => q3 b hb (.inr (e ▸ hNl))
        have hXl : ∀ b, X b → b ≠ l := fun b hb e => e4 b hb (e ▸ hNl)
        have hszW : W.heap.size ≤ w3.heap.size := Nat.le_trans k2.size (by have := q2.size; omega)
        refine ⟨_, w4, hend, jump.isNone, G3.S, rfl, ⟨G3, M3, σ3.H, σ3.L, σ3.tr, σ3.stop, jump, rfl, ?_, ?_, fun b hb => ⟨fun hx => q3 b hb (.inl hx), fun hn => q3 b hb (.inr hn)⟩, e4, by rw [hsz34]; exact Nat.le_trans e5 hszW, fun b hn hbl => ?_, ?_, ?_, ?_⟩, ?_⟩
        · exact {
            size := e1.size
            env := fun t => ((e1.env t).mono hle1).mono hle3
            holds := (hst34 _ (fun b h => h)).holds
            mlt := fun b h => by rw [hsz34]; exact hs3.mlt b h
            boxes := fun i bc hi => by
              obtain ⟨b, h1, h2⟩ := hs3.boxes i bc hi
              exact ⟨b, h1, h2.next (.refl G3) (fun hM => (hst34 M3 hM3l).keep b (hs3.mlt b hM) hM) fun h => h⟩
            boxn := hs3.boxn
            boxlt := fun i b e => by rw [hsz34]; exact hs3.boxlt i b e
            boxinj := hs3.boxinj
            live := hs3.live
            nxt := hs3.nxt
            owns := fun s r h => (hs3.owns s r h).next (fun hM => (hst34 M3 hM3l).keep _ (hs3.mlt _ hM) hM) fun h => h
            owninj := hs3.owninj
            ownbox := hs3.ownbox
            loop := hs3.loop
            base := (e1.base.trans hle1).trans hle3 }
        · exact C.stable _ _ _ _ _ _ _ _ q1 hs3.holds (hst34 _ fun b hb e => hb (.inr (.inr (e ▸ hNl)))) (fun _ h => h) (fun _ h => .inl h) (fun b h => by
            rw [hsz34]
            rcases h with h | h
            · exact hs3.mlt b h
            · exact Nat.lt_of_lt_of_le (hKlt b h) hszW)
        · have i1 := ((hst34 _ (fun b (h : b ≠ l) => h)).keep b (Nat.lt_of_lt_of_le (hKlt b (.inr hn)) hszW) hbl).1
          have i2 := (q2.keep b (hK2 b (.inr hn)) (.inr hn)).1
          have i3 := ((hst12 _ (fun b (h : b ≠ l) => h)).keep b (Nat.lt_of_lt_of_le (hKlt b (.inr hn)) k2.size) hbl).1
          have i4 := (k2.keep b (hKlt b (.inr hn)) (.inr hn)).1
          exact i1.trans (i2.trans (i3.trans (i4.trans (e6 b hn hbl))))
        · rw [hl4, hrec]; cases jump <;> rfl
        · intro h; cases jump with
          | none => exact ⟨rfl, hj⟩
          | some c => cases h
        · intro h; cases jump with
          | none => cases h
          | some c => exact ⟨c, rfl, hj⟩
        · have j1 := k2.mono (fun b (h : X b) => (.inl h : X b ∨ N b))
          have j2 := hst12 X hXl
          have j3 := q2.mono (fun b (h : X b) => (.inl h : X b ∨ N b))
          exact ((j1.trans j2).trans j3).trans (hst34 X hXl)
      cases e with
      | normal => exact fin none hq
      | ret => exact fin (some .ret) hq
      | exit id => exact fin (some (.exit id)) hq
      | goto t => exact hq.elim
      | panic ch => exact hq.elim
      | outgrown => exact hq.elim
    have hw := hround l (roundCtx C l G' G'.S W (fun b => X b ∨ N b) hKlt) (hcont _ _ _ _) tr args H L ctr cst hI hmay.1 hmay.2 m G' M' _ W hs0
    refine Go.wpIn_mono (show assign.wpIn (Fence.wide.inRound l) m P _ _ W from hw) ?_
    rintro e a1 w1 ⟨G1, M1, σ1, ⟨rfl, hb⟩, hs1⟩
    exact go G1 M1 σ1 a1 w1 hs1.base hs1 hb
  let Ci : Ctx P := { J := J, stable := hstable, loop := some l, ro := none, own := fun _ => false, G0 := botG (some l), may := fun tr args => tr = xs.take tr.length ∧ xs[tr.length]? = some args, yield := hyield }
  have hcall := hseq.2 Ci l (n - 1) G.S W1 vs.toList ⟨rfl, rfl, rfl, rfl, fun tr args h1 h2 => ⟨h1, h2⟩⟩ hsB.holds hcw hJ0
  refine ⟨l, [{ target := .collected D, args := #[] }], W1, { target := .fn (.func f) vs, args := #[.func (.yield l) #[] #[]] }, W1, f, #[.func (.yield l) #[] #[]] ++ vs, W1, ?_, ?_, fun _ _ => trivial, ?_, (fun h => nomatch h), ?_⟩
  · rw [hl, hD, ← hW1, hrec]; exact run_enterLoop_outer _ _ _ _ _
  · simp only [resolve, hv]
    simp [go_sem]
  · have := hseq.1 (#[.func (.yield l) #[] #[]] ++ vs) W1
    simp [invoke, go_sem, this]
  · have e : vs.toList.toArray = vs := by simp
    rw [e] at hcall
    refine CallsIn.mono hcall ?_
    rintro e W ⟨v, S', X, tr, st, rfl, hJ, hh, hX, hend⟩
    obtain ⟨G', M', H, L, ctr, cst, pe, rfl, e1, e2, e3, e4, e5, e6, e7, e8, e9⟩ := hJ
    have hlW : l < W.heap.size := by omega
    have hNl : N l := by rw [hN]; exact .inr (.inl rfl)
    have hrun := run_endLoop (P := P) e7 (by rw [hrec]; cases st <;> simp)
    obtain ⟨w4, hw4⟩ : ∃ w4, W.putObj l (.loop { rec (if st = true then .done else .ready) pe with state := .exhausted }) = w4 := ⟨_, rfl⟩
    rw [hw4] at hrun
    have hsz4 : w4.heap.size = W.heap.size := by rw [← hw4]; exact World.putObj_size
    have hst4 : ∀ K : Nat → Prop, (∀ b, K b → b ≠ l) → StepW G'.S W G'.S w4 K := fun K hK => by rw [← hw4]; exact StepW.putObj hh _ e7 rfl hK
    have hM'l : ∀ b, M' b → b ≠ l := fun b hb e => (e3 b hb).2 (e ▸ hNl)
    have hKlt : ∀ b, (X b ∨ N b) → b < W.heap.size := fun b h => h.elim (hX b) fun h => Nat.lt_of_lt_of_le (hNlt b h) e5
    have hdl : ∀ b, defBlk a b → b ≠ l := fun b hb e => by have := hs.mlt b (hdef b hb).1; omega
    have hDl : D ≠ l := by omega
    have hkeep : ∀ b, N b → b ≠ l → w4.heap[b]? = W1.heap[b]? := fun b hn hbl => ((hst4 _ (fun b (h : b ≠ l) => h)).keep b (hKlt b (.inr hn)) hbl).1.trans (e6 b hn hbl)
    have hfin : SR C G' (fun b => M' b ∨ X b ∨ N b) { σ with H := H, L := L, tr := ctr, stop := cst } { a with defers := [{ target := .collected D, args := #[] }] ++ a.defers } w4 := by
      refine SRb.toSR (M := M') (e1.next (hst4 _ (fun b h => h)).holds (Nat.le_of_eq hsz4.symm) (.refl G') (fun b hb => (hst4 M' hM'l).keep b (e1.mlt b hb) hb) rfl rfl rfl rfl) (fun b h => .inl h) (fun b h => by
        rw [hsz4]; exact h.elim (e1.mlt b) (hKlt b)) (fun d hd => ?_) ?_ ?_
      · rcases List.mem_append.1 hd with h | h
        · rw [List.mem_singleton] at h; subst h
          exact ⟨D, rfl, .inr (.inr (by rw [hN]; exact .inl rfl)), (hkeep D (by rw [hN]; exact .inl rfl) hDl).trans hK1⟩
        · obtain ⟨D', f1, f2, f3⟩ := hs.defers d h
          have hb : defBlk a D' := ⟨d, h, by rw [f1]⟩
          have hn : N D' := by rw [hN]; exact .inr (.inr hb)
          exact ⟨D', f1, .inr (.inr hn), ((hkeep D' hn (hdl D' hb)).trans (hold D' (hs.mlt D' f2))).trans f3⟩
      · simp only [List.cons_append, List.nil_append, List.map_cons, List.nodup_cons]
        refine ⟨fun hmem => ?_, hs.dnd⟩
        obtain ⟨d, hd, ht⟩ := List.mem_map.1 hmem
        have := hs.mlt D (hdef D ⟨d, hd, ht⟩).1
        omega
      · exact C.stable _ _ _ _ _ _ _ _ e2 hh (hst4 _ fun b hb e => hb (.inr (.inr (e ▸ hNl)))) (fun _ h => h) (fun _ h => .inl h) (fun b h => by rw [hsz4]; exact h.elim (e1.mlt b) (hKlt b))
    cases st with
    | false =>
      obtain ⟨rfl, hI⟩ := e8 rfl
      have htr : tr = xs := hend.resolve_left (fun h => nomatch h)
      rw [htr] at hI
      refine ⟨none, w4, by rw [hrun, hrec], G', _, _, hdone H L ctr cst hI, hfin⟩
    | true =>
      obtain ⟨c, rfl, hI⟩ := e9 rfl
      refine ⟨some c, w4, by rw [hrun, hrec], ?_⟩
      have := hstop c tr H L ctr cst hI n G' _ _ w4 hfin
      rw [show fw C.ro = Fence.wide by rw [hro]; rfl] at this
      exact this
end
end Go.Abs
