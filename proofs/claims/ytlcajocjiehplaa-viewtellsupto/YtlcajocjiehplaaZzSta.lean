/- The abstract state, what it says of the machine's, and the abstract weakest precondition. -/
import Derived.Test.YtlcajocjiehplaaZzVal
import Derived.LoopNIn
set_option linter.unusedVariables false
set_option linter.unusedSimpArgs false
namespace Go.Abs
open Go Go.RowKit

def Holds (S : Shadow) (w : World) : Prop := ∀ b o v, S b o = some v → w.cell? ⟨b, o, none⟩ = some v ∧ v.oneCell' = true

/-- From one world to a later one: what is known stays; the blocks that are to be kept lie as they lay, and nothing new is known of them. -/
structure StepW (S : Shadow) (w : World) (S' : Shadow) (w' : World) (Keep : Nat → Prop) : Prop where
  os : w'.os = w.os
  tape : w'.tape = w.tape
  output : w'.output = w.output
  size : w.heap.size ≤ w'.heap.size
  sub : Shadow.le S S'
  holds : Holds S' w'
  keep : ∀ b, b < w.heap.size → Keep b → w'.heap[b]? = w.heap[b]? ∧ ∀ o, S' b o = S b o

theorem StepW.refl {S : Shadow} {w : World} (h : Holds S w) (Keep : Nat → Prop) : StepW S w S w Keep :=
  ⟨rfl, rfl, rfl, Nat.le_refl _, fun _ _ _ h => h, h, fun _ _ _ => ⟨rfl, fun _ => rfl⟩⟩
theorem StepW.trans {S S' S'' : Shadow} {w w' w'' : World} {K : Nat → Prop} (h : StepW S w S' w' K) (k : StepW S' w' S'' w'' K) : StepW S w S'' w'' K :=
  ⟨k.os.trans h.os, k.tape.trans h.tape, k.output.trans h.output, Nat.le_trans h.size k.size, fun b o v e => k.sub b o v (h.sub b o v e), k.holds,
   fun b hb hk => ⟨(k.keep b (Nat.lt_of_lt_of_le hb h.size) hk).1.trans (h.keep b hb hk).1, fun o => ((k.keep b (Nat.lt_of_lt_of_le hb h.size) hk).2 o).trans ((h.keep b hb hk).2 o)⟩⟩
theorem StepW.mono {S S' : Shadow} {w w' : World} {K K' : Nat → Prop} (h : StepW S w S' w' K) (hk : ∀ b, K' b → K b) : StepW S w S' w' K' :=
  ⟨h.os, h.tape, h.output, h.size, h.sub, h.holds, fun b hb k => h.keep b hb (hk b k)⟩
theorem Holds.lt {S : Shadow} {w : World} (h : Holds S w) {b o : Nat} {v : Value} (e : S b o = some v) : b < w.heap.size := World.block_lt_of_cell? w _ (h b o v e).1

/-- What stands about an activation: what its caller says of the world (J), at what has been yielded, whether the caller has asked for an end, what is known, which blocks are the activation's own. -/
structure Ctx (P : Program) where
  J : List (List AV) → Bool → Shadow → (Nat → Prop) → World → Prop
  stable : ∀ tr st S X W S' X' W', J tr st S X W → Holds S W → StepW S W S' W' (fun b => ¬ X b) → (∀ b, X b → X' b) → (∀ b, X' b → X b ∨ W.heap.size ≤ b) → (∀ b, X' b → b < W'.heap.size) → J tr st S' X' W'
  loop : Option Nat
  ro : Option Nat
  own : Nat → Bool
  G0 : Ghost
  may : List (List AV) → List AV → Prop
  yield : ∀ l, loop = some l → ∀ tr args S X W vs m, J tr false S X W → Holds S W → (∀ b, X b → b < W.heap.size) → may tr args → RepL (gp S) vs args →
    YieldAt Fence.wide m P l vs.toArray W fun e W' => ∃ b S', e = .returned (.bool b) ∧ J (tr ++ [args]) (!b) S' X W' ∧ StepW S W S' W' X

structure BoxC where
  cells : List AV
  wr : Bool

structure Sta where
  env : Nat → AV
  n : Nat
  H : List BoxC
  L : List Bool
  tr : List (List AV)
  stop : Bool

def Sta.put (σ : Sta) (dst : Option Tmp) (x : AV) : Sta :=
  match dst with
  | some d => { σ with env := fun t => if t = d ∧ d < σ.n then x else σ.env t }
  | none => σ
def Sta.get (σ : Sta) (t : Nat) : AV := σ.env t
def Sta.eval (σ : Sta) : Operand → AV
  | .tmp t => σ.get t
  | .const v => cav v
  | .global g => .lit (.pointer (some ⟨g, 0, none⟩))
  | .func f => .clo f []

def BoxOK (G : Ghost) (M : Nat → Prop) (w : World) (b : Nat) (bc : BoxC) : Prop :=
  ∃ cells : List Value, match bc.wr with
    | true => M b ∧ (∃ E, w.heap[b]? = some (.cells cells.toArray E (0, 0))) ∧ (∀ o, G.S b o = none) ∧ RepL G cells bc.cells ∧ ∀ v, v ∈ cells → v.oneCell' = true
    | false => (∀ j, j < cells.length → G.S b j = some (cells.getD j undef)) ∧ RepL G.pure cells bc.cells

structure OwnsOK (G : Ghost) (M : Nat → Prop) (w : World) (r : OwnRec) : Prop where
  m : M r.blk
  heap : ∃ cells E, w.heap[r.blk]? = some (.cells cells E (0, 0)) ∧ cells.size = r.tot
  fin : r.fin ≤ r.tot
  S : ∀ o, G.S r.blk o ≠ none → o < r.fin

structure SR {P : Program} (C : Ctx P) (G : Ghost) (M : Nat → Prop) (σ : Sta) (a : Act) (w : World) : Prop where
  size : a.tmps.size = σ.n
  env : ∀ t, Rep G (a.tmps.getD t undef) (σ.get t)
  holds : Holds G.S w
  mlt : ∀ b, M b → b < w.heap.size
  boxes : ∀ i bc, σ.H[i]? = some bc → ∃ b, G.box i = some b ∧ BoxOK G M w b bc
  boxn : ∀ i, σ.H.length ≤ i → G.box i = none
  boxlt : ∀ i b, G.box i = some b → b < w.heap.size
  boxinj : ∀ i j b, G.box i = some b → G.box j = some b → i = j
  live : σ.L.length = G.nxt ∧ ∀ s, σ.L[s]? = some true → (∃ r, G.own s = some r) ∨ G.ful s = true
  nxt : ∀ s r, G.own s = some r → s < G.nxt
  owns : ∀ s r, G.own s = some r → OwnsOK G M w r
  owninj : ∀ s t r q, G.own s = some r → G.own t = some q → r.blk = q.blk → s = t
  ownbox : ∀ s r i, G.own s = some r → G.box i ≠ some r.blk
  loop : G.loop = C.loop
  base : C.G0.le G
  defers : ∀ d, d ∈ a.defers → ∃ D, d = { target := .collected D, args := #[] } ∧ M D ∧ w.heap[D]? = some (.deferred (some []))
  dnd : (a.defers.map Deferred.target).Nodup
  ctx : C.J σ.tr σ.stop G.S M w

/-- The fence of a frame: wide, in a round or not. -/
def fw (ro : Option Nat) : Fence := { Fence.wide with round := ro }
@[simp] theorem fw_fn (ro : Option Nat) (f : FuncId) : (fw ro).fn f = True := rfl
@[simp] theorem fw_depth (ro : Option Nat) : (fw ro).depth = none := rfl
@[simp] theorem fw_round (ro : Option Nat) : (fw ro).round = ro := rfl
theorem fw_none : fw none = Fence.wide := rfl

section
variable {P : Program} (C : Ctx P)

def post (Q : Exit → Sta → Prop) : Exit → Act → World → Prop := fun e a w => ∃ G M σ, Q e σ ∧ SR C G M σ a w

def awp (c : Code) (Q : Exit → Sta → Prop) (σ : Sta) : Prop :=
  ∀ n G M a w, SR C G M σ a w → c.wpIn (fw C.ro) n P (post C Q) a w

def aops (ops : Array Oper) (l : List Oper) (K : Sta → Prop) (σ : Sta) : Prop :=
  ∀ ro n G M a w, SR C G M σ a w → wpListIn (fw ro) n P ops (fun e a' w' => e = .normal ∧ ∃ G' M' σ', K σ' ∧ SR C G' M' σ' a' w') l a w

def aop (o : Oper) (K : Sta → Prop) (σ : Sta) : Prop :=
  ∀ ro n G M a w (next : Act → World → Prop) (Q : Exit → Act → World → Prop), SR C G M σ a w → (∀ G' M' σ' a' w', K σ' → SR C G' M' σ' a' w' → next a' w') → o.wpIn (fw ro) n P a w next Q

variable {C}
theorem awp_mono {c : Code} {Q Q' : Exit → Sta → Prop} {σ : Sta} (h : awp C c Q σ) (k : ∀ e σ, Q e σ → Q' e σ) : awp C c Q' σ :=
  fun n G M a w hs => wpIn_mono (h n G M a w hs) fun e a w ⟨G, M, σ, q, s⟩ => ⟨G, M, σ, k _ _ q, s⟩
theorem awp_skip {Q : Exit → Sta → Prop} {σ : Sta} (h : Q .normal σ) : awp C .skip Q σ := fun n G M a w hs => wpIn_skip ⟨G, M, σ, h, hs⟩
theorem awp_exit {id : Nat} {Q : Exit → Sta → Prop} {σ : Sta} (h : Q (.exit id) σ) : awp C (.exit id) Q σ := fun n G M a w hs => wpIn_exit ⟨G, M, σ, h, hs⟩
theorem awp_ret {Q : Exit → Sta → Prop} {σ : Sta} (h : Q .ret σ) : awp C .ret Q σ := fun n G M a w hs => wpIn_ret ⟨G, M, σ, h, hs⟩

/-- Behind code: on with the next, or out. -/
def thn (K : Sta → Prop) (Q : Exit → Sta → Prop) : Exit → Sta → Prop
  | .normal, σ => K σ
  | e, σ => Q e σ
def inBlk (id : Nat) (Q : Exit → Sta → Prop) : Exit → Sta → Prop
  | .exit i, σ => if i = id then Q .normal σ else Q (.exit i) σ
  | e, σ => Q e σ

theorem awp_seq {x y : Code} {Q : Exit → Sta → Prop} {σ : Sta} (h : awp C x (thn (awp C y Q) Q) σ) : awp C (.seq x y) Q σ := by
  intro n G M a w hs
  refine wpIn_seq (wpIn_mono (h n G M a w hs) ?_)
  rintro e a w ⟨G, M, σ, q, s⟩
  cases e with
  | normal => exact q n G M a w s
  | exit _ => exact ⟨G, M, σ, q, s⟩
  | goto _ => exact ⟨G, M, σ, q, s⟩
  | ret => exact ⟨G, M, σ, q, s⟩
  | panic _ => exact ⟨G, M, σ, q, s⟩
  | outgrown => exact ⟨G, M, σ, q, s⟩
theorem awp_block {id : Nat} {x : Code} {Q : Exit → Sta → Prop} {σ : Sta} (h : awp C x (inBlk id Q) σ) : awp C (.block id x) Q σ := by
  intro n G M a w hs
  refine wpIn_block (wpIn_mono (h n G M a w hs) ?_)
  rintro e a w ⟨G, M, σ, q, s⟩
  cases e with
  | exit i =>
    simp only [Exit.inBlock]
    simp only [inBlk] at q
    split at q
    · rename_i hi; rw [if_pos hi]; exact ⟨G, M, σ, q, s⟩
    · rename_i hi; rw [if_neg hi]; exact ⟨G, M, σ, q, s⟩
  | normal => exact ⟨G, M, σ, q, s⟩
  | goto _ => exact ⟨G, M, σ, q, s⟩
  | ret => exact ⟨G, M, σ, q, s⟩
  | panic _ => exact ⟨G, M, σ, q, s⟩
  | outgrown => exact ⟨G, M, σ, q, s⟩
theorem eval_rep {G : Ghost} {M : Nat → Prop} {σ : Sta} {a : Act} {w : World} (hs : SR C G M σ a w) (x : Operand) (_ : True := trivial) : Rep G (a.eval x) (σ.eval x) := by
  cases x with
  | tmp t => exact hs.env t
  | const v => exact .const G v
  | global g => exact .lit trivial
  | func f => exact .clo f #[] [] rfl fun j => by simpa using Rep.undef
theorem awp_cond {c : Operand} {x y : Code} {Q : Exit → Sta → Prop} {σ : Sta} {b : Bool} (hc : σ.eval c = .lit (.bool b))
    (ht : b = true → awp C x Q σ) (hf : b = false → awp C y Q σ) : awp C (.cond c x y) Q σ := by
  intro n G M a w hs
  have hr := eval_rep hs c
  rw [hc] at hr
  have e := hr.lit_eq.1
  exact wpIn_cond_split e (fun h => ht h n G M a w hs) (fun h => hf h n G M a w hs)
theorem awp_loop {c : Code} {Q : Exit → Sta → Prop} {σ : Sta} (I : Nat → Sta → Prop) {m : Nat} (h0 : I m σ)
    (h : ∀ m σ, I m σ → awp C c (thn (fun σ' => ∃ k, k < m ∧ I k σ') Q) σ) : awp C (.loop c) Q σ := by
  intro n G M a w hs
  refine wpIn_loop_rounds (m + 1) ?_
  have key : ∀ j m σ G M a w, m ≤ j → I m σ → SR C G M σ a w → Code.roundsIn (fw C.ro) n P c (post C Q) (j + 1) a w := by
    intro j
    induction j with
    | zero =>
      intro m σ G M a w hm hI hs
      rw [roundsIn_succ]
      refine wpIn_mono (h m σ hI n G M a w hs) ?_
      rintro e a w ⟨G, M, σ, q, s⟩
      cases e with
      | normal => obtain ⟨k, hk, _⟩ := q; omega
      | exit _ => exact ⟨G, M, σ, q, s⟩
      | goto _ => exact ⟨G, M, σ, q, s⟩
      | ret => exact ⟨G, M, σ, q, s⟩
      | panic _ => exact ⟨G, M, σ, q, s⟩
      | outgrown => exact ⟨G, M, σ, q, s⟩
    | succ j ih =>
      intro m σ G M a w hm hI hs
      rw [roundsIn_succ]
      refine wpIn_mono (h m σ hI n G M a w hs) ?_
      rintro e a w ⟨G, M, σ, q, s⟩
      cases e with
      | normal => obtain ⟨k, hk, hI'⟩ := q; exact ih k σ G M a w (by omega) hI' s
      | exit _ => exact ⟨G, M, σ, q, s⟩
      | goto _ => exact ⟨G, M, σ, q, s⟩
      | ret => exact ⟨G, M, σ, q, s⟩
      | panic _ => exact ⟨G, M, σ, q, s⟩
      | outgrown => exact ⟨G, M, σ, q, s⟩
  exact key m m σ G M a w (Nat.le_refl _) h0 hs
theorem awp_region {id : Nat} {ops : List Oper} {Q : Exit → Sta → Prop} {σ : Sta} (h : aops C ops.toArray ops (Q .normal) σ) : awp C (.region id ops.toArray false) Q σ := by
  intro n G M a w hs
  refine Go.wpIn_mono (wpIn_region_lit (h C.ro n G M a w hs)) ?_
  rintro e a w ⟨rfl, G, M, σ, q, s⟩
  exact ⟨G, M, σ, q, s⟩
theorem aops_nil {ops : Array Oper} {K : Sta → Prop} {σ : Sta} (h : K σ) : aops C ops [] K σ := fun ro n G M a w hs => ⟨rfl, G, M, σ, h, hs⟩
theorem aops_cons {ops : Array Oper} {o : Oper} {l : List Oper} {K : Sta → Prop} {σ : Sta} (hg : o.guard = none) (h : aop C o (aops C ops l K) σ) : aops C ops (o :: l) K σ := by
  intro ro n G M a w hs
  simp only [wpListIn, Region.wanted, hg, if_true]
  exact h ro n G M a w _ _ hs fun G' M' σ' a' w' k s => k ro n G' M' a' w' s
end
end Go.Abs
