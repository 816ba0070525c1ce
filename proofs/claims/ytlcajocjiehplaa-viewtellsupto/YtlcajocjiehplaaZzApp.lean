/- Appending: what an activation owns, and how it grows. -/
import Derived.Test.YtlcajocjiehplaaZzOps4
set_option linter.unusedVariables false
set_option linter.unusedSimpArgs false
namespace Go.Abs
open Go Go.RowKit

def addS (S : Shadow) (b lo : Nat) (cells : List Value) : Shadow := fun b' o => if b' = b ∧ lo ≤ o ∧ o < lo + cells.length then some (cells.getD (o - lo) undef) else S b' o
theorem addS_ne {S : Shadow} {b lo : Nat} {cells : List Value} {b' o : Nat} (h : b' ≠ b) : addS S b lo cells b' o = S b' o := by simp [addS, h]
theorem addS_in {S : Shadow} {b lo : Nat} {cells : List Value} {j : Nat} (h : j < cells.length) : addS S b lo cells b (lo + j) = some (cells.getD j undef) := by simp [addS, h]
theorem addS_out {S : Shadow} {b lo : Nat} {cells : List Value} {o : Nat} (h : o < lo) : addS S b lo cells b o = S b o := by
  unfold addS; rw [if_neg (by omega)]

def growOwn (G : Ghost) (b lo sz tot : Nat) (cells : List Value) (old : Option Nat) : Ghost :=
  { G with S := addS G.S b lo cells, nxt := G.nxt + 1, own := fun t => if t = G.nxt then some ⟨b, lo + cells.length, tot, sz⟩ else if some t = old then none else G.own t, ful := fun t => if t = G.nxt then false else if some t = old then false else G.ful t }
/-- A right is let go. -/
def kill (L : List Bool) (old : Option Nat) : List Bool :=
  match old with
  | some s => L.set s false
  | none => L
theorem kill_length (L : List Bool) (old : Option Nat) : (kill L old).length = L.length := by cases old <;> simp [kill]
theorem kill_get {L : List Bool} {old : Option Nat} {s : Nat} (h : (kill L old ++ [true])[s]? = some true) : s = L.length ∨ (some s ≠ old ∧ L[s]? = some true) := by
  rcases Nat.lt_trichotomy s L.length with hl | hl | hl
  · rw [List.getElem?_append_left (by rw [kill_length]; exact hl)] at h
    cases old with
    | none => exact .inr ⟨by simp, h⟩
    | some o =>
      simp only [kill, List.getElem?_set] at h
      split at h
      · split at h <;> cases h
      · rename_i hne; exact .inr ⟨fun e => hne (Option.some.inj e).symm, h⟩
  · exact .inl hl
  · rw [List.getElem?_eq_none (by simp [kill_length]; omega)] at h; cases h

section
variable {P : Program} {C : Ctx P} {G : Ghost} {M : Nat → Prop} {σ : Sta} {a : Act} {w w' : World}

theorem growOwn_le {b lo sz tot : Nat} {cells : List Value} {old : Option Nat} (hS : ∀ o v, G.S b o = some v → o < lo) : G.le (growOwn G b lo sz tot cells old) where
  S := fun b' o v e => by
    simp only [growOwn]
    by_cases h : b' = b
    · subst h; rw [addS_out (hS o v e)]; exact e
    · rw [addS_ne h]; exact e
  box := fun _ _ e => e
  nxt := Nat.le_succ _
  own := fun s r hlt e => by
    simp only [growOwn] at e
    rw [if_neg (by omega)] at e
    split at e
    · cases e
    · exact e
  ful := fun s hlt e => by
    simp only [growOwn] at e
    rw [if_neg (by omega)] at e
    split at e
    · cases e
    · exact e
  loop := rfl

theorem SR.grow (hs : SR C G M σ a w) {b lo sz : Nat} {arr : Array Value} {E : TypeId} {cells : List Value} {old : Option Nat} (hb : M b) (hbox : ∀ i, G.box i ≠ some b)
    (hown : ∀ s r, G.own s = some r → r.blk = b → old = some s) (hos : w'.os = w.os) (htape : w'.tape = w.tape) (hout : w'.output = w.output) (hsz : w'.heap.size = w.heap.size) (hk : ∀ k, k ≠ b → w'.heap[k]? = w.heap[k]?)
    (hh : w'.heap[b]? = some (.cells arr E (0, 0))) (hd : ∀ l, w.heap[b]? ≠ some (.deferred l)) (hS : ∀ o v, G.S b o = some v → o < lo ∧ arr[o]? = some v) (hc : ∀ j, j < cells.length → arr[lo + j]? = some (cells.getD j undef)) (h1 : ∀ v, v ∈ cells → v.oneCell' = true) (hfit : lo + cells.length ≤ arr.size) :
    SR C (growOwn G b lo sz arr.size cells old) M { σ with L := kill σ.L old ++ [true] } a w' := by
  have hle : G.le (growOwn G b lo sz arr.size cells old) := growOwn_le fun o v e => (hS o v e).1
  have hholds : Holds (growOwn G b lo sz arr.size cells old).S w' := by
    intro b' o v e
    simp only [growOwn, addS] at e
    split at e
    · rename_i hin
      obtain ⟨rfl, h2, h3⟩ := hin
      cases e
      have := hc (o - lo) (by omega)
      rw [show lo + (o - lo) = o by omega] at this
      refine ⟨by simp [World.cell?, hh, this], ?_⟩
      have hj : o - lo < cells.length := by omega
      rw [List.getD_eq_getElem?_getD, List.getElem?_eq_getElem hj]
      exact h1 _ (List.getElem_mem hj)
    · refine ⟨?_, (hs.holds _ _ _ e).2⟩
      by_cases h : b' = b
      · subst h
        simp [World.cell?, hh, (hS o v e).2]
      · exact (World.cell?_of_block (w := w) (hk b' h)).trans (hs.holds _ _ _ e).1
  have hst : StepW G.S w (growOwn G b lo sz arr.size cells old).S w' (fun c => ¬ M c) :=
    ⟨hos, htape, hout, Nat.le_of_eq hsz.symm, hle.S, hholds, fun c hc' hn => by
      have : c ≠ b := fun h => hn (h ▸ hb)
      exact ⟨hk c this, fun o => addS_ne this⟩⟩
  exact {
    size := hs.size
    env := fun t => (hs.env t).mono hle
    holds := hholds
    mlt := fun c hc' => by rw [hsz]; exact hs.mlt c hc'
    boxes := fun i bc hi => by
      obtain ⟨c, f1, f2⟩ := hs.boxes i bc hi
      have hcb : c ≠ b := fun h => hbox i (h ▸ f1)
      exact ⟨c, f1, f2.next hle (fun _ => ⟨hk c hcb, fun o => addS_ne hcb⟩) fun h => h⟩
    boxn := hs.boxn
    boxlt := fun i c e => by rw [hsz]; exact hs.boxlt i c e
    boxinj := hs.boxinj
    live := by
      refine ⟨by simp [growOwn, kill_length, hs.live.1], fun s hsl => ?_⟩
      rcases kill_get hsl with rfl | ⟨hne, h⟩
      · exact .inl ⟨_, if_pos hs.live.1⟩
      · simp only [growOwn]
        have hlt : s < G.nxt := by
          rw [← hs.live.1]
          rcases Nat.lt_or_ge s σ.L.length with h' | h'
          · exact h'
          · rw [List.getElem?_eq_none h'] at h; cases h
        rcases hs.live.2 s h with ⟨r, hr⟩ | hf
        · refine .inl ⟨r, ?_⟩
          rw [if_neg (by omega), if_neg hne]; exact hr
        · refine .inr ?_
          rw [if_neg (by omega), if_neg hne]; exact hf
    nxt := fun s r e => by
      simp only [growOwn] at e ⊢
      split at e
      · omega
      · split at e
        · cases e
        · have := hs.nxt s r e; omega
    owns := fun s r e => by
      simp only [growOwn] at e
      split at e
      · cases e
        exact ⟨hb, ⟨arr, E, hh, rfl⟩, hfit, fun o ho => by
          simp only [growOwn, addS] at ho
          split at ho
          · rename_i h; exact h.2.2
          · cases e2 : G.S b o with
            | none => exact absurd e2 ho
            | some v => have := (hS o v e2).1; show o < lo + cells.length; omega⟩
      · split at e
        · cases e
        · rename_i hne
          have hrb : r.blk ≠ b := fun h => hne (hown s r e h).symm
          exact (hs.owns s r e).next (fun _ => ⟨hk _ hrb, fun o => addS_ne hrb⟩) fun h => h
    owninj := fun s t r q e1 e2 hrq => by
      simp only [growOwn] at e1 e2
      split at e1 <;> split at e2
      · omega
      · split at e2
        · cases e2
        · rename_i hne; cases e1; exact absurd (hown t q e2 hrq.symm).symm hne
      · split at e1
        · cases e1
        · rename_i hne; cases e2; exact absurd (hown s r e1 hrq).symm hne
      · split at e1
        · cases e1
        · split at e2
          · cases e2
          · exact hs.owninj s t r q e1 e2 hrq
    ownbox := fun s r i e => by
      simp only [growOwn] at e
      split at e
      · cases e; exact hbox i
      · split at e
        · cases e
        · exact hs.ownbox s r i e
    loop := hs.loop
    base := hs.base.trans hle
    defers := fun d hd' => by
      obtain ⟨D, f1, f2, f3⟩ := hs.defers d hd'
      exact ⟨D, f1, f2, (hk D fun h => hd _ (h ▸ f3)).trans f3⟩
    dnd := hs.dnd
    ctx := C.stable _ _ _ _ _ _ _ _ hs.ctx hs.holds hst (fun _ h => h) (fun _ h => .inl h) (fun c hc' => by rw [hsz]; exact hs.mlt c hc') }

/-- The right to append (elements of z cells) stands. -/
def OwnLive (L : List Bool) (z : Nat) (ow : Own) : Prop := ow = .full ∨ ∃ s, ow = .st s z ∧ L[s]? = some true
def stampO : Own → Option Nat
  | .st s _ => some s
  | _ => none

/-! ### The runs -/
theorem run_append_nil' (t u ty e e' : TypeId) (i : TypeInfo) (z : Value) (ht : P.underlying t = some (.slice e)) (hu : P.underlying u = some (.slice e')) (hi : P.info? e = some i) (hz : i.zero = some z)
    (a : Addr) (n c : Nat) (news : List Value) (hl : news.length = n * i.size) (hnews : ∀ j v, news[j]? = some v → w.cell? (a.add j) = some v)
    (h0 : 0 < n) (h63 : (n : Int) ≤ 9223372036854775807) (h48 : n * i.bytes ≤ 281474976710656) :
    (Builtin.append_ #[t, u] ty #[.slice none 0 0, .slice (some a) n c]).run P w =
      .ok (.slice (some ⟨w.heap.size, 0, none⟩) n (grownCap w n 0 e)) (w.drew.alloc (.cells (news.toArray ++ Builtin.zeroCells z.cells (grownCap w n 0 e - n)) e)) := by
  have hn : n ≠ 0 := by omega
  have h63' : ¬ (9223372036854775807 < (n : Int)) := by omega
  have h48' : ¬ (281474976710656 < Builtin.nextslicecap n 0 * i.bytes) := by rw [nextslicecap_zero h0]; omega
  have hf := run_firstCells_some (P := P) w.drew i.size n a n c news hl (by simpa using hnews)
  simp [Builtin.append_, run_underlying ht, run_underlying hu, sizeOf, typeInfo, zeroValue, hi, hz, Builtin.lenOf, hn, h63', h48', Question.forced, run_firstCells_none, hf, newRow, grownCap]
theorem run_append_grow' (t u ty e e' : TypeId) (i : TypeInfo) (z : Value) (ht : P.underlying t = some (.slice e)) (hu : P.underlying u = some (.slice e')) (hi : P.info? e = some i) (hz : i.zero = some z)
    (b : Addr) (sLen sCap : Nat) (olds : List Value) (hlo : olds.length = sLen * i.size) (holds : ∀ j v, olds[j]? = some v → w.cell? (b.add j) = some v)
    (a : Addr) (n c : Nat) (news : List Value) (hl : news.length = n * i.size) (hnews : ∀ j v, news[j]? = some v → w.cell? (a.add j) = some v)
    (hg : sCap < sLen + n) (h63 : ((sLen + n : Nat) : Int) ≤ 9223372036854775807) (hfit : Builtin.nextslicecap (sLen + n) sCap * i.bytes ≤ 281474976710656) :
    (Builtin.append_ #[t, u] ty #[.slice (some b) sLen sCap, .slice (some a) n c]).run P w =
      .ok (.slice (some ⟨w.heap.size, 0, none⟩) (sLen + n) (grownCap w (sLen + n) sCap e))
        (w.drew.alloc (.cells (olds.toArray ++ news.toArray ++ Builtin.zeroCells z.cells (grownCap w (sLen + n) sCap e - (sLen + n))) e)) := by
  have hn : ¬ (sLen + n ≤ sCap) := by omega
  have h63' : ¬ (9223372036854775807 < ((sLen : Int) + (n : Int))) := by omega
  have h48' : ¬ (281474976710656 < Builtin.nextslicecap (sLen + n) sCap * i.bytes) := by omega
  have hf := run_firstCells_some (P := P) w.drew i.size n a n c news hl (by simpa using hnews)
  have hfo := run_firstCells_some (P := P) w.drew i.size sLen b sLen sCap olds hlo (by simpa using holds)
  simp [Builtin.append_, run_underlying ht, run_underlying hu, sizeOf, typeInfo, zeroValue, hi, hz, Builtin.lenOf, hn, h63', h48', Question.forced, hf, hfo, newRow, grownCap]
  congr 2
  apply Array.ext'
  simp [List.append_assoc]
theorem run_append_room' (t u ty e e' : TypeId) (i : TypeInfo) (ht : P.underlying t = some (.slice e)) (hu : P.underlying u = some (.slice e')) (hi : P.info? e = some i)
    (g off sLen sCap : Nat) (cur : Array Value) (E : TypeId) (hg : w.heap[g]? = some (.cells cur E (0, 0)))
    (a : Addr) (m c : Nat) (news : List Value) (hl : news.length = m * i.size) (hnews : ∀ j u, news[j]? = some u → w.cell? (a.add j) = some u) (h1 : ∀ u ∈ news, u.oneCell' = true)
    (hroom : sLen + m ≤ sCap) (hfit : off + sLen * i.size + news.length ≤ cur.size) :
    (Builtin.append_ #[t, u] ty #[.slice (some ⟨g, off, none⟩) sLen sCap, .slice (some a) m c]).run P w =
      .ok (.slice (some ⟨g, off, none⟩) (sLen + m) sCap) (w.setRow g (cur.toList.take (off + sLen * i.size) ++ news ++ cur.toList.drop (off + sLen * i.size + news.length)).toArray) := by
  have hf := run_firstCells_some (P := P) w i.size m a m c news hl hnews
  have hst := run_storeCells_at P g (off + sLen * i.size) E news 0 cur w hg (by simpa using hfit) h1
  simp only [Nat.add_zero] at hst
  simp [Builtin.append_, run_underlying ht, run_underlying hu, sizeOf, typeInfo, hi, Builtin.lenOf, hroom, hf, addr_add, hst]

/-- A slice with elements, in memory. -/
theorem Rep.slice_ne {G : Ghost} {v : Value} {ow : Own} {xs : List AV} (h : Rep G v (.sl ow xs)) (hne : xs ≠ []) :
    ∃ (b off sz cap : Nat) (cells : List Value), v = .slice (some ⟨b, off, none⟩) xs.length cap ∧ cells.length = (flats xs).length ∧ (∀ j, j < cells.length → G.S b (off + j) = some (cells.getD j Go.undef)) ∧
      (∀ j, Rep G.pure (cells.getD j Go.undef) ((flats xs).getD j .undef)) ∧ (∀ x, x ∈ xs → x.flat.length = sz) ∧ xs.length ≤ cap ∧ OwnOK G ow b off xs.length sz cap := by
  cases h with
  | slnil => exact absurd rfl hne
  | sl ow b off sz cap xs cells hl hS hR hz hc hm hO => exact ⟨b, off, sz, cap, cells, rfl, hl, hS, hR, hz, hc, hO⟩

theorem cells_known {S : Shadow} (hh : Holds S w) {b off : Nat} {cells : List Value} (hS : ∀ j, j < cells.length → S b (off + j) = some (cells.getD j undef)) :
    (∀ j v, cells[j]? = some v → w.cell? ((⟨b, off, none⟩ : Addr).add j) = some v) ∧ ∀ v, v ∈ cells → v.oneCell' = true := by
  constructor
  · intro j v e
    have hj : j < cells.length := by
      rcases Nat.lt_or_ge j cells.length with h | h
      · exact h
      · rw [List.getElem?_eq_none h] at e; cases e
    rw [addr_add, (hh _ _ _ (hS j hj)).1, List.getD_eq_getElem?_getD, e]; rfl
  · intro v hv
    obtain ⟨j, hj, rfl⟩ := List.mem_iff_getElem.1 hv
    have := (hh _ _ _ (hS j hj)).2
    rwa [List.getD_eq_getElem?_getD, List.getElem?_eq_getElem hj] at this

/-- A new array, whose first cells are known from now on; its slice may be appended to. -/
theorem SR.fresh (hs : SR C G M σ a w) {E : TypeId} {xs : List AV} {cells rest : List Value} {sz cap : Nat} {old : Option Nat} {w' : World}
    (hw : w' = w.drew.alloc (.cells (cells ++ rest).toArray E (0, 0))) (hr : RepL G.pure cells (flats xs)) (hz : ∀ x, x ∈ xs → x.flat.length = sz) (h1 : ∀ v, v ∈ cells → v.oneCell' = true)
    (hc : xs.length ≤ cap) (hm : xs.length ≤ maxN) (ht : cells.length + rest.length = cap * sz) :
    ∃ G' M', G.le G' ∧ Rep G' (.slice (some ⟨w.heap.size, 0, none⟩) xs.length cap) (.sl (.st σ.L.length sz) xs) ∧
      SR C G' M' { σ with L := kill σ.L old ++ [true] } a w' := by
  subst hw
  have hcl : cells.length = xs.length * sz := hr.1.trans (flats_length hz)
  have h2 := hs.drew.alloc (.cells (cells ++ rest).toArray E (0, 0))
  have hS0 : ∀ o v, G.S w.heap.size o = some v → False := fun o v e => absurd (hs.holds.lt e) (Nat.lt_irrefl _)
  have h3 := h2.grow (w' := w.drew.alloc (.cells (cells ++ rest).toArray E (0, 0))) (b := w.heap.size) (lo := 0) (sz := sz) (arr := (cells ++ rest).toArray) (E := E) (cells := cells) (old := old)
    (.inr rfl) (fun i e => absurd (hs.boxlt i _ e) (Nat.lt_irrefl _)) (fun s r e hb => by have := hs.mlt _ (hs.owns s r e).m; omega) rfl rfl rfl rfl (fun _ _ => rfl) (SR.alloc_new w.drew _)
    (fun l e => by have hn : (w.drew.alloc (.cells (cells ++ rest).toArray E (0, 0))).heap[w.heap.size]? = some (.cells (cells ++ rest).toArray E (0, 0)) := SR.alloc_new w.drew _; rw [hn] at e; cases e)
    (fun o v e => (hS0 o v e).elim) (fun j hj => by simp [List.getElem?_append_left hj, List.getD_eq_getElem?_getD, hj]) h1 (by simp)
  rw [hs.live.1]
  refine ⟨_, _, growOwn_le fun o v e => (hS0 o v e).elim, ?_, h3⟩
  · refine .sl _ w.heap.size 0 sz cap xs cells hr.1 (fun j hj => addS_in hj) (fun j => (hr.2 j).mono (gp_le (growOwn_le (sz := sz) (tot := (cells ++ rest).toArray.size) (old := old) fun o v e => (hS0 o v e).elim).S)) hz hc hm ?_
    refine ⟨rfl, Nat.lt_succ_self _, fun r e => ?_, fun e => ?_⟩
    · simp only [growOwn, if_true] at e
      cases e
      refine ⟨rfl, by simp [hcl], by simp only [List.size_toArray, List.length_append]; omega, rfl⟩
    · simp only [growOwn, if_true] at e; cases e

/-- A right goes over to a new stamp; where there was none known: the room is used up. -/
def moveOwn (G : Ghost) (old : Option Nat) : Ghost :=
  { G with nxt := G.nxt + 1, own := fun t => if t = G.nxt then old.bind G.own else if some t = old then none else G.own t, ful := fun t => if t = G.nxt then (match old with | some s => G.ful s | none => true) else if some t = old then false else G.ful t }
theorem moveOwn_le {old : Option Nat} : G.le (moveOwn G old) where
  S := fun _ _ _ e => e
  box := fun _ _ e => e
  nxt := Nat.le_succ _
  own := fun s r hlt e => by
    simp only [moveOwn] at e
    rw [if_neg (by omega)] at e
    split at e
    · cases e
    · exact e
  ful := fun s hlt e => by
    simp only [moveOwn] at e
    rw [if_neg (by omega)] at e
    split at e
    · cases e
    · exact e
  loop := rfl
theorem SR.moveOwn (hs : SR C G M σ a w) {old : Option Nat} (hold : ∀ s, old = some s → σ.L[s]? = some true) : SR C (Abs.moveOwn G old) M { σ with L := kill σ.L old ++ [true] } a w := by
  have hle : G.le (Abs.moveOwn G old) := moveOwn_le
  have src : ∀ s r, (Abs.moveOwn G old).own s = some r → ∃ t, G.own t = some r ∧ ((s = G.nxt ∧ old = some t) ∨ (s = t ∧ some t ≠ old ∧ s ≠ G.nxt)) := fun s r e => by
    simp only [Abs.moveOwn] at e
    split at e
    · rename_i h
      cases old with
      | none => cases e
      | some t => exact ⟨t, e, .inl ⟨h, rfl⟩⟩
    · rename_i h
      split at e
      · cases e
      · rename_i h2; exact ⟨s, e, .inr ⟨rfl, h2, h⟩⟩
  exact {
    size := hs.size
    env := fun t => (hs.env t).mono hle
    holds := hs.holds
    mlt := hs.mlt
    boxes := fun i bc hi => by
      obtain ⟨b, h1, h2⟩ := hs.boxes i bc hi
      exact ⟨b, h1, h2.next hle (fun _ => ⟨rfl, fun _ => rfl⟩) fun h => h⟩
    boxn := hs.boxn
    boxlt := hs.boxlt
    boxinj := hs.boxinj
    live := by
      refine ⟨by simp [Abs.moveOwn, kill_length, hs.live.1], fun s hsl => ?_⟩
      rcases kill_get hsl with rfl | ⟨hne, h⟩
      · simp only [Abs.moveOwn, hs.live.1, if_true]
        cases old with
        | none => exact .inr rfl
        | some t => exact hs.live.2 t (hold t rfl)
      · simp only [Abs.moveOwn]
        have hlt : s < G.nxt := by
          rw [← hs.live.1]
          rcases Nat.lt_or_ge s σ.L.length with h' | h'
          · exact h'
          · rw [List.getElem?_eq_none h'] at h; cases h
        rw [if_neg (by omega), if_neg hne, if_neg (by omega), if_neg hne]
        exact hs.live.2 s h
    nxt := fun s r e => by
      obtain ⟨t, h1, h2⟩ := src s r e
      have := hs.nxt t r h1
      simp only [Abs.moveOwn]
      rcases h2 with ⟨h, _⟩ | ⟨h, _⟩ <;> omega
    owns := fun s r e => by
      obtain ⟨t, h1, _⟩ := src s r e
      exact (hs.owns t r h1).next (fun _ => ⟨rfl, fun _ => rfl⟩) fun h => h
    owninj := fun s t r q e1 e2 hrq => by
      obtain ⟨s', h1, h2⟩ := src s r e1
      obtain ⟨t', h3, h4⟩ := src t q e2
      have := hs.owninj s' t' r q h1 h3 hrq
      subst this
      rcases h2 with ⟨h2, h2'⟩ | ⟨h2, h2', _⟩ <;> rcases h4 with ⟨h4, h4'⟩ | ⟨h4, h4', _⟩
      · omega
      · exact absurd h2'.symm h4'
      · exact absurd h4'.symm h2'
      · omega
    ownbox := fun s r i e => by
      obtain ⟨t, h1, _⟩ := src s r e
      exact hs.ownbox t r i h1
    loop := hs.loop
    base := hs.base.trans hle
    defers := hs.defers
    dnd := hs.dnd
    ctx := hs.ctx }

theorem run_call_append {o : Oper} {X Y : Operand} {t u : TypeId} (ho : o.op = .call { callee := .builtin .append, args := #[X, Y], argTypes := #[t, u] }) :
    (execOp a.eval o).run P w = ((Builtin.append_ #[t, u] o.type #[a.eval X, a.eval Y]).run P w).andThen fun v w' => .ok (.value v) w' := by
  simp only [execOp, ho, resolve, Sem.run_bind, Sem.run_pure, Result.andThen_ok, invoke, builtin]
  simp
theorem run_append_none (t u ty e e' : TypeId) (i : TypeInfo) (ht : P.underlying t = some (.slice e)) (hu : P.underlying u = some (.slice e')) (hi : P.info? e = some i)
    (b : Option Addr) (sLen sCap : Nat) (yb : Option Addr) (yc : Nat) (hl : sLen ≤ sCap) :
    (Builtin.append_ #[t, u] ty #[.slice b sLen sCap, .slice yb 0 yc]).run P w = .ok (.slice b sLen sCap) w := by
  cases b <;> cases yb <;> simp [Builtin.append_, run_underlying ht, run_underlying hu, sizeOf, typeInfo, hi, Builtin.lenOf, hl, Builtin.firstCells, loadCells, loadCellsFrom, storeCells]

theorem aop_append {o : Oper} {K : Sta → Prop} {t u e e' : TypeId} {X Y : Operand} {d du ed : TyD} {z : Value} {xs ys : List AV}
    (ho : o.op = .call { callee := .builtin .append, args := #[X, Y], argTypes := #[t, u] }) (hX : Op.ok X = true) (hY : Op.ok Y = true)
    (ht : tyd P t = some d) (he : Abs.elemOf d = some e) (hu : tyd P u = some du) (he' : Abs.elemOf du = some e') (hed : tyd P e = some ed) (hzv : ed.zero = some z) (hzs : z.cells.size = ed.size)
    {ow owy : Own} (h1' : σ.eval X = .sl ow xs) (hlive : OwnLive σ.L ed.size ow) (h2 : σ.eval Y = .sl owy ys) (hsx : ∀ x, x ∈ xs → x.flat.length = ed.size) (hsy : ∀ y, y ∈ ys → y.flat.length = ed.size)
    (hm : xs.length + ys.length ≤ maxN) (hb : (xs.length + ys.length) * ed.bytes ≤ maxN)
    (hK : K ({ σ with L := kill σ.L (stampO ow) ++ [true] }.put o.dst (.sl (.st σ.L.length ed.size) (xs ++ ys)))) : aop C o K σ := by
  intro ro n G M a w next Q hs hn
  have hrx := eval_rep hs X (opOK hX)
  have hry := eval_rep hs Y (opOK hY)
  obtain ⟨i, hi, hut, his, hib, hiz, _⟩ := tyd_some hed
  obtain ⟨_, _, hdt, _⟩ := tyd_some ht
  obtain ⟨_, _, hdu, _⟩ := tyd_some hu
  rw [elemOf_some he] at hdt
  rw [elemOf_some he'] at hdu
  rw [hzv] at hiz
  simp only [maxN] at hm hb
  have hcall := run_call_append (P := P) (a := a) (w := w) ho
  have hsz : ∀ x, x ∈ xs ++ ys → x.flat.length = ed.size := fun x hx => by
    rcases List.mem_append.1 hx with h | h
    · exact hsx x h
    · exact hsy x h
  by_cases hys : ys = []
  · subst hys
    obtain ⟨yb, yc, hyv⟩ : ∃ yb yc, a.eval Y = .slice yb 0 yc := by
      rw [h2] at hry
      generalize a.eval Y = v at hry
      cases hry with
      | slnil => exact ⟨none, 0, rfl⟩
      | sl ow b off sz cap xs cells => exact ⟨_, cap, rfl⟩
    obtain ⟨xb, xl, xc, hxv, hle⟩ : ∃ xb xl xc, a.eval X = .slice xb xl xc ∧ xl ≤ xc := by
      rw [h1'] at hrx
      generalize a.eval X = v at hrx
      cases hrx with
      | slnil => exact ⟨none, 0, 0, rfl, Nat.le_refl _⟩
      | sl ow b off sz cap xs cells hl hS hR hz hc => exact ⟨_, _, cap, rfl, hc⟩
    rw [hyv, hxv, run_append_none t u o.type e e' i hdt hdu hi xb xl xc yb yc hle] at hcall
    refine wpIn_of_run (by rw [ho]; rfl) hcall ?_
    rw [List.append_nil] at hK
    rw [hxv, h1'] at hrx
    have hmv := hs.moveOwn (old := stampO ow) (fun s e => by
      rcases hlive with rfl | ⟨t, rfl, ht⟩
      · cases e
      · cases e; exact ht)
    refine hn _ _ _ _ _ hK (hmv.put o.dst ?_)
    rw [hs.live.1]
    generalize hvx : Value.slice xb xl xc = vx at hrx
    cases hrx with
    | slnil ow => exact .slnil _
    | sl ow b off sz cap xs cells hl hS hR hz hc hmx hO =>
      have hO' : OwnOK (Abs.moveOwn G (stampO ow)) (.st G.nxt ed.size) b off xs.length ed.size cap := by
        refine ⟨rfl, Nat.lt_succ_self _, fun r e => ?_, fun e => ?_⟩
        · simp only [Abs.moveOwn, if_true] at e
          rcases hlive with rfl | ⟨t, rfl, ht⟩
          · cases e
          · obtain ⟨g1, g2, g3, g4⟩ := hO
            subst g1
            exact g3 r e
        · simp only [Abs.moveOwn, if_true] at e
          rcases hlive with rfl | ⟨t, rfl, ht⟩
          · exact hO
          · exact hO.2.2.2 e
      by_cases hxe : xs = []
      · subst hxe
        exact .sl _ b off ed.size cap [] cells hl hS (fun j => (hR j).mono moveOwn_le.pure) (by simp) hc hmx hO'
      · have hsz' : sz = ed.size := by
          obtain ⟨x, hx⟩ := List.exists_mem_of_ne_nil xs hxe
          rw [← hz x hx, hsx x hx]
        subst hsz'
        exact .sl _ b off _ cap xs cells hl hS (fun j => (hR j).mono moveOwn_le.pure) hz hc hmx hO'
  · rw [h2] at hry
    obtain ⟨by_, offy, szy, capy, cy, hyv, hyl, hyS, hyR, hyz, hyc, _⟩ := hry.slice_ne hys
    obtain ⟨hyk, hy1⟩ := cells_known hs.holds hyS
    have hcyl : cy.length = ys.length * i.size := by rw [hyl, flats_length hsy, his]
    have hy0 : 0 < ys.length := List.length_pos_iff.2 hys
    have hfl : flats (xs ++ ys) = flats xs ++ flats ys := by simp [flats]
    have grown : ∀ (olds : List Value) (cap : Nat), cap < xs.length + ys.length → RepL G.pure olds (flats xs) → (∀ v, v ∈ olds → v.oneCell' = true) →         next (a.put o.dst (.slice (some ⟨w.heap.size, 0, none⟩) (xs.length + ys.length) (grownCap w (xs.length + ys.length) cap e)))
          (w.drew.alloc (.cells (olds.toArray ++ cy.toArray ++ Builtin.zeroCells z.cells (grownCap w (xs.length + ys.length) cap e - (xs.length + ys.length))) e)) := by
      intro olds cap hcap hro h1o
      have hge := grownCap_ge w (xs.length + ys.length) cap e
      have hol : olds.length = xs.length * ed.size := hro.1.trans (flats_length hsx)
      obtain ⟨G', M', hle, hrep, hs'⟩ := hs.fresh (E := e) (xs := xs ++ ys) (cells := olds ++ cy) (rest := (Builtin.zeroCells z.cells (grownCap w (xs.length + ys.length) cap e - (xs.length + ys.length))).toList)
        (sz := ed.size) (cap := grownCap w (xs.length + ys.length) cap e) (old := stampO ow) rfl (by rw [hfl]; exact hro.append ⟨hyl, hyR⟩) hsz
        (fun v hv => by rcases List.mem_append.1 hv with h | h; exact h1o v h; exact hy1 v h) (by simpa using hge) (by simp [maxN]; omega)
        (by simp only [List.length_append, Array.length_toList, size_zeroCells, hzs, hol, hcyl, his, ← Nat.add_mul]; congr 1; omega)
      have hw : (w.drew.alloc (.cells (olds.toArray ++ cy.toArray ++ Builtin.zeroCells z.cells (grownCap w (xs.length + ys.length) cap e - (xs.length + ys.length))) e)) =
          w.drew.alloc (.cells (olds ++ cy ++ (Builtin.zeroCells z.cells (grownCap w (xs.length + ys.length) cap e - (xs.length + ys.length))).toList).toArray e (0, 0)) := by
        congr 2
        apply Array.ext'
        simp
      rw [hw]
      have hrep' : Rep G' (.slice (some ⟨w.heap.size, 0, none⟩) (xs.length + ys.length) (grownCap w (xs.length + ys.length) cap e)) (.sl (.st σ.L.length ed.size) (xs ++ ys)) := by
        have := hrep; rwa [List.length_append] at this
      exact hn _ _ _ _ _ hK (hs'.put o.dst hrep')
    rw [h1'] at hrx
    generalize hxv : a.eval X = vx at hrx
    cases hrx with
    | slnil =>
      have hrun := run_append_nil' (P := P) (w := w) t u o.type e e' i z hdt hdu hi hiz ⟨by_, offy, none⟩ ys.length capy cy hcyl hyk hy0 (by simp only [List.length_nil] at hm; omega)
        (by simp only [List.length_nil, Nat.zero_add] at hb; rw [hib]; omega)
      rw [hyv, hxv, hrun] at hcall
      refine wpIn_of_run (by rw [ho]; rfl) hcall ?_
      have := grown [] 0 (by simpa using hy0) (.nil _) (by simp)
      show next _ _
      simpa using this
    | sl ow b off sz cap xs cells hl hS hR hz hc hmx hO =>
      obtain ⟨hxk, hx1⟩ := cells_known hs.holds hS
      have hcl : cells.length = xs.length * i.size := by rw [hl, flats_length hsx, his]
      have viaGrow : cap < xs.length + ys.length → o.wpIn (fw ro) n P a w next Q := fun hcap => by
        have hfit : Builtin.nextslicecap (xs.length + ys.length) cap * i.bytes ≤ 281474976710656 := by
          have h2 := nextslicecap_le hcap
          have h3 : Builtin.nextslicecap (xs.length + ys.length) cap * i.bytes ≤ 2 * (xs.length + ys.length) * i.bytes := Nat.mul_le_mul_right _ h2
          rw [Nat.mul_assoc, hib] at h3
          rw [hib]; omega
        have hrun := run_append_grow' (P := P) (w := w) t u o.type e e' i z hdt hdu hi hiz ⟨b, off, none⟩ xs.length cap cells hcl hxk ⟨by_, offy, none⟩ ys.length capy cy hcyl hyk hcap (by omega) hfit
        rw [hyv, hxv, hrun] at hcall
        refine wpIn_of_run (by rw [ho]; rfl) hcall ?_
        exact grown cells cap hcap ⟨hl, hR⟩ hx1
      rcases hlive with rfl | ⟨s, rfl, hsL⟩
      · have : cap = xs.length := hO
        exact viaGrow (by omega)
      · obtain ⟨hzz, hsn, hown⟩ := hO
        subst hzz
        obtain ⟨hown, hful⟩ := hown
        by_cases hfs : G.ful s = true
        · have : cap = xs.length := hful hfs
          exact viaGrow (by omega)
        obtain ⟨r, hr⟩ := (hs.live.2 s hsL).resolve_right hfs
        obtain ⟨k1, k2, k3, k4⟩ := hown r hr
        have hok := hs.owns s r hr
        obtain ⟨arr, E, hh, hsz2⟩ := hok.heap
        rw [k1] at hh
        by_cases hroom : xs.length + ys.length ≤ cap
        · have hmul : (xs.length + ys.length) * ed.size ≤ cap * ed.size := Nat.mul_le_mul_right _ hroom
          rw [Nat.add_mul] at hmul
          have hfit : off + xs.length * i.size + cy.length ≤ arr.size := by rw [hcyl, his, hsz2, k3]; omega
          have hrun := run_append_room' (P := P) (w := w) t u o.type e e' i hdt hdu hi b off xs.length cap arr E hh ⟨by_, offy, none⟩ ys.length capy cy hcyl hyk hy1 hroom hfit
          rw [hyv, hxv, hrun, his] at hcall
          rw [his] at hfit hcyl
          refine wpIn_of_run (by rw [ho]; rfl) hcall ?_
          have hSb : ∀ o v, G.S b o = some v → o < off + xs.length * ed.size ∧ arr[o]? = some v := fun o v ev => by
            have h3 := hok.S o (by rw [k1, ev]; simp)
            refine ⟨by omega, ?_⟩
            have h4 := (hs.holds _ _ _ ev).1
            simpa [World.cell?, hh] using h4
          have hfin : off + xs.length * ed.size ≤ arr.size := by omega
          have hg := hs.grow (w' := w.setRow b (arr.toList.take (off + xs.length * ed.size) ++ cy ++ arr.toList.drop (off + xs.length * ed.size + cy.length)).toArray) (b := b) (lo := off + xs.length * ed.size) (sz := ed.size)
            (arr := (arr.toList.take (off + xs.length * ed.size) ++ cy ++ arr.toList.drop (off + xs.length * ed.size + cy.length)).toArray) (E := E) (cells := cy) (old := some s)
            (k1 ▸ hok.m) (fun j => k1 ▸ hs.ownbox s r j hr) (fun t q hq hb' => by rw [hs.owninj s t r q hr hq (by rw [k1, hb'])]) rfl rfl rfl (by simp [World.setRow])
            (fun k hk => by simp only [World.setRow, Array.getElem?_modify]; rw [if_neg (Ne.symm hk)])
            (setRow_heap w b _ _ E _ hh) (fun l el => by rw [hh] at el; cases el)
            (fun o v ev => ⟨(hSb o v ev).1, by
              have h5 := (hSb o v ev).1
              have h6 := (hSb o v ev).2
              simp only [List.getElem?_toArray]
              rw [List.append_assoc, List.getElem?_append_left (by simp; omega), List.getElem?_take, if_pos h5]
              simpa using h6⟩)
            (fun j hj => by
              simp only [List.getElem?_toArray]
              rw [List.append_assoc, List.getElem?_append_right (by simp; omega), List.getElem?_append_left (by simp; omega)]
              have hl2 : (arr.toList.take (off + xs.length * ed.size)).length = off + xs.length * ed.size := by simp; omega
              rw [hl2, Nat.add_sub_cancel_left, List.getD_eq_getElem?_getD, List.getElem?_eq_getElem hj]; rfl)
            hy1 (by simp; omega)
          have hle := growOwn_le (G := G) (b := b) (lo := off + xs.length * ed.size) (sz := ed.size) (tot := (arr.toList.take (off + xs.length * ed.size) ++ cy ++ arr.toList.drop (off + xs.length * ed.size + cy.length)).toArray.size) (cells := cy) (old := some s) fun o v ev => (hSb o v ev).1
          have hcl' : cells.length = xs.length * ed.size := by rw [← his]; exact hcl
          have hrep : Rep (growOwn G b (off + xs.length * ed.size) ed.size (arr.toList.take (off + xs.length * ed.size) ++ cy ++ arr.toList.drop (off + xs.length * ed.size + cy.length)).toArray.size cy (some s))
              (.slice (some ⟨b, off, none⟩) (xs ++ ys).length cap) (.sl (.st G.nxt ed.size) (xs ++ ys)) := by
            refine .sl _ b off ed.size cap (xs ++ ys) (cells ++ cy) (by rw [hfl]; simp [hl, hyl]) (fun j hj => ?_) (fun j => ?_) hsz (by simpa using hroom) (by simp [maxN]; omega) ?_
            · rcases Nat.lt_or_ge j cells.length with h | h
              · rw [List.getD_eq_getElem?_getD, List.getElem?_append_left h, ← List.getD_eq_getElem?_getD]
                exact hle.S _ _ _ (hS j h)
              · rw [List.getD_eq_getElem?_getD, List.getElem?_append_right h, ← List.getD_eq_getElem?_getD]
                have hj2 : j - cells.length < cy.length := by simp at hj; omega
                have := addS_in (S := G.S) (b := b) (lo := off + xs.length * ed.size) hj2
                rw [show off + xs.length * ed.size + (j - cells.length) = off + j by omega] at this
                exact this
            · rw [hfl]
              exact ((RepL.append ⟨hl, hR⟩ ⟨hyl, hyR⟩ : RepL G.pure (cells ++ cy) (flats xs ++ flats ys)).2 j).mono hle.pure
            · refine ⟨rfl, Nat.lt_succ_self _, fun q eq => ?_, fun eq => by simp only [growOwn, if_true] at eq; cases eq⟩
              simp only [growOwn, if_true] at eq
              cases eq
              refine ⟨rfl, ?_, ?_, rfl⟩
              · simp only [List.length_append, Nat.add_mul]; omega
              · simp only [List.size_toArray, List.length_append, List.length_take, List.length_drop, Array.length_toList]; omega
          rw [List.length_append] at hrep
          rw [hs.live.1] at hK
          exact hn _ _ _ _ _ hK (hg.put o.dst hrep)
        · exact viaGrow (by omega)
end
end Go.Abs
