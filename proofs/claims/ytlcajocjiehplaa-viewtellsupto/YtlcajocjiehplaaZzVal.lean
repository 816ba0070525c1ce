/- Abstract values: what a Go value reads as, and the shadow of cells that stay as they are. -/
import Derived.RangeFuncLeaves
import Derived.RangeFuncSeq
import Derived.Below
import Derived.TacticsInMore
set_option linter.unusedVariables false
set_option linter.unusedSimpArgs false
namespace Go.Abs
open Go Go.RowKit

/-- The right to append to a slice: none is known; its room is used up (every append makes a new array); a stamp, with the size of an element. -/
inductive Own where
  | no
  | full
  | st (s sz : Nat)
  deriving DecidableEq

inductive AV where
  | undef
  | lit (v : Value)
  | sl (o : Own) (xs : List AV)
  | agg (cs : List AV)
  | tup (vs : List AV)
  | cptr (cs : List AV)
  | bptr (i off : Nat)
  | bsl (i off len cap : Nat)
  | clo (f : FuncId) (caps : List AV)
  | iface (t : TypeId) (v : AV)
  | yld

instance : Inhabited AV := ⟨.undef⟩

def AV.flat : AV → List AV
  | .agg cs => cs
  | a => [a]
def flats (xs : List AV) : List AV := xs.flatMap AV.flat

/-- Without the rights of this activation. -/
def AV.weak : AV → AV
  | .undef => .undef
  | .lit v => .lit v
  | .sl _ xs => .sl .no xs
  | .agg cs => .agg (weakL cs)
  | .tup vs => .tup (weakL vs)
  | .cptr cs => .cptr cs
  | .bptr _ _ => .undef
  | .bsl _ _ _ _ => .undef
  | .clo f caps => .clo f (weakL caps)
  | .iface t v => .iface t v
  | .yld => .undef
where weakL : List AV → List AV
  | [] => []
  | a :: l => a.weak :: weakL l
theorem weakL_map (l : List AV) : AV.weak.weakL l = l.map AV.weak := by
  induction l with
  | nil => simp [AV.weak.weakL]
  | cons a l ih => simp [AV.weak.weakL, ih]

abbrev Shadow := Nat → Nat → Option Value
structure OwnRec where
  blk : Nat
  fin : Nat
  tot : Nat
  sz : Nat
structure Ghost where
  S : Shadow
  box : Nat → Option Nat
  own : Nat → Option OwnRec
  ful : Nat → Bool
  nxt : Nat
  loop : Option Nat
def gp (S : Shadow) : Ghost := { S, box := fun _ => none, own := fun _ => none, ful := fun _ => false, nxt := 0, loop := none }
abbrev Ghost.pure (G : Ghost) : Ghost := gp G.S

def maxN : Nat := 140737488355328
def litOK : Value → Prop
  | .int k n => k.min ≤ n ∧ n ≤ k.max
  | .string s => s.size ≤ maxN
  | _ => True

def litOKb : Value → Bool
  | .int k n => decide (k.min ≤ n) && decide (n ≤ k.max)
  | .string s => decide (s.size ≤ maxN)
  | _ => true
theorem litOK_of {v : Value} (h : litOKb v = true) : litOK v := by
  cases v <;> simp_all [litOK, litOKb]
/-- A constant: a nil slice reads as an empty one whose room is used up. -/
def cav (v : Value) : AV :=
  match v with
  | .slice none 0 0 => .sl .full []
  | v => if litOKb v = true then .lit v else .undef

def OwnOK (G : Ghost) (o : Own) (b off len sz cap : Nat) : Prop :=
  match o with
  | .no => True
  | .full => cap = len
  | .st s z => z = sz ∧ s < G.nxt ∧ (∀ r, G.own s = some r → r.blk = b ∧ r.fin = off + len * sz ∧ r.tot = off + cap * sz ∧ r.sz = sz) ∧ (G.ful s = true → cap = len)

inductive Rep : Ghost → Value → AV → Prop
  | undef {G v} : Rep G v .undef
  | lit {G v} (h : litOK v) : Rep G v (.lit v)
  | slnil {G} (o : Own) : Rep G (.slice none 0 0) (.sl o [])
  | sl {G} (o : Own) (b off sz cap : Nat) (xs : List AV) (cells : List Value)
      (hl : cells.length = (flats xs).length) (hS : ∀ j, j < cells.length → G.S b (off + j) = some (cells.getD j undef))
      (hR : ∀ j, Rep G.pure (cells.getD j undef) ((flats xs).getD j .undef)) (hz : ∀ x, x ∈ xs → x.flat.length = sz)
      (hc : xs.length ≤ cap) (hm : xs.length ≤ maxN) (hO : OwnOK G o b off xs.length sz cap) :
      Rep G (.slice (some ⟨b, off, none⟩) xs.length cap) (.sl o xs)
  | agg {G} (vs : Array Value) (cs : List AV) (hl : vs.size = cs.length) (h : ∀ j, Rep G (vs.getD j undef) (cs.getD j .undef)) (h1 : ∀ v, v ∈ vs → v.oneCell' = true) : Rep G (.agg vs) (.agg cs)
  | tup {G} (vs : Array Value) (cs : List AV) (hl : vs.size = cs.length) (h : ∀ j, Rep G (vs.getD j undef) (cs.getD j .undef)) : Rep G (.tuple vs) (.tup cs)
  | cptr {G} (b off : Nat) (cs : List AV) (cells : List Value) (hl : cells.length = cs.length) (hS : ∀ j, j < cells.length → G.S b (off + j) = some (cells.getD j undef))
      (hR : ∀ j, Rep G.pure (cells.getD j undef) (cs.getD j .undef)) : Rep G (.pointer (some ⟨b, off, none⟩)) (.cptr cs)
  | bptr {G} (i off b : Nat) (h : G.box i = some b) : Rep G (.pointer (some ⟨b, off, none⟩)) (.bptr i off)
  | bsl {G} (i off len cap b : Nat) (h : G.box i = some b) (hc : len ≤ cap) (hm : len ≤ maxN) (hx : cap ≤ maxLen) : Rep G (.slice (some ⟨b, off, none⟩) len cap) (.bsl i off len cap)
  | clo {G} (f : FuncId) (vs : Array Value) (cs : List AV) (hl : vs.size = cs.length) (h : ∀ j, Rep G (vs.getD j undef) (cs.getD j .undef)) : Rep G (.func (.func f) #[] vs) (.clo f cs)
  | iface {G} (t : TypeId) (v : Value) (a : AV) (h : Rep G.pure v a) : Rep G (.iface t v) (.iface t a)
  | yld {G} (l : Nat) (h : G.loop = some l) : Rep G (.func (.yield l) #[] #[]) .yld

def RepL (G : Ghost) (vs : List Value) (cs : List AV) : Prop := vs.length = cs.length ∧ ∀ j, Rep G (vs.getD j undef) (cs.getD j .undef)

/-- What a ghost may become: more cells are known; boxes stay; a right is let go, or stays. -/
structure Ghost.le (G G' : Ghost) : Prop where
  S : ∀ b o v, G.S b o = some v → G'.S b o = some v
  box : ∀ i b, G.box i = some b → G'.box i = some b
  nxt : G.nxt ≤ G'.nxt
  own : ∀ s r, s < G.nxt → G'.own s = some r → G.own s = some r
  ful : ∀ s, s < G.nxt → G'.ful s = true → G.ful s = true
  loop : G'.loop = G.loop

theorem Ghost.le.refl (G : Ghost) : G.le G := ⟨fun _ _ _ h => h, fun _ _ h => h, Nat.le_refl _, fun _ _ _ h => h, fun _ _ h => h, rfl⟩
theorem Ghost.le.trans {A B C : Ghost} (h : A.le B) (k : B.le C) : A.le C :=
  ⟨fun b o v e => k.S b o v (h.S b o v e), fun i b e => k.box i b (h.box i b e), Nat.le_trans h.nxt k.nxt,
   fun s r hs e => h.own s r hs (k.own s r (Nat.lt_of_lt_of_le hs h.nxt) e), fun s hs e => h.ful s hs (k.ful s (Nat.lt_of_lt_of_le hs h.nxt) e), k.loop.trans h.loop⟩
def Shadow.le (S S' : Shadow) : Prop := ∀ b o v, S b o = some v → S' b o = some v
theorem gp_le {S S' : Shadow} (h : Shadow.le S S') : (gp S).le (gp S') := ⟨h, fun _ _ h => h, Nat.le_refl _, fun _ _ _ h => h, fun _ _ h => h, rfl⟩
theorem Ghost.le.pure {G G' : Ghost} (h : G.le G') : G.pure.le G'.pure := gp_le h.S

theorem Rep.mono {G : Ghost} {v : Value} {a : AV} (h : Rep G v a) : ∀ {G' : Ghost}, G.le G' → Rep G' v a := by
  induction h with
  | undef => intro G' _; exact .undef
  | lit h => intro G' _; exact .lit h
  | slnil o => intro G' _; exact .slnil o
  | sl o b off sz cap xs cells hl hS hR hz hc hm hO ih =>
    intro G' k
    refine .sl o b off sz cap xs cells hl (fun j hj => k.S _ _ _ (hS j hj)) (fun j => ih j k.pure) hz hc hm ?_
    cases o with
    | no => trivial
    | full => exact hO
    | st s z => exact ⟨hO.1, Nat.lt_of_lt_of_le hO.2.1 k.nxt, fun r hr => hO.2.2.1 r (k.own s r hO.2.1 hr), fun hf => hO.2.2.2 (k.ful s hO.2.1 hf)⟩
  | agg vs cs hl h h1 ih => intro G' k; exact .agg vs cs hl (fun j => ih j k) h1
  | tup vs cs hl h ih => intro G' k; exact .tup vs cs hl fun j => ih j k
  | cptr b off cs cells hl hS hR ih => intro G' k; exact .cptr b off cs cells hl (fun j hj => k.S _ _ _ (hS j hj)) fun j => ih j k.pure
  | bptr i off b h => intro G' k; exact .bptr i off b (k.box i b h)
  | bsl i off len cap b h hc hm hx => intro G' k; exact .bsl i off len cap b (k.box i b h) hc hm hx
  | clo f vs cs hl h ih => intro G' k; exact .clo f vs cs hl fun j => ih j k
  | iface t v a h ih => intro G' k; exact .iface t v a (ih k.pure)
  | yld l h => intro G' k; exact .yld l (k.loop.trans h)

theorem map_weak_getD (cs : List AV) (j : Nat) : (cs.map AV.weak).getD j .undef = (cs.getD j .undef).weak := by
  rw [List.getD_eq_getElem?_getD, List.getD_eq_getElem?_getD, List.getElem?_map]
  cases cs[j]? <;> rfl

theorem Rep.weak {G : Ghost} {v : Value} {a : AV} (h : Rep G v a) : Rep G.pure v a.weak := by
  induction h with
  | undef => exact .undef
  | lit h => exact .lit h
  | slnil o => exact .slnil _
  | sl o b off sz cap xs cells hl hS hR hz hc hm hO ih => exact .sl .no b off sz cap xs cells hl hS hR hz hc hm trivial
  | agg vs cs hl h h1 ih => simp only [AV.weak, weakL_map]; exact .agg vs _ (by simpa using hl) (fun j => by rw [map_weak_getD]; exact ih j) h1
  | tup vs cs hl h ih => simp only [AV.weak, weakL_map]; exact .tup vs _ (by simpa using hl) fun j => by rw [map_weak_getD]; exact ih j
  | cptr b off cs cells hl hS hR ih => exact .cptr b off cs cells hl hS hR
  | bptr i off b h => exact .undef
  | bsl => exact .undef
  | clo f vs cs hl h ih => simp only [AV.weak, weakL_map]; exact .clo f vs _ (by simpa using hl) fun j => by rw [map_weak_getD]; exact ih j
  | iface t v a h ih => exact .iface t v a h
  | yld l h => exact .undef

/-- From the pure to any ghost over more cells. -/
theorem Rep.up {S : Shadow} {v : Value} {a : AV} (h : Rep (gp S) v a) : ∀ {G : Ghost}, Shadow.le S G.S → Rep G v a := by
  generalize hg : gp S = G0 at h
  induction h generalizing S with
  | undef => intro G _; exact .undef
  | lit h => intro G _; exact .lit h
  | slnil o => intro G _; exact .slnil o
  | sl o b off sz cap xs cells hl hS hR hz hc hm hO ih =>
    intro G k; subst hg
    refine .sl o b off sz cap xs cells hl (fun j hj => k _ _ _ (hS j hj)) (fun j => ih j rfl (G := G.pure) k) hz hc hm ?_
    cases o with
    | no => trivial
    | full => exact hO
    | st s z => exact absurd hO.2.1 (Nat.not_lt_zero _)
  | agg vs cs hl h h1 ih => intro G k; exact .agg vs cs hl (fun j => ih j hg k) h1
  | tup vs cs hl h ih => intro G k; exact .tup vs cs hl fun j => ih j hg k
  | cptr b off cs cells hl hS hR ih => intro G k; subst hg; exact .cptr b off cs cells hl (fun j hj => k _ _ _ (hS j hj)) fun j => ih j rfl (G := G.pure) k
  | bptr i off b h => intro G k; subst hg; cases h
  | bsl i off len cap b h => intro G k; subst hg; cases h
  | clo f vs cs hl h ih => intro G k; exact .clo f vs cs hl fun j => ih j hg k
  | iface t v a h ih => intro G k; subst hg; exact .iface t v a (ih rfl (G := G.pure) k)
  | yld l h => intro G k; subst hg; cases h

theorem RepL.mono {G G' : Ghost} {vs : List Value} {cs : List AV} (h : RepL G vs cs) (k : G.le G') : RepL G' vs cs := ⟨h.1, fun j => (h.2 j).mono k⟩
theorem RepL.up {S : Shadow} {G : Ghost} {vs : List Value} {cs : List AV} (h : RepL (gp S) vs cs) (k : Shadow.le S G.S) : RepL G vs cs := ⟨h.1, fun j => (h.2 j).up k⟩
theorem RepL.weak {G : Ghost} {vs : List Value} {cs : List AV} (h : RepL G vs cs) : RepL G.pure vs (cs.map AV.weak) :=
  ⟨by simpa using h.1, fun j => by rw [map_weak_getD]; exact (h.2 j).weak⟩
theorem RepL.nil (G : Ghost) : RepL G [] [] := ⟨rfl, fun j => .undef⟩
theorem RepL.cons {G : Ghost} {v : Value} {a : AV} {vs : List Value} {cs : List AV} (h : Rep G v a) (k : RepL G vs cs) : RepL G (v :: vs) (a :: cs) :=
  ⟨by simp [k.1], fun j => by cases j with
    | zero => simpa using h
    | succ j => simpa using k.2 j⟩
theorem RepL.of_map {α : Type} {G : Ghost} (l : List α) (f : α → Value) (g : α → AV) (h : ∀ x, x ∈ l → Rep G (f x) (g x)) : RepL G (l.map f) (l.map g) := by
  induction l with
  | nil => exact .nil G
  | cons x l ih => exact .cons (h x (by simp)) (ih fun y hy => h y (by simp [hy]))
theorem RepL.append {G : Ghost} {vs us : List Value} {cs ds : List AV} (h : RepL G vs cs) (k : RepL G us ds) : RepL G (vs ++ us) (cs ++ ds) := by
  refine ⟨by simp [h.1, k.1], fun j => ?_⟩
  have h2 := h.2 j; have k2 := k.2 (j - vs.length)
  have e := h.1
  simp only [List.getD_eq_getElem?_getD] at *
  by_cases hj : j < vs.length
  · rw [List.getElem?_append_left hj, List.getElem?_append_left (e ▸ hj)]; exact h2
  · rw [List.getElem?_append_right (by omega), List.getElem?_append_right (by omega), ← e]; exact k2

theorem Rep.const (G : Ghost) (v : Value) : Rep G v (cav v) := by
  unfold cav
  split
  · exact .slnil _
  · split
    · exact .lit (litOK_of (by assumption))
    · exact .undef

/-! ### Facts that a representation carries -/
theorem Rep.lit_eq {G : Ghost} {v x : Value} (h : Rep G v (.lit x)) : v = x ∧ litOK x := by cases h; exact ⟨rfl, by assumption⟩
theorem Rep.sl_len {G : Ghost} {v : Value} {o : Own} {xs : List AV} (h : Rep G v (.sl o xs)) : xs.length ≤ maxN := by
  cases h with
  | slnil => simp
  | sl => assumption

end Go.Abs
