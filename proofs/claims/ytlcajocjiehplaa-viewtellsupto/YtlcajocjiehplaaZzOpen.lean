/- What an argument reads as, from its reading by the statement. -/
import Derived.Test.YtlcajocjiehplaaRows
import Derived.Test.YtlcajocjiehplaaZzCall
import Derived.WalkKit
import Derived.ProofKit
import Derived.OpenShut
import Derived.JoinedCond
import Derived.WideKeyArgs
import Derived.ChangeMaps5
import Derived.Deep.Slices
set_option linter.unusedVariables false
set_option linter.unusedSimpArgs false
set_option maxRecDepth 10000
namespace Go.Proofs.Ytlcajocjiehplaa
open Go Go.Abs Go.ChangeShapes Go.WideShapes Go.RowKit
def big : Nat := 1048576
/-- All that lies in a world. -/
def shad (w : World) : Shadow := fun b o => match w.cell? ⟨b, o, none⟩ with
  | some v => if v.oneCell' = true then some v else none
  | none => none
theorem shad_holds (w : World) : Holds (shad w) w := fun b o v e => by
  unfold shad at e
  split at e
  · rename_i u hu
    split at e
    · cases e; exact ⟨hu, ‹_›⟩
    · cases e
  · cases e
theorem shad_of {w : World} {b o : Nat} {v : Value} (h : w.cell? ⟨b, o, none⟩ = some v) (h1 : v.oneCell' = true) : shad w b o = some v := by
  unfold shad; rw [h]; simp [h1]
theorem bulk_one {H : Type} (d : DataW H) : 1 ≤ Rows.uptoBulk d := by
  cases d with
  | lit l => cases l <;> simp [Rows.uptoBulk]
  | _ => simp [Rows.uptoBulk]
theorem bulk_part {H : Type} {d : DataW H} {l : List (DataW H)} (h : d ∈ l) : Rows.uptoBulk d ≤ Rows.uptoBulkAll l := by
  induction l with
  | nil => cases h
  | cons x r ih =>
    simp only [Rows.uptoBulkAll]
    cases List.mem_cons.1 h with
    | inl e => subst e; omega
    | inr e => have := ih e; omega
theorem bulk_length {H : Type} (l : List (DataW H)) : l.length ≤ Rows.uptoBulkAll l := by
  induction l with
  | nil => simp [Rows.uptoBulkAll]
  | cons x r ih => have := bulk_one x; simp only [Rows.uptoBulkAll, List.length_cons]; omega
/-- An element of literal cells. -/
structure FlatT (P : Program) (e : TypeId) (z : Nat) {α : Type} (encX : α → AV) (ok : α → Prop) : Prop where
  cells : P.cellsOf e = z
  pos : 0 < z
  dec : ∀ {H : Type} {enc : TypeId × Value → H} {w : World} {base : Nat} {sp : Nat → Bool} {held : Bool} {n : Nat} {cs : List Value} {x : DataW H × List MemPlace},
    DataW.trod enc P w base sp held n e cs = some x → Rows.uptoBulk x.1 ≤ big → ∃ y : α, ok y ∧ (encX y).flat = cs.map AV.lit ∧ ∀ v, v ∈ cs → litOK v ∧ v.oneCell' = true
theorem flats_const {α : Type} (f : α → List AV) (z : Nat) : ∀ (l : List α), (∀ x, x ∈ l → (f x).length = z) → (l.flatMap f).length = l.length * z
  | [], _ => by simp
  | x :: l, h => by
    rw [List.flatMap_cons, List.length_append, h x (by simp), flats_const f z l fun y hy => h y (by simp [hy]), List.length_cons, Nat.add_mul]; omega
theorem flats_at {α : Type} (f : α → List AV) (z : Nat) : ∀ (l : List α), (∀ x, x ∈ l → (f x).length = z) → ∀ (i k : Nat) (y : α), l[i]? = some y → k < z → (l.flatMap f)[i * z + k]? = (f y)[k]?
  | [], _, i, k, y, h, _ => by simp at h
  | x :: l, hl, 0, k, y, h, hk => by
    simp at h; subst h
    rw [List.flatMap_cons, Nat.zero_mul, Nat.zero_add, List.getElem?_append_left (by rw [hl x (by simp)]; exact hk)]
  | x :: l, hl, i + 1, k, y, h, hk => by
    simp at h
    rw [List.flatMap_cons, List.getElem?_append_right (by rw [hl x (by simp), Nat.add_mul]; omega), hl x (by simp), Nat.add_mul, Nat.one_mul, show i * z + z + k - z = i * z + k by omega]
    exact flats_at f z l (fun y hy => hl y (by simp [hy])) i k y h hk
theorem list_choose {α : Type} (p : Nat → α → Prop) : ∀ (n : Nat), (∀ i, i < n → ∃ y, p i y) → ∃ l : List α, l.length = n ∧ ∀ i y, l[i]? = some y → p i y
  | 0, _ => ⟨[], rfl, fun i y h => by simp at h⟩
  | n + 1, h => by
    obtain ⟨l, hl, hp⟩ := list_choose p n fun i hi => h i (by omega)
    obtain ⟨y, hy⟩ := h n (by omega)
    refine ⟨l ++ [y], by simp [hl], fun i u hu => ?_⟩
    rcases Nat.lt_or_ge i l.length with k | k
    · rw [List.getElem?_append_left k] at hu; exact hp i u hu
    · rw [List.getElem?_append_right k] at hu
      have hi : i = n := by
        have := (List.getElem?_eq_some_iff.1 hu).1
        simp at this; omega
      subst hi
      rw [hl, Nat.sub_self] at hu
      simp at hu; rw [← hu]; exact hy
variable {H : Type} {enc : TypeId × Value → H} {P : Program} {w : World} {base : Nat} {held : Bool}
theorem open_sl {t e : TypeId} {z : Nat} {α : Type} {encX : α → AV} {ok : α → Prop} (F : FlatT P e z encX ok) (ht : P.underlying t = some (.slice e)) {n : Nat} {v : Value} {x : DataW H × List MemPlace}
    (h : DataW.trod enc P w base (fun _ => true) held n t [v] = some x) (hb : Rows.uptoBulk x.1 ≤ big) (hs : ∀ a l c, v = .slice (some a) l c → a.spot = none) :
    ∃ xs : List α, (∀ y, y ∈ xs → ok y) ∧ Rep (gp (shad w)) v (.sl .no (xs.map encX)) ∧ xs.length ≤ Rows.uptoBulk x.1 ∧ v.oneCell' = true := by
  rcases Deep.open_slice ht h with ⟨h1, rfl⟩ | ⟨a, len, cap, m, n, D, Pl, h1, hba, hl, hm, hmm, rfl, hx⟩
  · simp at h1
    subst h1
    exact ⟨[], by simp, .slnil _, by simp, rfl⟩
  · simp at h1
    subst h1
    obtain ⟨b, off, spot⟩ := a
    have hsp := hs _ _ _ rfl
    subst hsp
    simp only [if_true] at hmm
    subst hmm
    simp only [Rows.uptoBulk] at hb
    have hd : ∀ i, i < len → Rows.uptoBulk (D i) ≤ big := fun i hi => by
      have := bulk_part (l := (List.range len).map D) (List.mem_map.2 ⟨i, List.mem_range.2 hi, rfl⟩)
      omega
    obtain ⟨xs, hxl, hxs⟩ := list_choose (fun i (y : α) => ok y ∧ ∃ cs, w.cells? base ((⟨b, off, none⟩ : Addr).add (i * P.cellsOf e)) (P.cellsOf e) = some cs ∧ (encX y).flat = cs.map AV.lit ∧ ∀ v, v ∈ cs → litOK v ∧ v.oneCell' = true) len (fun i hi => by
      obtain ⟨cs, g1, g2⟩ := hx i (by omega)
      obtain ⟨y, g3, g4, g5⟩ := F.dec g2 (hd i hi)
      exact ⟨y, g3, cs, g1, g4, g5⟩)
    have hlen := bulk_length ((List.range len).map D)
    simp at hlen
    have hflat : ∀ y, y ∈ xs → (encX y).flat.length = z := fun y hy => by
      obtain ⟨i, hi⟩ := List.mem_iff_getElem?.1 hy
      obtain ⟨_, cs, g1, g2, _⟩ := hxs i y hi
      rw [g2, List.length_map, (World.cells?_some g1).2.1, F.cells]
    have hfl : (flats (xs.map encX)) = xs.flatMap fun y => (encX y).flat := by simp [flats, List.flatMap_map]
    have hfll : (flats (xs.map encX)).length = len * z := by rw [hfl, flats_const _ z xs hflat, hxl]
    have key : ∀ j, j < len * z → ∃ v, w.cell? ⟨b, off + j, none⟩ = some v ∧ litOK v ∧ v.oneCell' = true ∧ (flats (xs.map encX))[j]? = some (.lit v) := by
      intro j hj
      have hi : j / z < len := Nat.div_lt_of_lt_mul (by rw [Nat.mul_comm]; exact hj)
      have hk : j % z < z := Nat.mod_lt _ F.pos
      have hjj : j / z * z + j % z = j := by rw [Nat.mul_comm]; exact Nat.div_add_mod j z
      have hget : xs[j / z]? = some (xs[j / z]'(by omega)) := List.getElem?_eq_getElem _
      generalize xs[j / z]'(by omega) = y at hget
      obtain ⟨_, cs, g1, g2, g3⟩ := hxs _ y hget
      obtain ⟨_, c2, c3⟩ := World.cells?_some g1
      rw [F.cells] at c2 c3
      have hkc : j % z < cs.length := by omega
      have hc := c3 (j % z) hk
      rw [add_plain, add_plain, Nat.add_assoc, hjj, List.getElem?_eq_getElem hkc] at hc
      have hmem := g3 _ (List.getElem_mem hkc)
      refine ⟨_, hc, hmem.1, hmem.2, ?_⟩
      have hfa := flats_at (fun y => (encX y).flat) z xs hflat (j / z) (j % z) y hget hk
      rw [hjj] at hfa
      rw [hfl, hfa, g2, List.getElem?_map, List.getElem?_eq_getElem hkc]; rfl
    obtain ⟨cells, hcl, hcs⟩ := list_choose (fun j (v : Value) => w.cell? ⟨b, off + j, none⟩ = some v ∧ litOK v ∧ v.oneCell' = true ∧ (flats (xs.map encX))[j]? = some (.lit v)) (len * z) key
    have hat : ∀ j, j < cells.length → ∃ v, cells[j]? = some v ∧ cells.getD j undef = v ∧ w.cell? ⟨b, off + j, none⟩ = some v ∧ litOK v ∧ v.oneCell' = true ∧ (flats (xs.map encX))[j]? = some (.lit v) := fun j hj => by
      have hg := List.getElem?_eq_getElem hj
      refine ⟨_, hg, by rw [List.getD_eq_getElem?_getD, hg]; rfl, hcs _ _ hg⟩
    refine ⟨xs, fun y hy => ?_, ?_, by simp only [Rows.uptoBulk]; omega, rfl⟩
    · obtain ⟨i, hi⟩ := List.mem_iff_getElem?.1 hy
      exact (hxs i y hi).1
    · have hr := Rep.sl (G := gp (shad w)) .no b off z m (xs.map encX) cells (by rw [hcl, hfll]) (fun j hj => ?_) (fun j => ?_) (fun x hx => ?_) (by simp; omega) (by simp only [List.length_map, maxN]; simp only [big] at hb; omega) trivial
      · rw [List.length_map, hxl] at hr; exact hr
      · obtain ⟨v, h1, h2, h3, h4, h5, h6⟩ := hat j hj
        rw [h2]; exact shad_of h3 h5
      · rcases Nat.lt_or_ge j cells.length with k | k
        · obtain ⟨v, h1, h2, h3, h4, h5, h6⟩ := hat j k
          rw [h2, List.getD_eq_getElem?_getD, h6]
          exact .lit h4
        · rw [show (flats (xs.map encX)).getD j .undef = .undef by rw [List.getD_eq_getElem?_getD, List.getElem?_eq_none (by rw [hfll, ← hcl]; exact k)]; rfl]
          exact .undef
      · obtain ⟨y, hy, rfl⟩ := List.mem_map.1 hx
        exact hflat y hy
theorem spot_of {r : Reach} {b0 : Nat} {t e : TypeId} {v : Value} (ht : P.underlying t = some (.slice e)) (h : Cell.okWide P w r b0 t v) : ∀ a l c, v = .slice (some a) l c → a.spot = none := by
  rintro a l c rfl
  simp only [Cell.okWide, ht, Cell.ok] at h
  exact h.2.2.2.1
theorem lit_ok {k : IntKind} {n : Int} (h : (Lit.int k n).wf = true) : k.min ≤ n ∧ n ≤ k.max := by simpa [Lit.wf] using h
theorem trodAll_stays (hl : laidOutB P = true) {W W' : World} {sp' : Nat → Bool} : ∀ {ts : List TypeId} {vs : List Value} {ds : List (DataW H)} {ps : List MemPlace}, (∀ t, t ∈ ts → P.readableRec t = true ∧ t < P.types.size) →
    DataW.TrodAll enc P W base (fun _ => true) true ts vs ds ps → (∀ p ∈ ps, W.sameAt W' p) → (∀ p ∈ ps, sp' p.block = true) → DataW.TrodAll enc P W' base sp' true ts vs ds ps
  | [], vs, ds, ps, _, h, _, _ => by obtain ⟨rfl, rfl, rfl⟩ := trodAll_nil h; exact trodAll_mk0
  | t :: ts, vs, ds, ps, hr, h, hs, hsp => by
    obtain ⟨v, vs', d, ds', p, q, rfl, rfl, rfl, h1, h2⟩ := trodAll_cons h
    exact trodAll_cons_mk (WideElems.Trod_stays hl (hr t (by simp)).1 (hr t (by simp)).2 h1 (fun x hx => hs x (by simp [hx])) (fun x hx => hsp x (by simp [hx])))
      (trodAll_stays hl (fun u hu => hr u (by simp [hu])) h2 (fun x hx => hs x (by simp [hx])) (fun x hx => hsp x (by simp [hx])))
theorem grown_step {S S' : Shadow} {w w' : World} (h : StepW S w S' w' (fun _ => True)) (may : MemPlace → Prop) : w.keptBut w' may := by
  refine ⟨h.os, h.output, fun i hi => ?_⟩
  rw [(h.keep i hi trivial).1]
  cases hh : w.heap[i]? with
  | none => rfl
  | some o =>
    cases o with
    | cells c t fr => exact ⟨rfl, rfl, rfl, fun j _ => rfl⟩
    | map es clock => exact .inr ⟨rfl, rfl⟩
    | _ => rfl
theorem post_true {f : Func} {s : ChangeSpec} {apart fresh handsOn again : Bool} {S S' : Shadow} {W W' : World} {args : Array Value} {ds : List (DataW H)} {before : List MemPlace} (hl : laidOutB P = true)
    (hW : DataW.Whole enc P f.params.toList s.vars apart W args.toList ds [] before) (hv : s.vars = []) (h4 : P.underlying 4 = some .bool) (hrt : f.resultTypes = #[4])
    (hfn : s.fn H (ds ++ []) = { results := [.lit (.bool true)], args := ds }) (hr : ∀ t, t ∈ f.params.toList → P.readableRec t = true ∧ t < P.types.size)
    (h : StepW S W S' W' (fun _ => True)) : s.post enc P f apart fresh handsOn again W args (.bool true) W' := by
  have hW0 := hW
  have hlt := fun p hp => hW0.lt p hp
  obtain ⟨pa, pv, hA, hV, hps, hz, hn⟩ := hW
  rw [hv] at hV
  obtain ⟨_, rfl⟩ := trodVars_none hV
  rw [List.append_nil] at hps
  subst hps
  have hold : ∀ p ∈ before, (fun b => decide (b < W.heap.size)) p.block = true := fun p hp => by simpa using hlt p hp
  have hheap : ∀ b, b < W.heap.size → W'.heap[b]? = W.heap[b]? := fun b hb => (h.keep b hb trivial).1
  have hsame : ∀ p ∈ before, W.sameAt W' p := fun p hp => by
    have := hlt p hp
    cases p with
    | cell b o => simp only [World.sameAt, World.cell?]; rw [hheap b this]
    | map b => exact hheap b this
  have hargs : ∀ sp : Nat → Bool, (∀ p ∈ before, sp p.block = true) → DataW.TrodAll enc P W' 0 sp true f.params.toList args.toList ds before := fun sp hsp => trodAll_stays hl hr hA hsame hsp
  have hres : ∀ (b : Nat) (sp : Nat → Bool) (hd : Bool), DataW.TrodAll enc P W' b sp hd f.resultTypes.toList ((Value.bool true).resultList f.resultTypes.size) [.lit (.bool true)] [] := fun b sp hd => by
    rw [hrt]
    exact trodAll_mk1 ⟨1, by simp [DataW.trod, Value.cells, h4]⟩
  have hvars : ∀ sp : Nat → Bool, DataW.TrodVars enc P W' sp s.vars [] [] := fun sp => by rw [hv]; rfl
  have hfz : ∀ p ∈ before, ∀ b o, p = MemPlace.cell b o → W'.frozen? ⟨b, o, none⟩ = W.frozen? ⟨b, o, none⟩ := fun p hp b o e => by
    subst e
    simp only [World.frozen?]; rw [hheap b (hlt _ hp)]
  refine ⟨ds, [], before, [], before, [], hW0, by rw [hfn]; exact hres _ _ _, by rw [hfn]; exact hargs _ hold, by rw [hfn]; exact hvars _, grown_step h _, fun _ => ?_⟩
  refine ⟨?_, _, _, ([] ++ before) ++ [], ⟨[] ++ before, [], trodAll_append (hargs _ (fun _ _ => rfl)) (hres _ _ _), hvars _, rfl, ?_, ?_⟩, ?_⟩
  · intro j t r h1 h2
    rw [hrt] at h1 h2
    match j, h1, h2 with
    | 0, h1, h2 =>
      simp [Value.resultList] at h1 h2
      subst h1 h2
      simp [Value.okWide, h4, Cell.okWide, Cell.ok]
    | j + 1, h1, h2 => simp at h1
  · intro b off hp
    have hp' : MemPlace.cell b off ∈ before := by simpa using hp
    rw [hfz _ hp' b off rfl]
    exact hz b off hp'
  · intro ha
    simpa using hn ha
  · intro p hp _
    simpa using hp
end Go.Proofs.Ytlcajocjiehplaa
