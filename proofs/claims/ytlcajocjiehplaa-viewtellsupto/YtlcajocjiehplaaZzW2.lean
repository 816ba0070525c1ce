/- The plain law of views, second part. -/
import Derived.Test.YtlcajocjiehplaaZzW1
set_option linter.unusedVariables false
set_option linter.unusedSimpArgs false
namespace Go.Proofs.Ytlcajocjiehplaa
open Go Go.Abs
theorem sAt_key (l : List Cop) (i : Nat) : sAt (l.map (·.key)) i = (cAt l i).key := by
  simp only [sAt, cAt, List.getD_eq_getElem?_getD, List.getElem?_map]
  cases l[i]? <;> rfl
theorem is_law (v : View) : isP v = isR v := by
  have h : (csOK v.cs && risesB (v.cs.map (·.key))) = csOK2 v.cs := by
    rw [Bool.eq_iff_iff]
    simp only [Bool.and_eq_true, csOK, csOK2, risesB, List.all_eq_true, List.mem_range, Bool.not_eq_true', decide_eq_false_iff_not, sAt_key, List.length_map]
    simp only [copBad2]
    constructor
    · rintro ⟨h1, h2⟩ i hi (h | ⟨h3, h4⟩)
      · exact h1 i hi h
      · have := h2 (i - 1) (by omega)
        rw [show i - 1 + 1 = i by omega, h4] at this
        cases this
    · intro h
      refine ⟨fun i hi hb => h i hi (.inl hb), fun i hi => ?_⟩
      have := h (i + 1) (by omega)
      rw [Nat.add_sub_cancel] at this
      cases hs : slt (cAt v.cs i).key (cAt v.cs (i + 1)).key with
      | true => rfl
      | false => exact absurd (.inr ⟨by omega, hs⟩) this
  rw [isP, isR, ← h, Bool.and_assoc]
theorem find_split (key : ByteArray) (pre post : List Cop) (h1 : ∀ y, y ∈ pre → cmpS y.key key < 0) (h2 : ∀ y, y ∈ post → ¬ cmpS y.key key < 0) :
    findC (pre ++ post) key = match post with | [] => none | y :: _ => if y.key = key then some y else none := by
  unfold findC
  rw [bsPos_split pre post (fun c => cmpS c.key key) h1 h2, List.getElem?_append_right (Nat.le_refl _), Nat.sub_self]
  cases post <;> rfl
theorem split_key (key : ByteArray) (l : List Cop) (h : SortC l) : ∃ pre post, l = pre ++ post ∧ (∀ y, y ∈ pre → cmpS y.key key < 0) ∧ ∀ y, y ∈ post → ¬ cmpS y.key key < 0 := by
  obtain ⟨pre, post, e, h1, h2⟩ := split_of ordC ⟨key, 0, 0⟩ l h
  exact ⟨pre, post, e, h1, h2⟩
theorem find_law (l : List Cop) (h : SortC l) (key : ByteArray) : findC l key = l.find? (fun c => decide (c.key = key)) := by
  obtain ⟨pre, post, rfl, h1, h2⟩ := split_key key l h
  rw [find_split key pre post h1 h2, List.find?_append]
  have hp : pre.find? (fun c => decide (c.key = key)) = none := by
    rw [List.find?_eq_none]
    intro y hy he
    have := h1 y hy
    rw [cmpS_eq0.2 (of_decide_eq_true he)] at this
    omega
  rw [hp, Option.none_or]
  cases post with
  | nil => rfl
  | cons y post =>
    rw [List.find?_cons]
    by_cases hy : y.key = key
    · simp [hy]
    · simp only [hy, if_false, decide_false]
      symm
      rw [List.find?_eq_none]
      intro z hz he
      have hs := (List.pairwise_append.1 h).2.1
      have : slt y.key z.key = true := (List.pairwise_cons.1 hs).1 z hz
      rw [of_decide_eq_true he] at this
      exact h2 y (by simp) (cmpS_lt.2 this)
theorem of_law {v : View} (h : isR v = true) (key : ByteArray) : ofP v key = ofV v key := by
  rw [ofP, ofV, find_law v.cs (sort_isR h).2.1 key]
  rfl
/-! ### Turn -/
theorem lastN_none (p : Int) : ∀ (l : List Mem) (i : Int), (∀ z, z ∈ l → ¬ z.node = p) → l.foldl (fun n x => if x.node = p then x.n else n) i = i
  | [], i, _ => rfl
  | y :: l, i, h => by
    rw [List.foldl_cons, if_neg (h y (by simp))]
    exact lastN_none p l i fun z hz => h z (by simp [hz])
theorem turn_mem (p : Int) : ∀ (l : List Mem), SortM l → (∀ m, m ∈ l → okM m ∧ ¬ IntKind.u64.wrap (m.n + 1) = 0) → insM byNodeF turnM l ⟨p, 1⟩ = memberR l ⟨p, IntKind.u64.wrap (lastN l p + 1)⟩
  | [], _, _ => by
    have : IntKind.u64.wrap (lastN [] p + 1) = 1 := by show IntKind.u64.wrap (0 + 1) = 1; decide
    rw [this]; rfl
  | y :: l, h, hm => by
    obtain ⟨h1, h2⟩ := List.pairwise_cons.1 h
    rcases Int.lt_trichotomy y.node p with k | k | k
    · have c1 : byNodeF y ⟨p, 1⟩ < 0 := cmpI_neg.2 k
      have e : lastN (y :: l) p = lastN l p := by
        show List.foldl _ _ _ = _
        rw [List.foldl_cons, if_neg (by omega)]; rfl
      have k1 : ¬ y.node = p := by omega
      have k2 : ¬ p < y.node := by omega
      simp only [insM, memberR, if_pos c1, e, if_neg k1, if_neg k2, turn_mem p l h2 fun m hx => hm m (by simp [hx])]
    · have c1 : byNodeF y ⟨p, 1⟩ = 0 := cmpI_eq0.2 k
      have c2 : ¬ byNodeF y ⟨p, 1⟩ < 0 := by omega
      have e : lastN (y :: l) p = y.n := by
        show List.foldl _ _ _ = _
        rw [List.foldl_cons, if_pos k]
        exact lastN_none p l _ fun z hz e => by have : y.node < z.node := h1 z hz; omega
      obtain ⟨g1, g2⟩ := hm y (by simp)
      have g3 := up_one g1 g2
      have g4 : gmax y.n (y.n + 1) = y.n + 1 := by unfold gmax; rw [if_pos (by omega)]
      simp only [insM, memberR, if_neg c2, if_pos c1, if_pos k, e, turnM, g3, g4]
    · have c1 : 0 < byNodeF y ⟨p, 1⟩ := cmpI_pos.2 k
      have c2 : ¬ byNodeF y ⟨p, 1⟩ < 0 := by omega
      have c3 : ¬ byNodeF y ⟨p, 1⟩ = 0 := by omega
      have k1 : ¬ y.node = p := by omega
      have e : lastN (y :: l) p = 0 := by
        show List.foldl _ _ _ = _
        exact lastN_none p (y :: l) _ fun z hz e => by
          rcases List.mem_cons.1 hz with rfl | hz
          · exact k1 e
          · have : y.node < z.node := h1 z hz
            omega
      have g : IntKind.u64.wrap (0 + 1) = 1 := by decide
      simp only [insM, memberR, if_neg c2, if_neg c3, if_neg k1, if_pos k, e, g]
theorem top_ms {v : View} (h : topV v = false) : (∀ m, m ∈ v.ms → ¬ IntKind.u64.wrap (m.n + 1) = 0) ∧ ∀ c, c ∈ v.cs → ¬ IntKind.u64.wrap (c.n + 1) = 0 := by
  simp only [topV, Bool.or_eq_false_iff, List.any_eq_false, beq_iff_eq] at h
  exact h
theorem turn_law {v : View} (h : isR v = true) (ht : topV v = false) (hm : ∀ m, m ∈ v.ms → okM m) (p : Int) : turnV v p = turnR v p := by
  obtain ⟨h1, _, _⟩ := sort_isR h
  rw [turnV, turnR]
  split
  · rfl
  · have e : mergeF byNodeF turnM v.ms [⟨p, 1⟩] = mStep byNodeF turnM v.ms ⟨p, 1⟩ := rfl
    rw [e, mStep_eq ordM turnM ⟨p, 1⟩ v.ms h1, turn_mem p v.ms h1 fun m hx => ⟨hm m hx, (top_ms ht).1 m hx⟩]
/-! ### Set -/
theorem lastC_none (key : ByteArray) : ∀ (l : List Cop) (i : Int), (∀ z, z ∈ l → ¬ z.key = key) → l.foldl (fun n x => if x.key = key then x.n else n) i = i
  | [], i, _ => rfl
  | y :: l, i, h => by
    rw [List.foldl_cons, if_neg (h y (by simp))]
    exact lastC_none key l i fun z hz => h z (by simp [hz])
theorem key_ne {y z : Cop} {key : ByteArray} (h : slt y.key z.key = true) (e : y.key = key) : ¬ z.key = key := fun e' => by
  rw [e, e', slt_irrefl] at h; cases h
theorem lastC_mem (key : ByteArray) : ∀ (l : List Cop), SortC l → ∀ y, y ∈ l → y.key = key → lastC l key = y.n
  | [], _, y, h, _ => by cases h
  | x :: l, h, y, hy, e => by
    obtain ⟨h1, h2⟩ := List.pairwise_cons.1 h
    show List.foldl _ _ _ = _
    rw [List.foldl_cons]
    rcases List.mem_cons.1 hy with rfl | hy
    · rw [if_pos e]
      exact lastC_none key l _ fun z hz => key_ne (h1 z hz) e
    · have hx : ¬ x.key = key := fun ex => key_ne (h1 y hy) ex e
      rw [if_neg hx]
      exact lastC_mem key l h2 y hy e
theorem last_find (l : List Cop) (h : SortC l) (hn : ∀ c, c ∈ l → ¬ c.n = 0) (key : ByteArray) :
    (match findC l key with | some c => c.n | none => 0) = lastC l key ∧ (findC l key = none ↔ lastC l key = 0) := by
  rw [find_law l h key]
  cases hf : l.find? (fun c => decide (c.key = key)) with
  | none =>
    have := lastC_none key l 0 fun z hz e => by
      have := List.find?_eq_none.1 hf z hz
      simp [e] at this
    have e : lastC l key = 0 := this
    simp [e]
  | some c =>
    have hk : c.key = key := by simpa using List.find?_some hf
    have hm := List.mem_of_find?_eq_some hf
    rw [lastC_mem key l h c hm hk]
    simp [hn c hm]
theorem set_mem (c : Cop) : ∀ (l : List Cop), (∀ y, y ∈ l → y.key = c.key → y.n < c.n) → insM byKeyF setC l c = copiesR l c
  | [], _ => rfl
  | y :: l, h => by
    by_cases h0 : y.key = c.key
    · have c1 : byKeyF y c = 0 := cmpS_eq0.2 h0
      have c2 : ¬ byKeyF y c < 0 := by omega
      have : newC y c = c := by rw [newC, if_pos (.inl (h y (by simp) h0))]
      simp only [insM, copiesR, if_neg c2, if_pos c1, if_pos h0, this, setC]
    · rcases slt_total h0 with k | k
      · have c1 : byKeyF y c < 0 := cmpS_lt.2 k
        have c2 : ¬ slt c.key y.key = true := by rw [slt_asymm k]; simp
        simp only [insM, copiesR, if_pos c1, if_neg h0, if_neg c2, set_mem c l fun y hy => h y (by simp [hy])]
      · have c1 : 0 < byKeyF y c := cmpS_gt.2 k
        have c2 : ¬ byKeyF y c < 0 := by omega
        have c3 : ¬ byKeyF y c = 0 := by omega
        simp only [insM, copiesR, if_neg c2, if_neg c3, if_neg h0, if_pos k]
theorem setN_eq (n : Int) : setN n = setM n := by
  have : gmin (gmax n 1) 3 = gmax 1 (gmin n 3) := by
    simp only [gmin, gmax]; repeat' split
    all_goals omega
  rw [setN, setM, this]
theorem empty_iff (key : ByteArray) : key = ByteArray.empty ↔ key.size < 1 := by
  constructor
  · rintro rfl; decide
  · intro h
    exact ByteArray.ext (Array.eq_empty_of_size_eq_zero (show key.data.size = 0 by have : key.size = key.data.size := rfl; omega))
theorem set_law {v : View} (h : isR v = true) (ht : topV v = false) (hm : ∀ c, c ∈ v.cs → okC c) (key : ByteArray) (n : Int) : setV v key n = setR v key n := by
  obtain ⟨_, h1, h2⟩ := sort_isR h
  obtain ⟨e1, e2⟩ := last_find v.cs h1 h2 key
  have e0 : setV v key n = if key = ByteArray.empty ∨ 8 < key.size ∨ findC v.cs key = none ∧ 40 ≤ v.cs.length then v else ⟨v.ms, mergeF byKeyF setC v.cs [⟨key, IntKind.u64.wrap (lastC v.cs key + 1), setN n⟩]⟩ := by
    rw [← e1]; rfl
  rw [e0, setR]
  simp only [e2, empty_iff]
  split
  · rfl
  · generalize hc : (⟨key, IntKind.u64.wrap (lastC v.cs key + 1), setN n⟩ : Cop) = c
    have hk : c.key = key := by rw [← hc]
    have hcn : c.n = IntKind.u64.wrap (lastC v.cs key + 1) := by rw [← hc]
    have e : mergeF byKeyF setC v.cs [c] = mStep byKeyF setC v.cs c := rfl
    rw [e, mStep_eq ordC setC c v.cs h1, set_mem c v.cs fun y hy hyk => ?_, ← hc, setN_eq]
    rw [hcn, lastC_mem key v.cs h1 y hy (hyk.trans hk), up_one (hm y hy) ((top_ms ht).2 y hy)]
    omega
end Go.Proofs.Ytlcajocjiehplaa
