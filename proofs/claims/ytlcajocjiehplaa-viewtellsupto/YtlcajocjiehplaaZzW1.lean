/- The plain law of views: what is kept in order by halving is what is kept in order by walking. -/
import Derived.Test.YtlcajocjiehplaaZzV17
set_option linter.unusedVariables false
set_option linter.unusedSimpArgs false
namespace Go.Proofs.Ytlcajocjiehplaa
open Go Go.Abs
section
variable {α κ : Type}
structure Ord3 (cmp : α → α → Int) (k : α → κ) (lt : κ → κ → Prop) : Prop where
  lt_iff : ∀ x y, cmp x y < 0 ↔ lt (k x) (k y)
  gt_iff : ∀ x y, 0 < cmp x y ↔ lt (k y) (k x)
  eq_iff : ∀ x y, cmp x y = 0 ↔ k x = k y
  trans : ∀ a b c, lt a b → lt b c → lt a c
  irrefl : ∀ a, ¬ lt a a
def Sorted (k : α → κ) (lt : κ → κ → Prop) (l : List α) : Prop := l.Pairwise fun a b => lt (k a) (k b)
def insM (cmp : α → α → Int) (both : α → α → α) : List α → α → List α
  | [], x => [x]
  | y :: l, x => if cmp y x < 0 then y :: insM cmp both l x else if cmp y x = 0 then both y x :: l else x :: y :: l
theorem bsGo_eq (p : Nat → Bool) (n t : Nat) (hp : ∀ i, i < n → (p i = true ↔ i < t)) : ∀ (m i j : Nat), i ≤ t → t ≤ j → j ≤ n → j ≤ i + m → bsGo p m i j = t
  | 0, i, j, h1, h2, h3, h4 => by simp only [bsGo]; omega
  | m + 1, i, j, h1, h2, h3, h4 => by
    simp only [bsGo]
    by_cases hij : i < j
    · rw [if_pos hij]
      have hmid := hp ((i + j) / 2) (by omega)
      by_cases hq : p ((i + j) / 2) = true
      · rw [if_pos hq]
        have := hmid.1 hq
        exact bsGo_eq p n t hp m _ _ (by omega) h2 h3 (by omega)
      · rw [if_neg hq]
        have : ¬ (i + j) / 2 < t := fun h => hq (hmid.2 h)
        exact bsGo_eq p n t hp m _ _ h1 (by omega) (by omega) (by omega)
    · rw [if_neg hij]; omega
theorem bsPos_split (pre post : List α) (c : α → Int) (h1 : ∀ y, y ∈ pre → c y < 0) (h2 : ∀ y, y ∈ post → ¬ c y < 0) : bsPos (pre ++ post) c = pre.length := by
  refine bsGo_eq _ (pre ++ post).length pre.length (fun i hi => ?_) _ _ _ (Nat.zero_le _) (by simp) (Nat.le_refl _) (by omega)
  have hg := List.getElem?_eq_getElem hi
  rcases Nat.lt_or_ge i pre.length with h | h
  · have hm : (pre ++ post)[i] ∈ pre := by rw [List.getElem_append_left h]; exact List.getElem_mem h
    have := h1 _ hm
    simp only [atB, hg, h, iff_true]
    simpa using this
  · have hm : (pre ++ post)[i] ∈ post := by rw [List.getElem_append_right h]; exact List.getElem_mem _
    have := h2 _ hm
    have h' : ¬ i < pre.length := by omega
    simp only [atB, hg, h', iff_false]
    simpa using this
def tailM (cmp : α → α → Int) (both : α → α → α) (x : α) : List α → List α
  | [] => [x]
  | y :: l => if cmp y x = 0 then both y x :: l else x :: y :: l
theorem mStep_split (cmp : α → α → Int) (both : α → α → α) (x : α) (pre post : List α) (h1 : ∀ y, y ∈ pre → cmp y x < 0) (h2 : ∀ y, y ∈ post → ¬ cmp y x < 0) : mStep cmp both (pre ++ post) x = pre ++ tailM cmp both x post := by
  unfold mStep
  rw [bsPos_split pre post _ h1 h2]
  cases post with
  | nil => simp [insAt, tailM]
  | cons y l =>
    rw [List.getElem?_append_right (Nat.le_refl _), Nat.sub_self]
    simp only [List.getElem?_cons_zero, tailM]
    split
    · rw [List.set_append_right _ _ (Nat.le_refl _), Nat.sub_self]; rfl
    · simp [insAt]
theorem insM_split (cmp : α → α → Int) (both : α → α → α) (x : α) : ∀ (pre post : List α), (∀ y, y ∈ pre → cmp y x < 0) → (∀ y, y ∈ post → ¬ cmp y x < 0) → insM cmp both (pre ++ post) x = pre ++ tailM cmp both x post
  | [], [], _, _ => rfl
  | [], y :: l, _, h2 => by simp [insM, tailM, h2 y (by simp)]
  | y :: pre, post, h1, h2 => by
    have := insM_split cmp both x pre post (fun z hz => h1 z (by simp [hz])) h2
    simp [insM, h1 y (by simp), this]
variable {cmp : α → α → Int} {k : α → κ} {lt : κ → κ → Prop}
theorem split_of (O : Ord3 cmp k lt) (x : α) : ∀ (l : List α), Sorted k lt l → ∃ pre post, l = pre ++ post ∧ (∀ y, y ∈ pre → cmp y x < 0) ∧ ∀ y, y ∈ post → ¬ cmp y x < 0
  | [], _ => ⟨[], [], rfl, by simp, by simp⟩
  | y :: l, h => by
    by_cases hy : cmp y x < 0
    · obtain ⟨pre, post, rfl, h1, h2⟩ := split_of O x l (List.pairwise_cons.1 h).2
      refine ⟨y :: pre, post, rfl, fun z hz => ?_, h2⟩
      rcases List.mem_cons.1 hz with rfl | hz
      · exact hy
      · exact h1 z hz
    · refine ⟨[], y :: l, rfl, by simp, fun z hz => ?_⟩
      rcases List.mem_cons.1 hz with rfl | hz
      · exact hy
      · intro hzx
        exact hy ((O.lt_iff _ _).2 (O.trans _ _ _ ((List.pairwise_cons.1 h).1 z hz) ((O.lt_iff _ _).1 hzx)))
theorem mStep_eq (O : Ord3 cmp k lt) (both : α → α → α) (x : α) (l : List α) (h : Sorted k lt l) : mStep cmp both l x = insM cmp both l x := by
  obtain ⟨pre, post, rfl, h1, h2⟩ := split_of O x l h
  rw [mStep_split cmp both x pre post h1 h2, insM_split cmp both x pre post h1 h2]
theorem insM_mem (O : Ord3 cmp k lt) (both : α → α → α) (hb : ∀ y x, k y = k x → k (both y x) = k y) (x : α) : ∀ (l : List α) (z : α), z ∈ insM cmp both l x → k z = k x ∨ ∃ y, y ∈ l ∧ k z = k y
  | [], z, h => by simp [insM] at h; exact .inl (by rw [h])
  | y :: l, z, h => by
    simp only [insM] at h
    split at h
    · rcases List.mem_cons.1 h with rfl | h
      · exact .inr ⟨z, by simp, rfl⟩
      · rcases insM_mem O both hb x l z h with h | ⟨u, hu, e⟩
        · exact .inl h
        · exact .inr ⟨u, by simp [hu], e⟩
    · split at h
      · rename_i h0
        rcases List.mem_cons.1 h with rfl | h
        · exact .inr ⟨y, by simp, hb y x ((O.eq_iff _ _).1 h0)⟩
        · exact .inr ⟨z, by simp [h], rfl⟩
      · rcases List.mem_cons.1 h with rfl | h
        · exact .inl rfl
        · exact .inr ⟨z, h, rfl⟩
theorem insM_sorted (O : Ord3 cmp k lt) (both : α → α → α) (hb : ∀ y x, k y = k x → k (both y x) = k y) (x : α) : ∀ (l : List α), Sorted k lt l → Sorted k lt (insM cmp both l x)
  | [], _ => by simp [insM, Sorted]
  | y :: l, h => by
    obtain ⟨h1, h2⟩ := List.pairwise_cons.1 h
    simp only [insM]
    split
    · rename_i hyx
      refine List.pairwise_cons.2 ⟨fun z hz => ?_, insM_sorted O both hb x l h2⟩
      rcases insM_mem O both hb x l z hz with e | ⟨u, hu, e⟩
      · rw [e]; exact (O.lt_iff _ _).1 hyx
      · rw [e]; exact h1 u hu
    · split
      · rename_i h0
        refine List.pairwise_cons.2 ⟨fun z hz => ?_, h2⟩
        rw [hb y x ((O.eq_iff _ _).1 h0)]; exact h1 z hz
      · have hgt : lt (k x) (k y) := (O.gt_iff y x).1 (by omega)
        refine List.pairwise_cons.2 ⟨fun z hz => ?_, h⟩
        rcases List.mem_cons.1 hz with rfl | hz
        · exact hgt
        · exact O.trans _ _ _ hgt (h1 z hz)
theorem fold_eq (O : Ord3 cmp k lt) (both : α → α → α) (hb : ∀ y x, k y = k x → k (both y x) = k y) (f : List α → α → List α) (hf : ∀ l x, insM cmp both l x = f l x) : ∀ (b a : List α), Sorted k lt a → mergeF cmp both a b = b.foldl f a
  | [], a, _ => rfl
  | x :: b, a, h => by
    have e : mergeF cmp both a (x :: b) = mergeF cmp both (mStep cmp both a x) b := rfl
    rw [e, mStep_eq O both x a h, fold_eq O both hb f hf b _ (insM_sorted O both hb x a h), List.foldl_cons, hf]
theorem sorted_of (O : Ord3 cmp k lt) : ∀ (l : List α), (∀ i a b, l[i]? = some a → l[i + 1]? = some b → lt (k a) (k b)) → Sorted k lt l
  | [], _ => List.Pairwise.nil
  | [x], _ => by simp [Sorted]
  | x :: y :: l, h => by
    have ih := sorted_of O (y :: l) fun i a b ha hb => h (i + 1) a b (by simpa using ha) (by simpa using hb)
    have hxy : lt (k x) (k y) := h 0 x y rfl rfl
    refine List.pairwise_cons.2 ⟨fun z hz => ?_, ih⟩
    rcases List.mem_cons.1 hz with rfl | hz
    · exact hxy
    · exact O.trans _ _ _ hxy ((List.pairwise_cons.1 ih).1 z hz)
end
theorem cmpI_neg {x y : Int} : cmpI x y < 0 ↔ x < y := cmpI_lt
theorem cmpI_pos {x y : Int} : 0 < cmpI x y ↔ y < x := cmpI_gt
theorem cmpI_eq0 {x y : Int} : cmpI x y = 0 ↔ x = y := by
  have h1 := @cmpI_neg x y
  have h2 := @cmpI_pos x y
  omega
theorem cmpS_eq0 {a b : ByteArray} : cmpS a b = 0 ↔ a = b := by
  constructor
  · intro h
    refine Classical.byContradiction fun hn => ?_
    rcases slt_total hn with h1 | h1
    · have := cmpS_lt.2 h1; omega
    · have := cmpS_gt.2 h1; omega
  · rintro rfl
    simp [cmpS, slt_irrefl]
theorem ordM : Ord3 byNodeF (fun m : Mem => m.node) (fun a b : Int => a < b) :=
  ⟨fun x y => cmpI_neg, fun x y => cmpI_pos, fun x y => cmpI_eq0, fun a b c h1 h2 => by omega, fun a => by omega⟩
theorem ordC : Ord3 byKeyF (fun c : Cop => c.key) (fun a b : ByteArray => slt a b = true) :=
  ⟨fun x y => cmpS_lt, fun x y => cmpS_gt, fun x y => cmpS_eq0, fun a b c h1 h2 => slt_trans h1 h2, fun a => by simp [slt_irrefl]⟩
theorem insM_member : ∀ (l : List Mem) (x : Mem), insM byNodeF bothM l x = memberR l x
  | [], x => rfl
  | y :: l, x => by
    simp only [insM, memberR, insM_member l x]
    rcases Int.lt_trichotomy y.node x.node with h | h | h
    · have h1 : byNodeF y x < 0 := cmpI_neg.2 h
      rw [if_pos h1, if_neg (by omega), if_neg (by omega)]
    · have h1 : byNodeF y x = 0 := cmpI_eq0.2 h
      rw [if_neg (by omega), if_pos h1, if_pos h]; rfl
    · have h1 : 0 < byNodeF y x := cmpI_pos.2 h
      rw [if_neg (by omega), if_neg (by omega), if_neg (by omega), if_pos h]
theorem both_new (y x : Cop) : bothC y x = newC y x := by
  have h1 := @cmpI_neg y.n x.n
  have h2 := @cmpI_pos y.n x.n
  have h3 := @cmpI_neg y.m x.m
  have h4 := @cmpI_pos y.m x.m
  have hP : orI [cmpI y.n x.n, cmpI y.m x.m] < 0 ↔ (y.n < x.n ∨ x.n = y.n ∧ y.m < x.m) := by
    simp only [orI]
    repeat' split
    all_goals omega
  rw [bothC, newC]
  simp only [hP]
theorem insM_copies : ∀ (l : List Cop) (x : Cop), insM byKeyF bothC l x = copiesR l x
  | [], x => rfl
  | y :: l, x => by
    simp only [insM, copiesR, insM_copies l x]
    by_cases h0 : y.key = x.key
    · have h1 : byKeyF y x = 0 := cmpS_eq0.2 h0
      rw [if_neg (by omega), if_pos h1, if_pos h0, both_new]
    · rw [if_neg h0]
      rcases slt_total h0 with h | h
      · have h1 : byKeyF y x < 0 := cmpS_lt.2 h
        rw [if_pos h1, if_neg (by rw [slt_asymm h]; simp)]
      · have h1 : 0 < byKeyF y x := cmpS_gt.2 h
        rw [if_neg (by omega), if_neg (by omega), if_pos h]
def okM (m : Mem) : Prop := 0 ≤ m.n ∧ m.n ≤ 18446744073709551615
def okC (c : Cop) : Prop := 0 ≤ c.n ∧ c.n ≤ 18446744073709551615
abbrev SortM (l : List Mem) : Prop := Sorted (fun m : Mem => m.node) (fun a b : Int => a < b) l
abbrev SortC (l : List Cop) : Prop := Sorted (fun c : Cop => c.key) (fun a b : ByteArray => slt a b = true) l
theorem up_one {n : Int} (h : 0 ≤ n ∧ n ≤ 18446744073709551615) (ht : ¬ IntKind.u64.wrap (n + 1) = 0) : IntKind.u64.wrap (n + 1) = n + 1 := by
  rcases Int.lt_or_le n 18446744073709551615 with k | k
  · exact wrap_u64 (by omega) (by omega)
  · have e : n = 18446744073709551615 := by omega
    subst e
    exact absurd (by decide) ht
theorem sort_isR {v : View} (h : isR v = true) : SortM v.ms ∧ SortC v.cs ∧ (∀ c, c ∈ v.cs → ¬ c.n = 0) := by
  simp only [isR, Bool.and_eq_true, msOK, csOK2, List.all_eq_true, List.mem_range] at h
  obtain ⟨h1, h2, _⟩ := h
  refine ⟨sorted_of ordM _ fun i a b ha hb => ?_, sorted_of ordC _ fun i a b ha hb => ?_, fun c hc => ?_⟩
  · have := h1 (i + 1) (List.getElem?_eq_some_iff.1 hb).1
    simp only [memBad, mAt_get hb, Nat.add_sub_cancel, mAt_get ha, Bool.not_eq_true', decide_eq_false_iff_not] at this
    have h3 : ¬ (0 < i + 1 ∧ b.node ≤ a.node) := fun h => this (.inr (.inr (.inr h)))
    show a.node < b.node
    omega
  · have := h2 (i + 1) (List.getElem?_eq_some_iff.1 hb).1
    simp only [copBad2, cAt_get hb, Nat.add_sub_cancel, cAt_get ha, Bool.not_eq_true', decide_eq_false_iff_not] at this
    have h3 : ¬ (slt a.key b.key = false) := fun h => this (.inr ⟨by omega, h⟩)
    show slt a.key b.key = true
    simpa using h3
  · obtain ⟨i, hi⟩ := List.mem_iff_getElem?.1 hc
    have := h2 i (List.getElem?_eq_some_iff.1 hi).1
    simp only [copBad2, copBad, cAt_get hi, Bool.not_eq_true', decide_eq_false_iff_not] at this
    exact fun h => this (.inl (.inr (.inr (.inl h))))
theorem join_law {a b : View} (h : isR a = true) : joinV a b = joinR a b := by
  obtain ⟨h1, h2, _⟩ := sort_isR h
  rw [joinV, joinR, fold_eq ordM bothM (fun y x e => rfl) memberR insM_member b.ms a.ms h1, fold_eq ordC bothC (fun y x e => by unfold bothC; split <;> simp_all) copiesR insM_copies b.cs a.cs h2]
end Go.Proofs.Ytlcajocjiehplaa
