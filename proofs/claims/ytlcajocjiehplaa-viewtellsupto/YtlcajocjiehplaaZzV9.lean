/- slices.Insert of one. -/
import Derived.Test.YtlcajocjiehplaaZzV8
set_option linter.unusedVariables false
set_option linter.unusedSimpArgs false
set_option maxRecDepth 10000
namespace Go.Proofs.Ytlcajocjiehplaa
open Go Go.Abs
def insAt {α : Type} (l : List α) (i : Nat) (x : α) : List α := l.take i ++ x :: l.drop i
theorem insAt_length {α : Type} {l : List α} {i : Nat} {x : α} (h : i ≤ l.length) : (insAt l i x).length = l.length + 1 := by
  simp [insAt]; omega
theorem splice_app (A R X : List AV) (n : Nat) (h : n = A.length) : splice (A ++ R) n X = A ++ (X ++ R.drop X.length) := by
  subst h
  simp [splice, List.drop_append]
theorem spl (A R X : List AV) (n m : Nat) (h : n = A.length) (hm : m = n + X.length) : List.take n (A ++ R) ++ X ++ List.drop m (A ++ R) = A ++ (X ++ R.drop X.length) := by
  subst hm; exact splice_app A R X n h
theorem flats_len {z : Nat} : ∀ (xs : List AV), (∀ x, x ∈ xs → x.flat.length = z) → (flats xs).length = xs.length * z
  | [], _ => by simp [flats]
  | x :: xs, h => by
    have := flats_len xs fun y hy => h y (by simp [hy])
    simp only [flats] at this
    simp only [flats, List.flatMap_cons, List.length_append, List.length_cons, this, h x (by simp)]
    rw [Nat.add_mul]; omega
theorem flats_app (xs ys : List AV) : flats (xs ++ ys) = flats xs ++ flats ys := by simp [flats]
theorem flats_split (xs : List AV) (i : Nat) : flats xs = flats (xs.take i) ++ flats (xs.drop i) := by rw [← flats_app, List.take_append_drop]
theorem flats_one (x : AV) : flats [x] = x.flat := by simp [flats]
theorem flats_cons' (x : AV) (l : List AV) : flats (x :: l) = x.flat ++ flats l := by simp [flats]
theorem flats_take' {z : Nat} {xs : List AV} (h : ∀ x, x ∈ xs → x.flat.length = z) {i : Nat} (hi : i ≤ xs.length) (sp : List AV) : (flats xs ++ sp).take (i * z) = flats (xs.take i) := by
  have h1 := flats_len (xs.take i) fun x hx => h x (List.mem_of_mem_take hx)
  rw [List.length_take, Nat.min_eq_left hi] at h1
  rw [flats_split xs i, List.append_assoc, List.take_left' h1]
theorem flats_drop' {z : Nat} {xs : List AV} (h : ∀ x, x ∈ xs → x.flat.length = z) {i : Nat} (hi : i ≤ xs.length) (sp : List AV) : (flats xs ++ sp).drop (i * z) = flats (xs.drop i) ++ sp := by
  have h1 := flats_len (xs.take i) fun x hx => h x (List.mem_of_mem_take hx)
  rw [List.length_take, Nat.min_eq_left hi] at h1
  rw [flats_split xs i, List.append_assoc, List.drop_left' h1]
theorem weak_id_flats {xs : List AV} (h : ∀ x, x ∈ xs → x.weak = x) : (flats xs).map AV.weak = flats xs := by
  rw [← weak_flats]
  congr 1
  conv => rhs; rw [← List.map_id xs]
  exact List.map_congr_left fun x hx => h x hx
/-- A slice of one's own over the variable k, from its beginning. -/
def OwnB (z k : Nat) (ys : List AV) (H' : List (List AV)) (r : AV) : Prop :=
  ∃ sp cap, H'[k]? = some (flats ys ++ sp) ∧ r = .bsl k 0 ys.length cap ∧ ys.length ≤ cap ∧ sp.length = (cap - ys.length) * z

theorem insC_mut (xs : List AV) (x : AV) (sp : List AV) (cap i : Nat) (hz : ∀ y, y ∈ xs → y.flat.length = 3) (hx : x.flat.length = 3) (hw : ∀ y, y ∈ xs → y.weak = y) (hxw : x.weak = x)
    (hi : i ≤ xs.length) (hc : xs.length ≤ cap) (hsp : sp.length = (cap - xs.length) * 3) (hb : (xs.length + 1) * 32 ≤ maxN) :
    Mut Try.prog 75 [flats xs ++ sp] [.bsl 0 0 xs.length cap, encI i, .sl .no [x]] fun H' r => ∃ k, (k = 0 ∧ H'.length = 1 ∨ k = 1 ∧ H'.length = 2) ∧ OwnB 3 k (insAt xs i x) H' r := by
  refine Mut.intro Try.func75 rfl rfl fun S0 w0 bs => vc_sound _ ?_
  have hfl := flats_len xs hz
  simp only [maxN] at hb
  have c1 : (((1 : Nat) : Int)) = 1 := rfl
  have w1 : IntKind.i64.wrap ((xs.length : Int) + 1) = ((xs.length + 1 : Nat) : Int) := by rw [wrap_i64 (by omega) (by omega)]; omega
  have w2 : IntKind.i64.wrap ((i : Int) + 1) = ((i + 1 : Nat) : Int) := by rw [wrap_i64 (by omega) (by omega)]; omega
  have w3 : IntKind.i64.wrap (((xs.length + 1 : Nat) : Int) - (i : Int)) = ((xs.length + 1 - i : Nat) : Int) := by rw [wrap_i64 (by omega) (by omega)]; omega
  have bnd : ∀ k : Nat, (if (0 : Int) ≤ (k : Int) then some (k : Int).toNat else none) = some k := fun k => by simp
  have bnd2 : ∀ k : Nat, (if (0 : Int) ≤ (k : Int) then some k else none) = some k := fun k => by simp
  have w4 : i + (xs.length + 1 - i) = xs.length + 1 := by omega
  simp -implicitDefEqProofs only [vcx, tys, reduceIte, reduceCtorEq, Nat.reduceAdd, Nat.reduceLT, Nat.reduceEqDiff, Nat.reduceLeDiff, Nat.reduceSub, Nat.reduceMul, Int.reduceLE, Int.reduceNeg, Int.reduceLT, String.reduceBEq, splice, afill, Nat.reducePow, Nat.reduceBEq, eq_self, forall_exists_index, forall_apply_eq_imp_iff₂, exists_eq_left', ite_true, ite_false, if_true, if_false, ne_eq, forall_const, exists_eq_left, forall_eq, implies_true, id_eq, AV.weak, AV.weak.weakL, aun, isIface, Try.results75, Try.ntmps75, encI, bound, bnd, bnd2, c1, w1, w2, w3, w4, Int.reduceEq, Nat.sub_zero, Nat.zero_add, Int.toNat_natCast]
  have hx' : flats [x] = x.flat := flats_one x
  have hA : (flats (xs.take i)).length = i * 3 := by rw [flats_len (xs.take i) fun y hy => hz y (List.mem_of_mem_take hy), List.length_take, Nat.min_eq_left hi]
  have hB : (flats (xs.drop i)).length = (xs.length - i) * 3 := by rw [flats_len (xs.drop i) fun y hy => hz y (List.mem_of_mem_drop hy), List.length_drop]
  have hcell : (flats xs ++ sp).length = cap * 3 := by rw [List.length_append, hfl, hsp, ← Nat.add_mul]; congr 1; omega
  have hwA : (flats (xs.take i)).map AV.weak = flats (xs.take i) := weak_id_flats fun y hy => hw y (List.mem_of_mem_take hy)
  have hwB : (flats (xs.drop i)).map AV.weak = flats (xs.drop i) := weak_id_flats fun y hy => hw y (List.mem_of_mem_drop hy)
  have hwx : x.flat.map AV.weak = x.flat := by rw [← weak_flat, hxw]
  have hins : flats (insAt xs i x) = flats (xs.take i) ++ (x.flat ++ flats (xs.drop i)) := by simp only [insAt, flats_app, flats_cons']
  have hil := insAt_length (x := x) hi
  refine ⟨hi, hc, by simp only [maxN]; omega, fun off' hoff _ _ _ => ⟨fun hin => ?_, fun hin _ hcm => ⟨fun hgt => ?_, fun hle => ?_⟩⟩⟩
  · obtain rfl : i = xs.length := by omega
    have e1 : flats (xs.take xs.length) = flats xs := by rw [List.take_length]
    have e2 : flats (xs.drop xs.length) = [] := by rw [List.drop_length]; rfl
    rw [e1] at hA hwA hins
    rw [e2, List.append_nil] at hins
    refine ⟨by omega, hx, by simp only [maxN]; omega, by simp only [maxN]; omega, fun k off cap1 he hroom => ?_, fun hroom cap' k hcap' hk => ?_⟩
    · cases he
      refine ⟨_, rfl, rfl, by show _ ≤ (flats xs ++ sp).length; rw [hcell]; omega, _, [], [_], rfl, List.nodup_nil, by simp, .cons ⟨_, rfl, rfl, rfl⟩ .nil, 0, .inl ⟨rfl, rfl⟩, (sp.drop 3).map AV.weak, cap, ?_, ?_, by omega, ?_⟩
      · rw [spl _ _ _ _ _ (by omega) (by omega), hx', hx]
        simp only [List.getElem?_cons_zero, List.map_append, hwA, hwx, hins, List.append_assoc]
      · first | (rw [hil]; done) | (rw [hil]; rfl)
      · rw [List.length_map, List.length_drop, hsp, hil]; omega
    · have hroom' := hroom 0 0 cap rfl
      refine ⟨_, [1], [_, _], rfl, by simp, by simp, .cons ⟨_, rfl, rfl, rfl⟩ (.cons ⟨_, rfl, rfl, rfl⟩ .nil), 1, .inr ⟨rfl, rfl⟩, (List.replicate k AV.undef).map AV.weak, cap', ?_, ?_, by omega, ?_⟩
      · rw [flats_take' hz (Nat.le_refl _), e1, hx']
        simp only [List.getElem?_cons_succ, List.getElem?_cons_zero, List.map_append, hwA, hwx, hins, List.append_assoc]
      · rw [hil]; rfl
      · rw [List.length_map, List.length_replicate, hil, hk]
  · have hi' : i < xs.length := by omega
    refine ⟨Nat.zero_le _, by omega, by simp only [maxN]; omega, fun off1 ho1 => ?_⟩
    obtain rfl : off1 = 0 := by have := ho1 (by omega); omega
    refine ⟨by omega, rfl, by omega, by simp only [maxN]; omega, by simp only [maxN]; omega, fun k off cap1 he => by cases he; omega, fun cap' k hcap' hk => ⟨by omega, hcap', by simp only [maxN]; omega, fun off2 ho2 => ?_⟩⟩
    obtain rfl : off2 = i * 3 := ho2 (by omega)
    have hT : List.take (i * 3) (List.drop 0 (flats xs ++ sp)) = flats (xs.take i) := by rw [List.drop_zero, flats_take' hz hi]
    refine ⟨hx, by rw [hT, List.length_append, hA, List.length_replicate]; omega, ?_⟩
    refine awp_gen [] mixed (by kernel_rfl) ?_
    have hT2 : List.take (i * 3) (flats xs ++ sp) = flats (xs.take i) := flats_take' hz hi sp
    have hX : List.take (min 1 (xs.length + 1 - i) * 3) (flats [x]) = x.flat := by
      rw [hx', List.take_of_length_le]
      have : min 1 (xs.length + 1 - i) = 1 := by omega
      rw [this, hx]; omega
    have hS1 := spl (flats (xs.take i)) (List.replicate k AV.undef) x.flat (i * 3) (i * 3 + x.flat.length) hA.symm rfl
    simp -implicitDefEqProofs only [vcx, tys, reduceIte, reduceCtorEq, Nat.reduceAdd, Nat.reduceLT, Nat.reduceEqDiff, Nat.reduceLeDiff, Nat.reduceSub, Nat.reduceMul, Int.reduceLE, Int.reduceNeg, Int.reduceLT, String.reduceBEq, splice, afill, Nat.reducePow, Nat.reduceBEq, eq_self, forall_exists_index, forall_apply_eq_imp_iff₂, exists_eq_left', ite_true, ite_false, if_true, if_false, ne_eq, forall_const, exists_eq_left, forall_eq, implies_true, id_eq, AV.weak, AV.weak.weakL, aun, isIface, vcd, Try.results75, Try.ntmps75, encI, bound, bnd, bnd2, c1, w1, w2, w3, w4, Int.reduceEq, Nat.sub_zero, Nat.zero_add, Int.toNat_natCast, hT2, hX, hS1]
    refine ⟨hi, by omega, by simp only [maxN]; omega, fun off3 ho3 => ⟨hi, hc, by simp only [maxN]; omega, fun off4 ho4 => ?_⟩⟩
    obtain rfl : off3 = (i + 1) * 3 := ho3 (by omega)
    obtain rfl : off4 = i * 3 := ho4 (by omega)
    have hY : List.take (min (xs.length - i) (xs.length + 1 - (i + 1)) * 3) (List.take ((xs.length - i) * 3) (List.drop (i * 3) (flats xs ++ sp))) = flats (xs.drop i) := by
      rw [flats_drop' hz hi, List.take_left' hB, List.take_of_length_le]
      rw [hB]; exact Nat.mul_le_mul_right _ (by omega)
    have hS2 := spl (flats (xs.take i) ++ x.flat) ((List.replicate k AV.undef).drop x.flat.length) (flats (xs.drop i)) ((i + 1) * 3) ((i + 1) * 3 + (flats (xs.drop i)).length) (by rw [List.length_append, hA, hx]; omega) rfl
    simp only [List.append_assoc] at hS2
    refine ⟨by omega, by simp only [List.length_append, List.length_drop, List.length_replicate, hA, hx]; omega, _, [1], [_, _], rfl, by simp, by simp, .cons ⟨_, rfl, rfl, rfl⟩ (.cons ⟨_, rfl, rfl, rfl⟩ .nil), 1, .inr ⟨rfl, rfl⟩, (((List.replicate k AV.undef).drop x.flat.length).drop (flats (xs.drop i)).length).map AV.weak, cap', ?_, ?_, by omega, ?_⟩
    · simp only [hY, List.append_assoc, hS2]
      simp only [List.getElem?_cons_succ, List.getElem?_cons_zero, List.map_append, hwA, hwB, hwx, hins, List.append_assoc]
    · rw [hil]; rfl
    · rw [List.length_map, List.length_drop, List.length_drop, List.length_replicate, hil, hB, hx, hk]; omega
  · have hi' : i < xs.length := by omega
    have hle' : xs.length + 1 ≤ cap := by omega
    refine ⟨hle', by simp only [maxN]; omega, fun off1 ho1 => ?_⟩
    obtain rfl : off1 = 0 := by have := ho1 (by omega); omega
    refine ⟨hi, hle', by simp only [maxN]; omega, fun off2 ho2 => ?_⟩
    obtain rfl : off2 = (i + 1) * 3 := by have := ho2 (by omega); omega
    refine call_x (ext_overlaps (tb := 4) (i := 0) (bc := ⟨flats xs ++ sp, true⟩) Try.func88 (by kernel_rfl) (by kernel_rfl) (by kernel_rfl) (by kernel_rfl) ty23 rfl ty57 (fun y hy => by rw [List.mem_singleton.1 hy]; exact hx) rfl rfl ?_) ?_
    · show (i + 1) * 3 + (xs.length + 1 - (i + 1)) * 3 ≤ (flats xs ++ sp).length
      rw [hcell, ← Nat.add_mul]; exact Nat.mul_le_mul_right _ (by omega)
    simp -implicitDefEqProofs only [vcx, tys, reduceIte, reduceCtorEq, Nat.reduceAdd, Nat.reduceLT, Nat.reduceEqDiff, Nat.reduceLeDiff, Nat.reduceSub, Nat.reduceMul, Int.reduceLE, Int.reduceNeg, Int.reduceLT, String.reduceBEq, splice, afill, Nat.reducePow, Nat.reduceBEq, eq_self, forall_exists_index, forall_apply_eq_imp_iff₂, exists_eq_left', ite_true, ite_false, if_true, if_false, ne_eq, forall_const, exists_eq_left, forall_eq, implies_true, id_eq, AV.weak, AV.weak.weakL, aun, isIface, Try.results75, Try.ntmps75, encI, bound, bnd, bnd2, c1, w1, w2, w3, w4, Int.reduceEq, Nat.sub_zero, Nat.zero_add, Int.toNat_natCast, Bool.not_false, Bool.not_true]
    refine awp_gen [] mixed (by kernel_rfl) ?_
    simp -implicitDefEqProofs only [vcx, tys, reduceIte, reduceCtorEq, Nat.reduceAdd, Nat.reduceLT, Nat.reduceEqDiff, Nat.reduceLeDiff, Nat.reduceSub, Nat.reduceMul, Int.reduceLE, Int.reduceNeg, Int.reduceLT, String.reduceBEq, splice, afill, Nat.reducePow, Nat.reduceBEq, eq_self, forall_exists_index, forall_apply_eq_imp_iff₂, exists_eq_left', ite_true, ite_false, if_true, if_false, ne_eq, forall_const, exists_eq_left, forall_eq, implies_true, id_eq, AV.weak, AV.weak.weakL, aun, isIface, vcd, Try.results75, Try.ntmps75, encI, bound, bnd, bnd2, c1, w1, w2, w3, w4, Int.reduceEq, Nat.sub_zero, Nat.zero_add, Int.toNat_natCast]
    refine ⟨hi, hle', by simp only [maxN]; omega, fun off3 ho3 => ⟨by omega, hle', by simp only [maxN]; omega, fun off4 ho4 => ?_⟩⟩
    obtain rfl : off3 = (i + 1) * 3 := ho3 (by omega)
    obtain rfl : off4 = i * 3 := ho4 (by omega)
    have hmul : i * 3 + (xs.length + 1 - i) * 3 ≤ cap * 3 := by rw [← Nat.add_mul]; exact Nat.mul_le_mul_right _ (by omega)
    have hmul2 : (i + 1) * 3 + (xs.length + 1 - (i + 1)) * 3 ≤ cap * 3 := by rw [← Nat.add_mul]; exact Nat.mul_le_mul_right _ (by omega)
    refine ⟨by rw [hcell]; exact hmul, by rw [hcell]; exact hmul2, by omega, hle', by simp only [maxN]; omega, fun off5 ho5 => ?_⟩
    obtain rfl : off5 = i * 3 := ho5 (by omega)
    have hY : List.take (min (xs.length + 1 - i) (xs.length + 1 - (i + 1)) * 3) (List.take ((xs.length + 1 - i) * 3) (List.drop (i * 3) (flats xs ++ sp))) = flats (xs.drop i) := by
      have hm : min (xs.length + 1 - i) (xs.length + 1 - (i + 1)) = xs.length - i := by omega
      rw [hm, List.take_take, flats_drop' hz hi, Nat.min_eq_left (Nat.mul_le_mul_right _ (by omega)), List.take_left' hB]
    have hX : List.take (min 1 (xs.length + 1 - i) * 3) (flats [x]) = x.flat := by
      rw [hx', List.take_of_length_le]
      have : min 1 (xs.length + 1 - i) = 1 := by omega
      rw [this, hx]; omega
    have hD : 3 ≤ (flats (xs.drop i) ++ sp).length := by rw [List.length_append, hB]; omega
    have hD1 : ((flats (xs.drop i) ++ sp).take 3).length = 3 := by rw [List.length_take]; omega
    have hcells : flats xs ++ sp = (flats (xs.take i) ++ (flats (xs.drop i) ++ sp).take 3) ++ (flats (xs.drop i) ++ sp).drop 3 := by
      rw [List.append_assoc, List.take_append_drop, ← List.append_assoc, ← flats_split]
    have hS1 : List.take ((i + 1) * 3) (flats xs ++ sp) ++ flats (xs.drop i) ++ List.drop ((i + 1) * 3 + (flats (xs.drop i)).length) (flats xs ++ sp) = flats (xs.take i) ++ ((flats (xs.drop i) ++ sp).take 3 ++ (flats (xs.drop i) ++ ((flats (xs.drop i) ++ sp).drop 3).drop (flats (xs.drop i)).length)) := by
      rw [hcells, spl _ _ _ _ _ (by rw [List.length_append, hA, hD1]; omega) rfl, List.append_assoc]
    have hS2 := spl (flats (xs.take i)) ((flats (xs.drop i) ++ sp).take 3 ++ (flats (xs.drop i) ++ ((flats (xs.drop i) ++ sp).drop 3).drop (flats (xs.drop i)).length)) x.flat (i * 3) (i * 3 + x.flat.length) hA.symm rfl
    have h0 : ∀ Y, ((flats (xs.drop i) ++ sp).take 3 ++ Y).drop x.flat.length = Y := fun Y => by rw [hx, List.drop_left' hD1]
    rw [h0] at hS2
    simp only [hY, hS1, hX, hS2]
    refine ⟨hx, ?_, _, [], [_], rfl, List.nodup_nil, by simp, .cons ⟨_, rfl, rfl, rfl⟩ .nil, 0, .inl ⟨rfl, rfl⟩, (((flats (xs.drop i) ++ sp).drop 3).drop (flats (xs.drop i)).length).map AV.weak, cap, ?_, ?_, by omega, ?_⟩
    · rw [← hS1, hcells]
      simp only [List.length_append, List.length_take, List.length_drop, hA, hB, hD1]
      omega
    · simp only [List.getElem?_cons_zero, List.map_append, hwA, hwB, hwx, hins, List.append_assoc]
    · first | (rw [hil]; done) | (rw [hil]; rfl)
    · rw [List.length_map, List.length_drop, List.length_drop, List.length_append, hB, hsp, hil]; omega
theorem insM_mut (xs : List AV) (x : AV) (sp : List AV) (cap i : Nat) (hz : ∀ y, y ∈ xs → y.flat.length = 2) (hx : x.flat.length = 2) (hw : ∀ y, y ∈ xs → y.weak = y) (hxw : x.weak = x)
    (hi : i ≤ xs.length) (hc : xs.length ≤ cap) (hsp : sp.length = (cap - xs.length) * 2) (hb : (xs.length + 1) * 16 ≤ maxN) :
    Mut Try.prog 79 [flats xs ++ sp] [.bsl 0 0 xs.length cap, encI i, .sl .no [x]] fun H' r => ∃ k, (k = 0 ∧ H'.length = 1 ∨ k = 1 ∧ H'.length = 2) ∧ OwnB 2 k (insAt xs i x) H' r := by
  refine Mut.intro Try.func79 rfl rfl fun S0 w0 bs => vc_sound _ ?_
  have hfl := flats_len xs hz
  simp only [maxN] at hb
  have c1 : (((1 : Nat) : Int)) = 1 := rfl
  have w1 : IntKind.i64.wrap ((xs.length : Int) + 1) = ((xs.length + 1 : Nat) : Int) := by rw [wrap_i64 (by omega) (by omega)]; omega
  have w2 : IntKind.i64.wrap ((i : Int) + 1) = ((i + 1 : Nat) : Int) := by rw [wrap_i64 (by omega) (by omega)]; omega
  have w3 : IntKind.i64.wrap (((xs.length + 1 : Nat) : Int) - (i : Int)) = ((xs.length + 1 - i : Nat) : Int) := by rw [wrap_i64 (by omega) (by omega)]; omega
  have bnd : ∀ k : Nat, (if (0 : Int) ≤ (k : Int) then some (k : Int).toNat else none) = some k := fun k => by simp
  have bnd2 : ∀ k : Nat, (if (0 : Int) ≤ (k : Int) then some k else none) = some k := fun k => by simp
  have w4 : i + (xs.length + 1 - i) = xs.length + 1 := by omega
  simp -implicitDefEqProofs only [vcx, tys, reduceIte, reduceCtorEq, Nat.reduceAdd, Nat.reduceLT, Nat.reduceEqDiff, Nat.reduceLeDiff, Nat.reduceSub, Nat.reduceMul, Int.reduceLE, Int.reduceNeg, Int.reduceLT, String.reduceBEq, splice, afill, Nat.reducePow, Nat.reduceBEq, eq_self, forall_exists_index, forall_apply_eq_imp_iff₂, exists_eq_left', ite_true, ite_false, if_true, if_false, ne_eq, forall_const, exists_eq_left, forall_eq, implies_true, id_eq, AV.weak, AV.weak.weakL, aun, isIface, Try.results79, Try.ntmps79, encI, bound, bnd, bnd2, c1, w1, w2, w3, w4, Int.reduceEq, Nat.sub_zero, Nat.zero_add, Int.toNat_natCast]
  have hx' : flats [x] = x.flat := flats_one x
  have hA : (flats (xs.take i)).length = i * 2 := by rw [flats_len (xs.take i) fun y hy => hz y (List.mem_of_mem_take hy), List.length_take, Nat.min_eq_left hi]
  have hB : (flats (xs.drop i)).length = (xs.length - i) * 2 := by rw [flats_len (xs.drop i) fun y hy => hz y (List.mem_of_mem_drop hy), List.length_drop]
  have hcell : (flats xs ++ sp).length = cap * 2 := by rw [List.length_append, hfl, hsp, ← Nat.add_mul]; congr 1; omega
  have hwA : (flats (xs.take i)).map AV.weak = flats (xs.take i) := weak_id_flats fun y hy => hw y (List.mem_of_mem_take hy)
  have hwB : (flats (xs.drop i)).map AV.weak = flats (xs.drop i) := weak_id_flats fun y hy => hw y (List.mem_of_mem_drop hy)
  have hwx : x.flat.map AV.weak = x.flat := by rw [← weak_flat, hxw]
  have hins : flats (insAt xs i x) = flats (xs.take i) ++ (x.flat ++ flats (xs.drop i)) := by simp only [insAt, flats_app, flats_cons']
  have hil := insAt_length (x := x) hi
  refine ⟨hi, hc, by simp only [maxN]; omega, fun off' hoff _ _ _ => ⟨fun hin => ?_, fun hin _ hcm => ⟨fun hgt => ?_, fun hle => ?_⟩⟩⟩
  · obtain rfl : i = xs.length := by omega
    have e1 : flats (xs.take xs.length) = flats xs := by rw [List.take_length]
    have e2 : flats (xs.drop xs.length) = [] := by rw [List.drop_length]; rfl
    rw [e1] at hA hwA hins
    rw [e2, List.append_nil] at hins
    refine ⟨by omega, hx, by simp only [maxN]; omega, by simp only [maxN]; omega, fun k off cap1 he hroom => ?_, fun hroom cap' k hcap' hk => ?_⟩
    · cases he
      refine ⟨_, rfl, rfl, by show _ ≤ (flats xs ++ sp).length; rw [hcell]; omega, _, [], [_], rfl, List.nodup_nil, by simp, .cons ⟨_, rfl, rfl, rfl⟩ .nil, 0, .inl ⟨rfl, rfl⟩, (sp.drop 2).map AV.weak, cap, ?_, ?_, by omega, ?_⟩
      · rw [spl _ _ _ _ _ (by omega) (by omega), hx', hx]
        simp only [List.getElem?_cons_zero, List.map_append, hwA, hwx, hins, List.append_assoc]
      · first | (rw [hil]; done) | (rw [hil]; rfl)
      · rw [List.length_map, List.length_drop, hsp, hil]; omega
    · have hroom' := hroom 0 0 cap rfl
      refine ⟨_, [1], [_, _], rfl, by simp, by simp, .cons ⟨_, rfl, rfl, rfl⟩ (.cons ⟨_, rfl, rfl, rfl⟩ .nil), 1, .inr ⟨rfl, rfl⟩, (List.replicate k AV.undef).map AV.weak, cap', ?_, ?_, by omega, ?_⟩
      · rw [flats_take' hz (Nat.le_refl _), e1, hx']
        simp only [List.getElem?_cons_succ, List.getElem?_cons_zero, List.map_append, hwA, hwx, hins, List.append_assoc]
      · rw [hil]; rfl
      · rw [List.length_map, List.length_replicate, hil, hk]
  · have hi' : i < xs.length := by omega
    refine ⟨Nat.zero_le _, by omega, by simp only [maxN]; omega, fun off1 ho1 => ?_⟩
    obtain rfl : off1 = 0 := by have := ho1 (by omega); omega
    refine ⟨by omega, rfl, by omega, by simp only [maxN]; omega, by simp only [maxN]; omega, fun k off cap1 he => by cases he; omega, fun cap' k hcap' hk => ⟨by omega, hcap', by simp only [maxN]; omega, fun off2 ho2 => ?_⟩⟩
    obtain rfl : off2 = i * 2 := ho2 (by omega)
    have hT : List.take (i * 2) (List.drop 0 (flats xs ++ sp)) = flats (xs.take i) := by rw [List.drop_zero, flats_take' hz hi]
    refine ⟨hx, by rw [hT, List.length_append, hA, List.length_replicate]; omega, ?_⟩
    refine awp_gen [] mixed (by kernel_rfl) ?_
    have hT2 : List.take (i * 2) (flats xs ++ sp) = flats (xs.take i) := flats_take' hz hi sp
    have hX : List.take (min 1 (xs.length + 1 - i) * 2) (flats [x]) = x.flat := by
      rw [hx', List.take_of_length_le]
      have : min 1 (xs.length + 1 - i) = 1 := by omega
      rw [this, hx]; omega
    have hS1 := spl (flats (xs.take i)) (List.replicate k AV.undef) x.flat (i * 2) (i * 2 + x.flat.length) hA.symm rfl
    simp -implicitDefEqProofs only [vcx, tys, reduceIte, reduceCtorEq, Nat.reduceAdd, Nat.reduceLT, Nat.reduceEqDiff, Nat.reduceLeDiff, Nat.reduceSub, Nat.reduceMul, Int.reduceLE, Int.reduceNeg, Int.reduceLT, String.reduceBEq, splice, afill, Nat.reducePow, Nat.reduceBEq, eq_self, forall_exists_index, forall_apply_eq_imp_iff₂, exists_eq_left', ite_true, ite_false, if_true, if_false, ne_eq, forall_const, exists_eq_left, forall_eq, implies_true, id_eq, AV.weak, AV.weak.weakL, aun, isIface, vcd, Try.results79, Try.ntmps79, encI, bound, bnd, bnd2, c1, w1, w2, w3, w4, Int.reduceEq, Nat.sub_zero, Nat.zero_add, Int.toNat_natCast, hT2, hX, hS1]
    refine ⟨hi, by omega, by simp only [maxN]; omega, fun off3 ho3 => ⟨hi, hc, by simp only [maxN]; omega, fun off4 ho4 => ?_⟩⟩
    obtain rfl : off3 = (i + 1) * 2 := ho3 (by omega)
    obtain rfl : off4 = i * 2 := ho4 (by omega)
    have hY : List.take (min (xs.length - i) (xs.length + 1 - (i + 1)) * 2) (List.take ((xs.length - i) * 2) (List.drop (i * 2) (flats xs ++ sp))) = flats (xs.drop i) := by
      rw [flats_drop' hz hi, List.take_left' hB, List.take_of_length_le]
      rw [hB]; exact Nat.mul_le_mul_right _ (by omega)
    have hS2 := spl (flats (xs.take i) ++ x.flat) ((List.replicate k AV.undef).drop x.flat.length) (flats (xs.drop i)) ((i + 1) * 2) ((i + 1) * 2 + (flats (xs.drop i)).length) (by rw [List.length_append, hA, hx]; omega) rfl
    simp only [List.append_assoc] at hS2
    refine ⟨by omega, by simp only [List.length_append, List.length_drop, List.length_replicate, hA, hx]; omega, _, [1], [_, _], rfl, by simp, by simp, .cons ⟨_, rfl, rfl, rfl⟩ (.cons ⟨_, rfl, rfl, rfl⟩ .nil), 1, .inr ⟨rfl, rfl⟩, (((List.replicate k AV.undef).drop x.flat.length).drop (flats (xs.drop i)).length).map AV.weak, cap', ?_, ?_, by omega, ?_⟩
    · simp only [hY, List.append_assoc, hS2]
      simp only [List.getElem?_cons_succ, List.getElem?_cons_zero, List.map_append, hwA, hwB, hwx, hins, List.append_assoc]
    · rw [hil]; rfl
    · rw [List.length_map, List.length_drop, List.length_drop, List.length_replicate, hil, hB, hx, hk]; omega
  · have hi' : i < xs.length := by omega
    have hle' : xs.length + 1 ≤ cap := by omega
    refine ⟨hle', by simp only [maxN]; omega, fun off1 ho1 => ?_⟩
    obtain rfl : off1 = 0 := by have := ho1 (by omega); omega
    refine ⟨hi, hle', by simp only [maxN]; omega, fun off2 ho2 => ?_⟩
    obtain rfl : off2 = (i + 1) * 2 := by have := ho2 (by omega); omega
    refine call_x (ext_overlaps (tb := 4) (i := 0) (bc := ⟨flats xs ++ sp, true⟩) Try.func91 (by kernel_rfl) (by kernel_rfl) (by kernel_rfl) (by kernel_rfl) ty22 rfl ty53 (fun y hy => by rw [List.mem_singleton.1 hy]; exact hx) rfl rfl ?_) ?_
    · show (i + 1) * 2 + (xs.length + 1 - (i + 1)) * 2 ≤ (flats xs ++ sp).length
      rw [hcell, ← Nat.add_mul]; exact Nat.mul_le_mul_right _ (by omega)
    simp -implicitDefEqProofs only [vcx, tys, reduceIte, reduceCtorEq, Nat.reduceAdd, Nat.reduceLT, Nat.reduceEqDiff, Nat.reduceLeDiff, Nat.reduceSub, Nat.reduceMul, Int.reduceLE, Int.reduceNeg, Int.reduceLT, String.reduceBEq, splice, afill, Nat.reducePow, Nat.reduceBEq, eq_self, forall_exists_index, forall_apply_eq_imp_iff₂, exists_eq_left', ite_true, ite_false, if_true, if_false, ne_eq, forall_const, exists_eq_left, forall_eq, implies_true, id_eq, AV.weak, AV.weak.weakL, aun, isIface, Try.results79, Try.ntmps79, encI, bound, bnd, bnd2, c1, w1, w2, w3, w4, Int.reduceEq, Nat.sub_zero, Nat.zero_add, Int.toNat_natCast, Bool.not_false, Bool.not_true]
    refine awp_gen [] mixed (by kernel_rfl) ?_
    simp -implicitDefEqProofs only [vcx, tys, reduceIte, reduceCtorEq, Nat.reduceAdd, Nat.reduceLT, Nat.reduceEqDiff, Nat.reduceLeDiff, Nat.reduceSub, Nat.reduceMul, Int.reduceLE, Int.reduceNeg, Int.reduceLT, String.reduceBEq, splice, afill, Nat.reducePow, Nat.reduceBEq, eq_self, forall_exists_index, forall_apply_eq_imp_iff₂, exists_eq_left', ite_true, ite_false, if_true, if_false, ne_eq, forall_const, exists_eq_left, forall_eq, implies_true, id_eq, AV.weak, AV.weak.weakL, aun, isIface, vcd, Try.results79, Try.ntmps79, encI, bound, bnd, bnd2, c1, w1, w2, w3, w4, Int.reduceEq, Nat.sub_zero, Nat.zero_add, Int.toNat_natCast]
    refine ⟨hi, hle', by simp only [maxN]; omega, fun off3 ho3 => ⟨by omega, hle', by simp only [maxN]; omega, fun off4 ho4 => ?_⟩⟩
    obtain rfl : off3 = (i + 1) * 2 := ho3 (by omega)
    obtain rfl : off4 = i * 2 := ho4 (by omega)
    have hmul : i * 2 + (xs.length + 1 - i) * 2 ≤ cap * 2 := by rw [← Nat.add_mul]; exact Nat.mul_le_mul_right _ (by omega)
    have hmul2 : (i + 1) * 2 + (xs.length + 1 - (i + 1)) * 2 ≤ cap * 2 := by rw [← Nat.add_mul]; exact Nat.mul_le_mul_right _ (by omega)
    refine ⟨by rw [hcell]; exact hmul, by rw [hcell]; exact hmul2, by omega, hle', by simp only [maxN]; omega, fun off5 ho5 => ?_⟩
    obtain rfl : off5 = i * 2 := ho5 (by omega)
    have hY : List.take (min (xs.length + 1 - i) (xs.length + 1 - (i + 1)) * 2) (List.take ((xs.length + 1 - i) * 2) (List.drop (i * 2) (flats xs ++ sp))) = flats (xs.drop i) := by
      have hm : min (xs.length + 1 - i) (xs.length + 1 - (i + 1)) = xs.length - i := by omega
      rw [hm, List.take_take, flats_drop' hz hi, Nat.min_eq_left (Nat.mul_le_mul_right _ (by omega)), List.take_left' hB]
    have hX : List.take (min 1 (xs.length + 1 - i) * 2) (flats [x]) = x.flat := by
      rw [hx', List.take_of_length_le]
      have : min 1 (xs.length + 1 - i) = 1 := by omega
      rw [this, hx]; omega
    have hD : 2 ≤ (flats (xs.drop i) ++ sp).length := by rw [List.length_append, hB]; omega
    have hD1 : ((flats (xs.drop i) ++ sp).take 2).length = 2 := by rw [List.length_take]; omega
    have hcells : flats xs ++ sp = (flats (xs.take i) ++ (flats (xs.drop i) ++ sp).take 2) ++ (flats (xs.drop i) ++ sp).drop 2 := by
      rw [List.append_assoc, List.take_append_drop, ← List.append_assoc, ← flats_split]
    have hS1 : List.take ((i + 1) * 2) (flats xs ++ sp) ++ flats (xs.drop i) ++ List.drop ((i + 1) * 2 + (flats (xs.drop i)).length) (flats xs ++ sp) = flats (xs.take i) ++ ((flats (xs.drop i) ++ sp).take 2 ++ (flats (xs.drop i) ++ ((flats (xs.drop i) ++ sp).drop 2).drop (flats (xs.drop i)).length)) := by
      rw [hcells, spl _ _ _ _ _ (by rw [List.length_append, hA, hD1]; omega) rfl, List.append_assoc]
    have hS2 := spl (flats (xs.take i)) ((flats (xs.drop i) ++ sp).take 2 ++ (flats (xs.drop i) ++ ((flats (xs.drop i) ++ sp).drop 2).drop (flats (xs.drop i)).length)) x.flat (i * 2) (i * 2 + x.flat.length) hA.symm rfl
    have h0 : ∀ Y, ((flats (xs.drop i) ++ sp).take 2 ++ Y).drop x.flat.length = Y := fun Y => by rw [hx, List.drop_left' hD1]
    rw [h0] at hS2
    simp only [hY, hS1, hX, hS2]
    refine ⟨hx, ?_, _, [], [_], rfl, List.nodup_nil, by simp, .cons ⟨_, rfl, rfl, rfl⟩ .nil, 0, .inl ⟨rfl, rfl⟩, (((flats (xs.drop i) ++ sp).drop 2).drop (flats (xs.drop i)).length).map AV.weak, cap, ?_, ?_, by omega, ?_⟩
    · rw [← hS1, hcells]
      simp only [List.length_append, List.length_take, List.length_drop, hA, hB, hD1]
      omega
    · simp only [List.getElem?_cons_zero, List.map_append, hwA, hwB, hwx, hins, List.append_assoc]
    · first | (rw [hil]; done) | (rw [hil]; rfl)
    · rw [List.length_map, List.length_drop, List.length_drop, List.length_append, hB, hsp, hil]; omega
end Go.Proofs.Ytlcajocjiehplaa
