/- view.Join, Turn, find, Of, Set. -/
import Derived.Test.YtlcajocjiehplaaZzV10
set_option linter.unusedVariables false
set_option linter.unusedSimpArgs false
set_option maxRecDepth 10000
namespace Go.Proofs.Ytlcajocjiehplaa
open Go Go.Abs
def byNodeF (x y : Mem) : Int := cmpI x.node y.node
def byKeyF (x y : Cop) : Int := cmpS x.key y.key
def joinV (a b : View) : View := ⟨mergeF byNodeF bothM a.ms b.ms, (mergeF byKeyF bothC a.cs b.cs).take 40⟩
theorem mergeF_length {α : Type} (cmp : α → α → Int) (both : α → α → α) : ∀ (b a : List α), (mergeF cmp both a b).length ≤ a.length + b.length
  | [], a => by simp [mergeF]
  | x :: b, a => by
    have h1 := mergeF_length cmp both b (mStep cmp both a x)
    have h2 := mStep_length cmp both a x
    have h3 : mergeF cmp both a (x :: b) = mergeF cmp both (mStep cmp both a x) b := rfl
    rw [h3, List.length_cons]; omega
theorem bnd1 (k : Nat) : (if (0 : Int) ≤ (k : Int) then some (k : Int).toNat else none) = some k := by simp
theorem join_ok (a b : View) (hm : (a.ms.length + b.ms.length) * 32 ≤ maxN) (hc : (a.cs.length + b.cs.length) * 32 ≤ maxN) : Abs.Pure Try.prog 16 [encV a, encV b] (encV (joinV a b)) := by
  refine Pure.intro Try.func16 rfl rfl fun S0 w0 => vc_sound _ ?_
  simp only [maxN] at hm hc
  simp -implicitDefEqProofs only [vcx, tys, reduceIte, reduceCtorEq, Nat.reduceAdd, Nat.reduceLT, Nat.reduceEqDiff, Nat.reduceLeDiff, Nat.reduceSub, Nat.reduceMul, Int.reduceLE, Int.reduceNeg, Int.reduceLT, String.reduceBEq, splice, afill, Nat.reducePow, Nat.reduceBEq, eq_self, forall_exists_index, forall_apply_eq_imp_iff₂, exists_eq_left', ite_true, ite_false, if_true, if_false, ne_eq, forall_const, exists_eq_left, forall_eq, implies_true, id_eq, AV.weak, AV.weak.weakL, aun, isIface, Try.results16, Try.ntmps16, encV]
  refine call_p (mergeC_ok 49 50 byKeyF bothC byKey_ok joinC_ok a.cs b.cs (by simp only [maxN]; omega)) rfl ?_
  simp -implicitDefEqProofs only [vcx, tys, reduceIte, reduceCtorEq, Nat.reduceAdd, Nat.reduceLT, Nat.reduceEqDiff, Nat.reduceLeDiff, Nat.reduceSub, Nat.reduceMul, Int.reduceLE, Int.reduceNeg, Int.reduceLT, String.reduceBEq, splice, afill, Nat.reducePow, Nat.reduceBEq, eq_self, forall_exists_index, forall_apply_eq_imp_iff₂, exists_eq_left', ite_true, ite_false, if_true, if_false, ne_eq, forall_const, exists_eq_left, forall_eq, implies_true, id_eq, AV.weak, AV.weak.weakL, aun, isIface, Try.results16, Try.ntmps16]
  refine awp_gen [] mixed (by kernel_rfl) ?_
  simp -implicitDefEqProofs only [vcx, tys, reduceIte, reduceCtorEq, Nat.reduceAdd, Nat.reduceLT, Nat.reduceEqDiff, Nat.reduceLeDiff, Nat.reduceSub, Nat.reduceMul, Int.reduceLE, Int.reduceNeg, Int.reduceLT, String.reduceBEq, splice, afill, Nat.reducePow, Nat.reduceBEq, eq_self, forall_exists_index, forall_apply_eq_imp_iff₂, exists_eq_left', ite_true, ite_false, if_true, if_false, ne_eq, forall_const, exists_eq_left, forall_eq, implies_true, id_eq, AV.weak, AV.weak.weakL, aun, isIface, vcd, Try.results16, Try.ntmps16]
  refine dcall_p (mergeM_ok 44 54 byNodeF bothM byNode_ok joinM_ok a.ms b.ms (by simp only [maxN]; omega)) rfl ?_
  have hg : gmin ((mergeF byKeyF bothC a.cs b.cs).length : Int) 40 = ((min (mergeF byKeyF bothC a.cs b.cs).length 40 : Nat) : Int) := by unfold gmin; split <;> omega
  simp -implicitDefEqProofs only [vcx, tys, reduceIte, reduceCtorEq, Nat.reduceAdd, Nat.reduceLT, Nat.reduceEqDiff, Nat.reduceLeDiff, Nat.reduceSub, Nat.reduceMul, Int.reduceLE, Int.reduceNeg, Int.reduceLT, String.reduceBEq, splice, afill, Nat.reducePow, Nat.reduceBEq, eq_self, forall_exists_index, forall_apply_eq_imp_iff₂, exists_eq_left', ite_true, ite_false, if_true, if_false, ne_eq, forall_const, exists_eq_left, forall_eq, implies_true, id_eq, AV.weak, AV.weak.weakL, aun, isIface, vcd, Try.results16, Try.ntmps16, hg, bound, bnd1]
  refine ⟨Nat.zero_le _, by omega, fun y hy => flatC _ [y] (by simp), ?_⟩
  simp only [joinV, encV, Nat.sub_zero, ← List.map_take]
  rw [show List.take (min (mergeF byKeyF bothC a.cs b.cs).length 40) (mergeF byKeyF bothC a.cs b.cs) = List.take 40 (mergeF byKeyF bothC a.cs b.cs) from by rw [List.take_eq_take_iff]; omega]
theorem cloneC_ok (l : List Cop) (hb : l.length * 32 ≤ maxN) : Abs.Pure Try.prog 58 [.sl .no (l.map encC)] (.sl .no (l.map encC)) := by
  refine Pure.intro Try.func58 rfl rfl fun S0 w0 => vc_sound _ ?_
  rcases l with _ | ⟨c, l⟩
  · simp -implicitDefEqProofs only [vcx, tys, reduceIte, reduceCtorEq, Nat.reduceAdd, Nat.reduceLT, Nat.reduceEqDiff, Nat.reduceLeDiff, Nat.reduceSub, Nat.reduceMul, Int.reduceLE, Int.reduceNeg, Int.reduceLT, String.reduceBEq, splice, afill, Nat.reducePow, Nat.reduceBEq, eq_self, forall_exists_index, forall_apply_eq_imp_iff₂, exists_eq_left', ite_true, ite_false, if_true, if_false, ne_eq, forall_const, exists_eq_left, forall_eq, implies_true, id_eq, AV.weak, AV.weak.weakL, aun, isIface, Try.results58, Try.ntmps58]
    exact ⟨by simp, own_full, by simp, by simp, Nat.zero_le _⟩
  · simp -implicitDefEqProofs only [vcx, tys, reduceIte, reduceCtorEq, Nat.reduceAdd, Nat.reduceLT, Nat.reduceEqDiff, Nat.reduceLeDiff, Nat.reduceSub, Nat.reduceMul, Int.reduceLE, Int.reduceNeg, Int.reduceLT, String.reduceBEq, splice, afill, Nat.reducePow, Nat.reduceBEq, eq_self, forall_exists_index, forall_apply_eq_imp_iff₂, exists_eq_left', ite_true, ite_false, if_true, if_false, ne_eq, forall_const, exists_eq_left, forall_eq, implies_true, id_eq, AV.weak, AV.weak.weakL, aun, isIface, Try.results58, Try.ntmps58]
    simp only [List.length_cons] at hb
    exact ⟨by simp, own_full, by simp, fun y hy => flatC y (c :: l) hy, by simp only [maxN] at hb ⊢; omega, by simp only [maxN] at hb ⊢; omega⟩
theorem cloneM_ok (l : List Mem) (hb : l.length * 16 ≤ maxN) : Abs.Pure Try.prog 60 [.sl .no (l.map encM)] (.sl .no (l.map encM)) := by
  refine Pure.intro Try.func60 rfl rfl fun S0 w0 => vc_sound _ ?_
  rcases l with _ | ⟨c, l⟩
  · simp -implicitDefEqProofs only [vcx, tys, reduceIte, reduceCtorEq, Nat.reduceAdd, Nat.reduceLT, Nat.reduceEqDiff, Nat.reduceLeDiff, Nat.reduceSub, Nat.reduceMul, Int.reduceLE, Int.reduceNeg, Int.reduceLT, String.reduceBEq, splice, afill, Nat.reducePow, Nat.reduceBEq, eq_self, forall_exists_index, forall_apply_eq_imp_iff₂, exists_eq_left', ite_true, ite_false, if_true, if_false, ne_eq, forall_const, exists_eq_left, forall_eq, implies_true, id_eq, AV.weak, AV.weak.weakL, aun, isIface, Try.results60, Try.ntmps60]
    exact ⟨by simp, own_full, by simp, by simp, Nat.zero_le _⟩
  · simp -implicitDefEqProofs only [vcx, tys, reduceIte, reduceCtorEq, Nat.reduceAdd, Nat.reduceLT, Nat.reduceEqDiff, Nat.reduceLeDiff, Nat.reduceSub, Nat.reduceMul, Int.reduceLE, Int.reduceNeg, Int.reduceLT, String.reduceBEq, splice, afill, Nat.reducePow, Nat.reduceBEq, eq_self, forall_exists_index, forall_apply_eq_imp_iff₂, exists_eq_left', ite_true, ite_false, if_true, if_false, ne_eq, forall_const, exists_eq_left, forall_eq, implies_true, id_eq, AV.weak, AV.weak.weakL, aun, isIface, Try.results60, Try.ntmps60]
    simp only [List.length_cons] at hb
    exact ⟨by simp, own_full, by simp, fun y hy => flatM y (c :: l) hy, by simp only [maxN] at hb ⊢; omega, by simp only [maxN] at hb ⊢; omega⟩
def findC (l : List Cop) (key : ByteArray) : Option Cop :=
  match l[bsPos l (fun c => cmpS c.key key)]? with
  | some c => if c.key = key then some c else none
  | none => none
def encF : Option Cop → AV
  | some c => .tup [encC c, encB true]
  | none => .tup [encC ⟨ByteArray.empty, 0, 0⟩, encB false]
theorem find_ok (v : View) (key : ByteArray) : Abs.Pure Try.prog 59 [encV v, encS key] (encF (findC v.cs key)) := by
  refine Pure.intro Try.func59 rfl rfl fun S0 w0 => vc_sound _ ?_
  simp -implicitDefEqProofs only [vcx, tys, reduceIte, reduceCtorEq, Nat.reduceAdd, Nat.reduceLT, Nat.reduceEqDiff, Nat.reduceLeDiff, Nat.reduceSub, Nat.reduceMul, Int.reduceLE, Int.reduceNeg, Int.reduceLT, String.reduceBEq, splice, afill, Nat.reducePow, Nat.reduceBEq, eq_self, forall_exists_index, forall_apply_eq_imp_iff₂, exists_eq_left', ite_true, ite_false, if_true, if_false, ne_eq, forall_const, exists_eq_left, forall_eq, implies_true, id_eq, AV.weak, AV.weak.weakL, aun, isIface, Try.results59, Try.ntmps59, encV, encS]
  refine call_p (bsearchC_ok 49 v.cs ⟨key, 0, 0⟩ (fun c => cmpS c.key key) (fun y => byKey_ok y _)) rfl ?_
  simp -implicitDefEqProofs only [vcx, tys, reduceIte, reduceCtorEq, Nat.reduceAdd, Nat.reduceLT, Nat.reduceEqDiff, Nat.reduceLeDiff, Nat.reduceSub, Nat.reduceMul, Int.reduceLE, Int.reduceNeg, Int.reduceLT, String.reduceBEq, splice, afill, Nat.reducePow, Nat.reduceBEq, eq_self, forall_exists_index, forall_apply_eq_imp_iff₂, exists_eq_left', ite_true, ite_false, if_true, if_false, ne_eq, forall_const, exists_eq_left, forall_eq, implies_true, id_eq, AV.weak, AV.weak.weakL, aun, isIface, Try.results59, Try.ntmps59, encI, encB, encC, encF, findC, Int.toNat_natCast]
  refine ⟨fun h => ?_, fun h => ⟨by omega, ?_, fun a ha => ?_⟩⟩
  · simp only [bsHit, atB] at h
    split <;> rename_i c hc
    · split at hc
      · rename_i y hy
        rw [hy] at h
        split at hc
        · rename_i hk; simp [cmpS_eq, hk] at h
        · cases hc
      · cases hc
    · rfl
  · simp only [bsHit, atB] at h
    rcases Nat.lt_or_ge (bsPos v.cs fun c => cmpS c.key key) v.cs.length with hl | hl
    · omega
    · rw [List.getElem?_eq_none hl] at h; simp at h
  · simp only [bsHit, atB, ha] at h
    have hk : a.key = key := by simpa [cmpS_eq] using h
    simp [ha, hk, encC, encB, AV.weak, AV.weak.weakL]
def ofP (v : View) (key : ByteArray) : Int :=
  match findC v.cs key with
  | some c => IntKind.i64.wrap c.m
  | none => 2
theorem of_ok (v : View) (key : ByteArray) : Abs.Pure Try.prog 23 [encV v, encS key] (encI (ofP v key)) := by
  refine Pure.intro Try.func23 rfl rfl fun S0 w0 => vc_sound _ ?_
  simp -implicitDefEqProofs only [vcx, tys, reduceIte, reduceCtorEq, Nat.reduceAdd, Nat.reduceLT, Nat.reduceEqDiff, Nat.reduceLeDiff, Nat.reduceSub, Nat.reduceMul, Int.reduceLE, Int.reduceNeg, Int.reduceLT, String.reduceBEq, splice, afill, Nat.reducePow, Nat.reduceBEq, eq_self, forall_exists_index, forall_apply_eq_imp_iff₂, exists_eq_left', ite_true, ite_false, if_true, if_false, ne_eq, forall_const, exists_eq_left, forall_eq, implies_true, id_eq, AV.weak, AV.weak.weakL, aun, isIface, Try.results23, Try.ntmps23, encV, encS]
  refine call_p (find_ok v key) rfl ?_
  cases hf : findC v.cs key with
  | none =>
    simp -implicitDefEqProofs only [vcx, tys, reduceIte, reduceCtorEq, Nat.reduceAdd, Nat.reduceLT, Nat.reduceEqDiff, Nat.reduceLeDiff, Nat.reduceSub, Nat.reduceMul, Int.reduceLE, Int.reduceNeg, Int.reduceLT, String.reduceBEq, splice, afill, Nat.reducePow, Nat.reduceBEq, eq_self, forall_exists_index, forall_apply_eq_imp_iff₂, exists_eq_left', ite_true, ite_false, if_true, if_false, ne_eq, forall_const, exists_eq_left, forall_eq, implies_true, id_eq, AV.weak, AV.weak.weakL, aun, isIface, Try.results23, Try.ntmps23, encF, encC, encB, ofP, hf, Bool.not_true, Bool.not_false, encI]
  | some c =>
    simp -implicitDefEqProofs only [vcx, tys, reduceIte, reduceCtorEq, Nat.reduceAdd, Nat.reduceLT, Nat.reduceEqDiff, Nat.reduceLeDiff, Nat.reduceSub, Nat.reduceMul, Int.reduceLE, Int.reduceNeg, Int.reduceLT, String.reduceBEq, splice, afill, Nat.reducePow, Nat.reduceBEq, eq_self, forall_exists_index, forall_apply_eq_imp_iff₂, exists_eq_left', ite_true, ite_false, if_true, if_false, ne_eq, forall_const, exists_eq_left, forall_eq, implies_true, id_eq, AV.weak, AV.weak.weakL, aun, isIface, Try.results23, Try.ntmps23, encF, encC, encB, ofP, hf, Bool.not_true, Bool.not_false, encI]
def turnV (v : View) (node : Int) : View := if node < 0 ∨ 4 ≤ node then v else ⟨mergeF byNodeF turnM v.ms [⟨node, 1⟩], v.cs⟩
theorem turn_ok (v : View) (node : Int) (hm : (v.ms.length + 1) * 32 ≤ maxN) (hc : v.cs.length * 32 ≤ maxN) : Abs.Pure Try.prog 21 [encV v, encI node] (encV (turnV v node)) := by
  refine Pure.intro Try.func21 rfl rfl fun S0 w0 => vc_sound _ ?_
  simp only [maxN] at hm hc
  simp -implicitDefEqProofs only [vcx, tys, reduceIte, reduceCtorEq, Nat.reduceAdd, Nat.reduceLT, Nat.reduceEqDiff, Nat.reduceLeDiff, Nat.reduceSub, Nat.reduceMul, Int.reduceLE, Int.reduceNeg, Int.reduceLT, String.reduceBEq, splice, afill, Nat.reducePow, Nat.reduceBEq, eq_self, forall_exists_index, forall_apply_eq_imp_iff₂, exists_eq_left', ite_true, ite_false, if_true, if_false, ne_eq, forall_const, exists_eq_left, forall_eq, implies_true, id_eq, AV.weak, AV.weak.weakL, aun, isIface, Try.results21, Try.ntmps21, encV, encI]
  refine gif_split (fun h => ?_) (fun h => ?_)
  · have h' : node < 0 := by simpa using h
    simp -implicitDefEqProofs only [vcx, tys, reduceIte, reduceCtorEq, Nat.reduceAdd, Nat.reduceLT, Nat.reduceEqDiff, Nat.reduceLeDiff, Nat.reduceSub, Nat.reduceMul, Int.reduceLE, Int.reduceNeg, Int.reduceLT, String.reduceBEq, splice, afill, Nat.reducePow, Nat.reduceBEq, eq_self, forall_exists_index, forall_apply_eq_imp_iff₂, exists_eq_left', ite_true, ite_false, if_true, if_false, ne_eq, forall_const, exists_eq_left, forall_eq, implies_true, id_eq, AV.weak, AV.weak.weakL, aun, isIface, Try.results21, Try.ntmps21, h]
    simp [turnV, h', encV]
  · have h' : ¬ node < 0 := by simpa using h
    simp -implicitDefEqProofs only [vcx, tys, reduceIte, reduceCtorEq, Nat.reduceAdd, Nat.reduceLT, Nat.reduceEqDiff, Nat.reduceLeDiff, Nat.reduceSub, Nat.reduceMul, Int.reduceLE, Int.reduceNeg, Int.reduceLT, String.reduceBEq, splice, afill, Nat.reducePow, Nat.reduceBEq, eq_self, forall_exists_index, forall_apply_eq_imp_iff₂, exists_eq_left', ite_true, ite_false, if_true, if_false, ne_eq, forall_const, exists_eq_left, forall_eq, implies_true, id_eq, AV.weak, AV.weak.weakL, aun, isIface, Try.results21, Try.ntmps21, h]
    refine ⟨fun h2 => ?_, fun h2 => ?_⟩
    · simp [turnV, h2, encV]
    · refine awp_gen [] mixed (by kernel_rfl) ?_
      simp -implicitDefEqProofs only [vcx, tys, reduceIte, reduceCtorEq, Nat.reduceAdd, Nat.reduceLT, Nat.reduceEqDiff, Nat.reduceLeDiff, Nat.reduceSub, Nat.reduceMul, Int.reduceLE, Int.reduceNeg, Int.reduceLT, String.reduceBEq, splice, afill, Nat.reducePow, Nat.reduceBEq, eq_self, forall_exists_index, forall_apply_eq_imp_iff₂, exists_eq_left', ite_true, ite_false, if_true, if_false, ne_eq, forall_const, exists_eq_left, forall_eq, implies_true, id_eq, AV.weak, AV.weak.weakL, aun, isIface, vcd, Try.results21, Try.ntmps21]
      refine dcall_p (mergeM_ok 44 57 byNodeF turnM byNode_ok turnM_ok v.ms [⟨node, 1⟩] (by simp only [maxN, List.length_singleton]; omega)) rfl ?_
      simp -implicitDefEqProofs only [vcx, tys, reduceIte, reduceCtorEq, Nat.reduceAdd, Nat.reduceLT, Nat.reduceEqDiff, Nat.reduceLeDiff, Nat.reduceSub, Nat.reduceMul, Int.reduceLE, Int.reduceNeg, Int.reduceLT, String.reduceBEq, splice, afill, Nat.reducePow, Nat.reduceBEq, eq_self, forall_exists_index, forall_apply_eq_imp_iff₂, exists_eq_left', ite_true, ite_false, if_true, if_false, ne_eq, forall_const, exists_eq_left, forall_eq, implies_true, id_eq, AV.weak, AV.weak.weakL, aun, isIface, vcd, Try.results21, Try.ntmps21]
      refine dcall_p (cloneC_ok v.cs (by simp only [maxN]; omega)) rfl ?_
      simp -implicitDefEqProofs only [vcx, tys, reduceIte, reduceCtorEq, Nat.reduceAdd, Nat.reduceLT, Nat.reduceEqDiff, Nat.reduceLeDiff, Nat.reduceSub, Nat.reduceMul, Int.reduceLE, Int.reduceNeg, Int.reduceLT, String.reduceBEq, splice, afill, Nat.reducePow, Nat.reduceBEq, eq_self, forall_exists_index, forall_apply_eq_imp_iff₂, exists_eq_left', ite_true, ite_false, if_true, if_false, ne_eq, forall_const, exists_eq_left, forall_eq, implies_true, id_eq, AV.weak, AV.weak.weakL, aun, isIface, vcd, Try.results21, Try.ntmps21]
      rw [turnV, if_neg (by omega)]
def setN (n : Int) : Int := IntKind.u64.wrap (gmin (gmax n 1) 3)
def setV (v : View) (key : ByteArray) (n : Int) : View :=
  if key = ByteArray.empty ∨ 8 < key.size ∨ findC v.cs key = none ∧ 40 ≤ v.cs.length then v else
  ⟨v.ms, mergeF byKeyF setC v.cs [⟨key, IntKind.u64.wrap ((match findC v.cs key with | some c => c.n | none => 0) + 1), setN n⟩]⟩
theorem set_ok (v : View) (key : ByteArray) (n : Int) (hm : v.ms.length * 32 ≤ maxN) (hc : (v.cs.length + 1) * 32 ≤ maxN) : Abs.Pure Try.prog 25 [encV v, encS key, encI n] (encV (setV v key n)) := by
  refine Pure.intro Try.func25 rfl rfl fun S0 w0 => vc_sound _ ?_
  simp only [maxN] at hm hc
  simp -implicitDefEqProofs only [vcx, tys, reduceIte, reduceCtorEq, Nat.reduceAdd, Nat.reduceLT, Nat.reduceEqDiff, Nat.reduceLeDiff, Nat.reduceSub, Nat.reduceMul, Int.reduceLE, Int.reduceNeg, Int.reduceLT, String.reduceBEq, splice, afill, Nat.reducePow, Nat.reduceBEq, eq_self, forall_exists_index, forall_apply_eq_imp_iff₂, exists_eq_left', ite_true, ite_false, if_true, if_false, ne_eq, forall_const, exists_eq_left, forall_eq, implies_true, id_eq, AV.weak, AV.weak.weakL, aun, isIface, Try.results25, Try.ntmps25, encV, encS, encI]
  refine call_p (find_ok v key) rfl ?_
  obtain ⟨c, b, hcb, hcn, hb⟩ : ∃ c b, encF (findC v.cs key) = .tup [encC c, encB b] ∧ c.n = (match findC v.cs key with | some c => c.n | none => 0) ∧ b = (findC v.cs key).isSome := by
    cases findC v.cs key with
    | none => exact ⟨⟨ByteArray.empty, 0, 0⟩, false, rfl, rfl, rfl⟩
    | some c => exact ⟨c, true, rfl, rfl, rfl⟩
  have hke : ∀ k : ByteArray, (k.toList == (ByteArray.mk #[]).toList) = decide (k = ByteArray.empty) := fun k => bytes_beq k _
  simp -implicitDefEqProofs only [vcx, tys, reduceIte, reduceCtorEq, Nat.reduceAdd, Nat.reduceLT, Nat.reduceEqDiff, Nat.reduceLeDiff, Nat.reduceSub, Nat.reduceMul, Int.reduceLE, Int.reduceNeg, Int.reduceLT, String.reduceBEq, splice, afill, Nat.reducePow, Nat.reduceBEq, eq_self, forall_exists_index, forall_apply_eq_imp_iff₂, exists_eq_left', ite_true, ite_false, if_true, if_false, ne_eq, forall_const, exists_eq_left, forall_eq, implies_true, id_eq, AV.weak, AV.weak.weakL, aun, isIface, Try.results25, Try.ntmps25, hcb, encC, encB, hke]
  cases h1 : decide (key = ByteArray.empty)
  rotate_left
  · have h1' : key = ByteArray.empty := by simpa using h1
    simp -implicitDefEqProofs only [vcx, tys, reduceIte, reduceCtorEq, Nat.reduceAdd, Nat.reduceLT, Nat.reduceEqDiff, Nat.reduceLeDiff, Nat.reduceSub, Nat.reduceMul, Int.reduceLE, Int.reduceNeg, Int.reduceLT, String.reduceBEq, splice, afill, Nat.reducePow, Nat.reduceBEq, eq_self, forall_exists_index, forall_apply_eq_imp_iff₂, exists_eq_left', ite_true, ite_false, if_true, if_false, ne_eq, forall_const, exists_eq_left, forall_eq, implies_true, id_eq, AV.weak, AV.weak.weakL, aun, isIface, Try.results25]
    simp [setV, h1']
  have h1' : ¬ key = ByteArray.empty := by simpa using h1
  simp -implicitDefEqProofs only [vcx, tys, reduceIte, reduceCtorEq, Nat.reduceAdd, Nat.reduceLT, Nat.reduceEqDiff, Nat.reduceLeDiff, Nat.reduceSub, Nat.reduceMul, Int.reduceLE, Int.reduceNeg, Int.reduceLT, String.reduceBEq, splice, afill, Nat.reducePow, Nat.reduceBEq, eq_self, forall_exists_index, forall_apply_eq_imp_iff₂, exists_eq_left', ite_true, ite_false, if_true, if_false, ne_eq, forall_const, exists_eq_left, forall_eq, implies_true, id_eq, AV.weak, AV.weak.weakL, aun, isIface, Try.results25]
  intro hks
  cases h2 : decide ((8 : Int) < key.size)
  rotate_left
  · have h2' : 8 < key.size := by have : (8 : Int) < key.size := by simpa using h2
                                  omega
    simp -implicitDefEqProofs only [vcx, tys, reduceIte, reduceCtorEq, Nat.reduceAdd, Nat.reduceLT, Nat.reduceEqDiff, Nat.reduceLeDiff, Nat.reduceSub, Nat.reduceMul, Int.reduceLE, Int.reduceNeg, Int.reduceLT, String.reduceBEq, splice, afill, Nat.reducePow, Nat.reduceBEq, eq_self, forall_exists_index, forall_apply_eq_imp_iff₂, exists_eq_left', ite_true, ite_false, if_true, if_false, ne_eq, forall_const, exists_eq_left, forall_eq, implies_true, id_eq, AV.weak, AV.weak.weakL, aun, isIface, Try.results25]
    simp [setV, h2']
  have h2' : ¬ 8 < key.size := by have : ¬ (8 : Int) < key.size := by simpa using h2
                                  omega
  simp -implicitDefEqProofs only [vcx, tys, reduceIte, reduceCtorEq, Nat.reduceAdd, Nat.reduceLT, Nat.reduceEqDiff, Nat.reduceLeDiff, Nat.reduceSub, Nat.reduceMul, Int.reduceLE, Int.reduceNeg, Int.reduceLT, String.reduceBEq, splice, afill, Nat.reducePow, Nat.reduceBEq, eq_self, forall_exists_index, forall_apply_eq_imp_iff₂, exists_eq_left', ite_true, ite_false, if_true, if_false, ne_eq, forall_const, exists_eq_left, forall_eq, implies_true, id_eq, AV.weak, AV.weak.weakL, aun, isIface, Try.results25]
  have hset : (key = ByteArray.empty ∨ 8 < key.size ∨ findC v.cs key = none ∧ 40 ≤ v.cs.length) ↔ (b = false ∧ 40 ≤ v.cs.length) := by
    rw [hb]; cases findC v.cs key <;> simp [h1', h2']
  have fin : ¬ (b = false ∧ 40 ≤ v.cs.length) → setV v key n = ⟨v.ms, mergeF byKeyF setC v.cs [⟨key, IntKind.u64.wrap (c.n + 1), setN n⟩]⟩ := fun h => by
    rw [setV, if_neg (fun hh => h (hset.1 hh)), hcn]
  have go : ∀ (σ : Sta), True := fun _ => trivial
  cases b with
  | false =>
    simp -implicitDefEqProofs only [vcx, tys, reduceIte, reduceCtorEq, Nat.reduceAdd, Nat.reduceLT, Nat.reduceEqDiff, Nat.reduceLeDiff, Nat.reduceSub, Nat.reduceMul, Int.reduceLE, Int.reduceNeg, Int.reduceLT, String.reduceBEq, splice, afill, Nat.reducePow, Nat.reduceBEq, eq_self, forall_exists_index, forall_apply_eq_imp_iff₂, exists_eq_left', ite_true, ite_false, if_true, if_false, ne_eq, forall_const, exists_eq_left, forall_eq, implies_true, id_eq, AV.weak, AV.weak.weakL, aun, isIface, Try.results25, Bool.not_false]
    intro hcl
    refine ⟨fun h3 => ?_, fun h3 => ?_⟩
    · have : 40 ≤ v.cs.length := by omega
      rw [setV, if_pos (hset.2 ⟨rfl, this⟩)]
    · refine awp_gen [] mixed (by kernel_rfl) ?_
      simp -implicitDefEqProofs only [vcx, tys, reduceIte, reduceCtorEq, Nat.reduceAdd, Nat.reduceLT, Nat.reduceEqDiff, Nat.reduceLeDiff, Nat.reduceSub, Nat.reduceMul, Int.reduceLE, Int.reduceNeg, Int.reduceLT, String.reduceBEq, splice, afill, Nat.reducePow, Nat.reduceBEq, eq_self, forall_exists_index, forall_apply_eq_imp_iff₂, exists_eq_left', ite_true, ite_false, if_true, if_false, ne_eq, forall_const, exists_eq_left, forall_eq, implies_true, id_eq, AV.weak, AV.weak.weakL, aun, isIface, vcd, Try.results25, Try.ntmps25]
      refine dcall_p (cloneM_ok v.ms (by simp only [maxN]; omega)) rfl ?_
      simp -implicitDefEqProofs only [vcx, tys, reduceIte, reduceCtorEq, Nat.reduceAdd, Nat.reduceLT, Nat.reduceEqDiff, Nat.reduceLeDiff, Nat.reduceSub, Nat.reduceMul, Int.reduceLE, Int.reduceNeg, Int.reduceLT, String.reduceBEq, splice, afill, Nat.reducePow, Nat.reduceBEq, eq_self, forall_exists_index, forall_apply_eq_imp_iff₂, exists_eq_left', ite_true, ite_false, if_true, if_false, ne_eq, forall_const, exists_eq_left, forall_eq, implies_true, id_eq, AV.weak, AV.weak.weakL, aun, isIface, vcd, Try.results25, Try.ntmps25]
      refine dcall_p (mergeC_ok 49 61 byKeyF setC byKey_ok setC_ok v.cs [⟨key, IntKind.u64.wrap (c.n + 1), setN n⟩] (by simp only [maxN, List.length_singleton]; omega)) rfl ?_
      simp -implicitDefEqProofs only [vcx, tys, reduceIte, reduceCtorEq, Nat.reduceAdd, Nat.reduceLT, Nat.reduceEqDiff, Nat.reduceLeDiff, Nat.reduceSub, Nat.reduceMul, Int.reduceLE, Int.reduceNeg, Int.reduceLT, String.reduceBEq, splice, afill, Nat.reducePow, Nat.reduceBEq, eq_self, forall_exists_index, forall_apply_eq_imp_iff₂, exists_eq_left', ite_true, ite_false, if_true, if_false, ne_eq, forall_const, exists_eq_left, forall_eq, implies_true, id_eq, AV.weak, AV.weak.weakL, aun, isIface, vcd, Try.results25, Try.ntmps25]
      rw [fin (by omega)]
  | true =>
    simp -implicitDefEqProofs only [vcx, tys, reduceIte, reduceCtorEq, Nat.reduceAdd, Nat.reduceLT, Nat.reduceEqDiff, Nat.reduceLeDiff, Nat.reduceSub, Nat.reduceMul, Int.reduceLE, Int.reduceNeg, Int.reduceLT, String.reduceBEq, splice, afill, Nat.reducePow, Nat.reduceBEq, eq_self, forall_exists_index, forall_apply_eq_imp_iff₂, exists_eq_left', ite_true, ite_false, if_true, if_false, ne_eq, forall_const, exists_eq_left, forall_eq, implies_true, id_eq, AV.weak, AV.weak.weakL, aun, isIface, Try.results25, Bool.not_true]
    refine awp_gen [] mixed (by kernel_rfl) ?_
    simp -implicitDefEqProofs only [vcx, tys, reduceIte, reduceCtorEq, Nat.reduceAdd, Nat.reduceLT, Nat.reduceEqDiff, Nat.reduceLeDiff, Nat.reduceSub, Nat.reduceMul, Int.reduceLE, Int.reduceNeg, Int.reduceLT, String.reduceBEq, splice, afill, Nat.reducePow, Nat.reduceBEq, eq_self, forall_exists_index, forall_apply_eq_imp_iff₂, exists_eq_left', ite_true, ite_false, if_true, if_false, ne_eq, forall_const, exists_eq_left, forall_eq, implies_true, id_eq, AV.weak, AV.weak.weakL, aun, isIface, vcd, Try.results25, Try.ntmps25]
    refine dcall_p (cloneM_ok v.ms (by simp only [maxN]; omega)) rfl ?_
    simp -implicitDefEqProofs only [vcx, tys, reduceIte, reduceCtorEq, Nat.reduceAdd, Nat.reduceLT, Nat.reduceEqDiff, Nat.reduceLeDiff, Nat.reduceSub, Nat.reduceMul, Int.reduceLE, Int.reduceNeg, Int.reduceLT, String.reduceBEq, splice, afill, Nat.reducePow, Nat.reduceBEq, eq_self, forall_exists_index, forall_apply_eq_imp_iff₂, exists_eq_left', ite_true, ite_false, if_true, if_false, ne_eq, forall_const, exists_eq_left, forall_eq, implies_true, id_eq, AV.weak, AV.weak.weakL, aun, isIface, vcd, Try.results25, Try.ntmps25]
    refine dcall_p (mergeC_ok 49 61 byKeyF setC byKey_ok setC_ok v.cs [⟨key, IntKind.u64.wrap (c.n + 1), setN n⟩] (by simp only [maxN, List.length_singleton]; omega)) rfl ?_
    simp -implicitDefEqProofs only [vcx, tys, reduceIte, reduceCtorEq, Nat.reduceAdd, Nat.reduceLT, Nat.reduceEqDiff, Nat.reduceLeDiff, Nat.reduceSub, Nat.reduceMul, Int.reduceLE, Int.reduceNeg, Int.reduceLT, String.reduceBEq, splice, afill, Nat.reducePow, Nat.reduceBEq, eq_self, forall_exists_index, forall_apply_eq_imp_iff₂, exists_eq_left', ite_true, ite_false, if_true, if_false, ne_eq, forall_const, exists_eq_left, forall_eq, implies_true, id_eq, AV.weak, AV.weak.weakL, aun, isIface, vcd, Try.results25, Try.ntmps25]
    rw [fin (by simp)]
end Go.Proofs.Ytlcajocjiehplaa
