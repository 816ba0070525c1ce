/- view, trefoilref16: the small functions. -/
import Derived.Test.YtlcajocjiehplaaZzTy
import Derived.Test.YtlcajocjiehplaaZzSet
set_option linter.unusedVariables false
set_option linter.unusedSimpArgs false
set_option maxRecDepth 10000
namespace Go.Proofs.Ytlcajocjiehplaa
open Go Go.Abs
theorem mixed : Try.prog.follows .mixedOrders = true := by rfl
structure Mem where
  node : Int
  n : Int
  deriving DecidableEq
structure Cop where
  key : ByteArray
  n : Int
  m : Int
  deriving DecidableEq
structure View where
  ms : List Mem
  cs : List Cop
def encM (m : Mem) : AV := .agg [.lit (.int .i64 m.node), .lit (.int .u64 m.n)]
def encC (c : Cop) : AV := .agg [.lit (.string c.key), .lit (.int .u64 c.n), .lit (.int .u64 c.m)]
def encV (v : View) : AV := .agg [.sl .no (v.ms.map encM), .sl .no (v.cs.map encC)]

theorem isNaN_ok (n : Int) : Abs.Pure Try.prog 86 [.lit (.int .i64 n)] (.lit (.bool false)) := by
  refine Pure.intro Try.func86 rfl rfl fun S0 w0 => vc_sound _ ?_
  simp -implicitDefEqProofs only [vcx, tys, reduceIte, reduceCtorEq, Nat.reduceAdd, Nat.reduceLT, Nat.reduceEqDiff, Nat.reduceLeDiff, Nat.reduceSub, Nat.reduceMul, Int.reduceLE, Int.reduceNeg, Int.reduceLT, String.reduceBEq, splice, afill, Nat.reducePow, Nat.reduceBEq, eq_self, forall_exists_index, forall_apply_eq_imp_iff₂, exists_eq_left', ite_true, ite_false, if_true, if_false, ne_eq, forall_const, exists_eq_left, forall_eq, implies_true, id_eq, AV.weak, AV.weak.weakL, aun, isIface, Try.results86, Try.ntmps86]
theorem compare_ok (x y : Int) : Abs.Pure Try.prog 72 [.lit (.int .i64 x), .lit (.int .i64 y)] (.lit (.int .i64 (cmpI x y))) := by
  refine Pure.intro Try.func72 rfl rfl fun S0 w0 => vc_sound _ ?_
  simp -implicitDefEqProofs only [vcx, tys, reduceIte, reduceCtorEq, Nat.reduceAdd, Nat.reduceLT, Nat.reduceEqDiff, Nat.reduceLeDiff, Nat.reduceSub, Nat.reduceMul, Int.reduceLE, Int.reduceNeg, Int.reduceLT, String.reduceBEq, splice, afill, Nat.reducePow, Nat.reduceBEq, eq_self, forall_exists_index, forall_apply_eq_imp_iff₂, exists_eq_left', ite_true, ite_false, if_true, if_false, ne_eq, forall_const, exists_eq_left, forall_eq, implies_true, id_eq, AV.weak, AV.weak.weakL, aun, isIface, Try.results72, Try.ntmps72]
  refine call_p (isNaN_ok _) rfl ?_
  simp -implicitDefEqProofs only [vcx, tys, reduceIte, reduceCtorEq, Nat.reduceAdd, Nat.reduceLT, Nat.reduceEqDiff, Nat.reduceLeDiff, Nat.reduceSub, Nat.reduceMul, Int.reduceLE, Int.reduceNeg, Int.reduceLT, String.reduceBEq, splice, afill, Nat.reducePow, Nat.reduceBEq, eq_self, forall_exists_index, forall_apply_eq_imp_iff₂, exists_eq_left', ite_true, ite_false, if_true, if_false, ne_eq, forall_const, exists_eq_left, forall_eq, implies_true, id_eq, AV.weak, AV.weak.weakL, aun, isIface, Try.results72, Try.ntmps72]
  refine call_p (isNaN_ok _) rfl ?_
  simp -implicitDefEqProofs only [vcx, tys, reduceIte, reduceCtorEq, Nat.reduceAdd, Nat.reduceLT, Nat.reduceEqDiff, Nat.reduceLeDiff, Nat.reduceSub, Nat.reduceMul, Int.reduceLE, Int.reduceNeg, Int.reduceLT, String.reduceBEq, splice, afill, Nat.reducePow, Nat.reduceBEq, eq_self, forall_exists_index, forall_apply_eq_imp_iff₂, exists_eq_left', ite_true, ite_false, if_true, if_false, ne_eq, forall_const, exists_eq_left, forall_eq, implies_true, id_eq, AV.weak, AV.weak.weakL, aun, isIface, Try.results72, Try.ntmps72]
  refine ⟨fun h => ?_, fun h => ⟨fun h' => ?_, fun h' => ?_⟩⟩ <;> unfold cmpI
  · rw [if_pos h]
  · rw [if_neg (by omega), if_pos h']
  · rw [if_neg (by omega), if_neg (by omega)]
theorem isNaNu_ok (n : Int) : Abs.Pure Try.prog 77 [.lit (.int .u64 n)] (.lit (.bool false)) := by
  refine Pure.intro Try.func77 rfl rfl fun S0 w0 => vc_sound _ ?_
  simp -implicitDefEqProofs only [vcx, tys, reduceIte, reduceCtorEq, Nat.reduceAdd, Nat.reduceLT, Nat.reduceEqDiff, Nat.reduceLeDiff, Nat.reduceSub, Nat.reduceMul, Int.reduceLE, Int.reduceNeg, Int.reduceLT, String.reduceBEq, splice, afill, Nat.reducePow, Nat.reduceBEq, eq_self, forall_exists_index, forall_apply_eq_imp_iff₂, exists_eq_left', ite_true, ite_false, if_true, if_false, ne_eq, forall_const, exists_eq_left, forall_eq, implies_true, id_eq, AV.weak, AV.weak.weakL, aun, isIface, Try.results77, Try.ntmps77]
theorem compareu_ok (x y : Int) : Abs.Pure Try.prog 52 [.lit (.int .u64 x), .lit (.int .u64 y)] (.lit (.int .i64 (cmpI x y))) := by
  refine Pure.intro Try.func52 rfl rfl fun S0 w0 => vc_sound _ ?_
  simp -implicitDefEqProofs only [vcx, tys, reduceIte, reduceCtorEq, Nat.reduceAdd, Nat.reduceLT, Nat.reduceEqDiff, Nat.reduceLeDiff, Nat.reduceSub, Nat.reduceMul, Int.reduceLE, Int.reduceNeg, Int.reduceLT, String.reduceBEq, splice, afill, Nat.reducePow, Nat.reduceBEq, eq_self, forall_exists_index, forall_apply_eq_imp_iff₂, exists_eq_left', ite_true, ite_false, if_true, if_false, ne_eq, forall_const, exists_eq_left, forall_eq, implies_true, id_eq, AV.weak, AV.weak.weakL, aun, isIface, Try.results52, Try.ntmps52]
  refine call_p (isNaNu_ok _) rfl ?_
  simp -implicitDefEqProofs only [vcx, tys, reduceIte, reduceCtorEq, Nat.reduceAdd, Nat.reduceLT, Nat.reduceEqDiff, Nat.reduceLeDiff, Nat.reduceSub, Nat.reduceMul, Int.reduceLE, Int.reduceNeg, Int.reduceLT, String.reduceBEq, splice, afill, Nat.reducePow, Nat.reduceBEq, eq_self, forall_exists_index, forall_apply_eq_imp_iff₂, exists_eq_left', ite_true, ite_false, if_true, if_false, ne_eq, forall_const, exists_eq_left, forall_eq, implies_true, id_eq, AV.weak, AV.weak.weakL, aun, isIface, Try.results52, Try.ntmps52]
  refine call_p (isNaNu_ok _) rfl ?_
  simp -implicitDefEqProofs only [vcx, tys, reduceIte, reduceCtorEq, Nat.reduceAdd, Nat.reduceLT, Nat.reduceEqDiff, Nat.reduceLeDiff, Nat.reduceSub, Nat.reduceMul, Int.reduceLE, Int.reduceNeg, Int.reduceLT, String.reduceBEq, splice, afill, Nat.reducePow, Nat.reduceBEq, eq_self, forall_exists_index, forall_apply_eq_imp_iff₂, exists_eq_left', ite_true, ite_false, if_true, if_false, ne_eq, forall_const, exists_eq_left, forall_eq, implies_true, id_eq, AV.weak, AV.weak.weakL, aun, isIface, Try.results52, Try.ntmps52]
  refine ⟨fun h => ?_, fun h => ⟨fun h' => ?_, fun h' => ?_⟩⟩ <;> unfold cmpI
  · rw [if_pos h]
  · rw [if_neg (by omega), if_pos h']
  · rw [if_neg (by omega), if_neg (by omega)]
theorem byNode_ok (x y : Mem) : Abs.Pure Try.prog 44 [encM x, encM y] (.lit (.int .i64 (cmpI x.node y.node))) := by
  refine Pure.intro Try.func44 rfl rfl fun S0 w0 => vc_sound _ ?_
  simp -implicitDefEqProofs only [vcx, tys, reduceIte, reduceCtorEq, Nat.reduceAdd, Nat.reduceLT, Nat.reduceEqDiff, Nat.reduceLeDiff, Nat.reduceSub, Nat.reduceMul, Int.reduceLE, Int.reduceNeg, Int.reduceLT, String.reduceBEq, splice, afill, Nat.reducePow, Nat.reduceBEq, eq_self, forall_exists_index, forall_apply_eq_imp_iff₂, exists_eq_left', ite_true, ite_false, if_true, if_false, ne_eq, forall_const, exists_eq_left, forall_eq, implies_true, id_eq, AV.weak, AV.weak.weakL, aun, isIface, Try.results44, Try.ntmps44, encM]
  refine call_p (compare_ok _ _) rfl ?_
  simp -implicitDefEqProofs only [vcx, tys, reduceIte, reduceCtorEq, Nat.reduceAdd, Nat.reduceLT, Nat.reduceEqDiff, Nat.reduceLeDiff, Nat.reduceSub, Nat.reduceMul, Int.reduceLE, Int.reduceNeg, Int.reduceLT, String.reduceBEq, splice, afill, Nat.reducePow, Nat.reduceBEq, eq_self, forall_exists_index, forall_apply_eq_imp_iff₂, exists_eq_left', ite_true, ite_false, if_true, if_false, ne_eq, forall_const, exists_eq_left, forall_eq, implies_true, id_eq, AV.weak, AV.weak.weakL, aun, isIface, Try.results44, Try.ntmps44, encM]
def orI : List Int → Int
  | [] => 0
  | x :: l => if x = 0 then orI l else x
theorem cmpOr_ok (l : List Int) : Abs.Pure Try.prog 51 [.sl .no (l.map encI)] (encI (orI l)) := by
  refine Pure.intro Try.func51 rfl rfl fun S0 w0 => vc_sound _ ?_
  simp -implicitDefEqProofs only [vcx, tys, reduceIte, reduceCtorEq, Nat.reduceAdd, Nat.reduceLT, Nat.reduceEqDiff, Nat.reduceLeDiff, Nat.reduceSub, Nat.reduceMul, Int.reduceLE, Int.reduceNeg, Int.reduceLT, String.reduceBEq, splice, afill, Nat.reducePow, Nat.reduceBEq, eq_self, forall_exists_index, forall_apply_eq_imp_iff₂, exists_eq_left', ite_true, ite_false, if_true, if_false, ne_eq, forall_const, exists_eq_left, forall_eq, implies_true, id_eq, AV.weak, AV.weak.weakL, aun, isIface, Try.results51, Try.ntmps51, encI]
  intro hlen
  refine awp_loop (fun m σ => ∃ i : Nat, m + i = l.length ∧ orI l = orI (l.drop i) ∧ ∃ e, σ = Sta.mk e 18 [] [] [] false ∧ e 6 = .sl .no (l.map encI) ∧ e 7 = encI l.length ∧ e 8 = encI i ∧ e 3 = encI 0) (m := l.length) ?_ ?_
  · refine ⟨0, rfl, rfl, _, rfl, ?_, ?_, ?_, ?_⟩ <;> simp -implicitDefEqProofs only [vcx, tys, reduceIte, reduceCtorEq, Nat.reduceAdd, Nat.reduceLT, Nat.reduceEqDiff, Nat.reduceLeDiff, Nat.reduceSub, Nat.reduceMul, Int.reduceLE, Int.reduceNeg, Int.reduceLT, String.reduceBEq, splice, afill, Nat.reducePow, Nat.reduceBEq, eq_self, forall_exists_index, forall_apply_eq_imp_iff₂, exists_eq_left', ite_true, ite_false, if_true, if_false, ne_eq, forall_const, exists_eq_left, forall_eq, implies_true, id_eq, AV.weak, AV.weak.weakL, aun, isIface] <;> rfl
  · rintro m σ ⟨i, hm, hh, e, rfl, e6, e7, e8, e3⟩
    refine vc_sound _ ?_
    simp -implicitDefEqProofs only [vcx, tys, reduceIte, reduceCtorEq, Nat.reduceAdd, Nat.reduceLT, Nat.reduceEqDiff, Nat.reduceLeDiff, Nat.reduceSub, Nat.reduceMul, Int.reduceLE, Int.reduceNeg, Int.reduceLT, String.reduceBEq, splice, afill, Nat.reducePow, Nat.reduceBEq, eq_self, forall_exists_index, forall_apply_eq_imp_iff₂, exists_eq_left', ite_true, ite_false, if_true, if_false, ne_eq, forall_const, exists_eq_left, forall_eq, implies_true, id_eq, AV.weak, AV.weak.weakL, aun, isIface, Try.results51, e6, e7, e8, e3, encI]
    refine ⟨fun hlt => ⟨by omega, hlt, fun a ha => ?_⟩, fun hge => ?_⟩
    · have hd := drop_at ha
      refine ⟨fun h => ?_, fun h => ⟨m - 1, by omega, i + 1, by omega, ?_, _, rfl, ?_, ?_, ?_, ?_⟩⟩
      · rw [hh, hd]; simp [orI, h]
      · rw [hh, hd]; have h : a = 0 := by omega
        simp [orI, h]
      · simp -implicitDefEqProofs only [vcx, tys, reduceIte, reduceCtorEq, Nat.reduceAdd, Nat.reduceLT, Nat.reduceEqDiff, Nat.reduceLeDiff, Nat.reduceSub, Nat.reduceMul, Int.reduceLE, Int.reduceNeg, Int.reduceLT, String.reduceBEq, splice, afill, Nat.reducePow, Nat.reduceBEq, eq_self, forall_exists_index, forall_apply_eq_imp_iff₂, exists_eq_left', ite_true, ite_false, if_true, if_false, ne_eq, forall_const, exists_eq_left, forall_eq, implies_true, id_eq, AV.weak, AV.weak.weakL, aun, isIface, e6]; try rfl
      · simp -implicitDefEqProofs only [vcx, tys, reduceIte, reduceCtorEq, Nat.reduceAdd, Nat.reduceLT, Nat.reduceEqDiff, Nat.reduceLeDiff, Nat.reduceSub, Nat.reduceMul, Int.reduceLE, Int.reduceNeg, Int.reduceLT, String.reduceBEq, splice, afill, Nat.reducePow, Nat.reduceBEq, eq_self, forall_exists_index, forall_apply_eq_imp_iff₂, exists_eq_left', ite_true, ite_false, if_true, if_false, ne_eq, forall_const, exists_eq_left, forall_eq, implies_true, id_eq, AV.weak, AV.weak.weakL, aun, isIface, e7]; try rfl
      · simp -implicitDefEqProofs only [vcx, tys, reduceIte, reduceCtorEq, Nat.reduceAdd, Nat.reduceLT, Nat.reduceEqDiff, Nat.reduceLeDiff, Nat.reduceSub, Nat.reduceMul, Int.reduceLE, Int.reduceNeg, Int.reduceLT, String.reduceBEq, splice, afill, Nat.reducePow, Nat.reduceBEq, eq_self, forall_exists_index, forall_apply_eq_imp_iff₂, exists_eq_left', ite_true, ite_false, if_true, if_false, ne_eq, forall_const, exists_eq_left, forall_eq, implies_true, id_eq, AV.weak, AV.weak.weakL, aun, isIface]; rw [wrap_i64 (by simp only [maxN] at hlen; omega) (by simp only [maxN] at hlen; omega)]; rfl
      · simp -implicitDefEqProofs only [vcx, tys, reduceIte, reduceCtorEq, Nat.reduceAdd, Nat.reduceLT, Nat.reduceEqDiff, Nat.reduceLeDiff, Nat.reduceSub, Nat.reduceMul, Int.reduceLE, Int.reduceNeg, Int.reduceLT, String.reduceBEq, splice, afill, Nat.reducePow, Nat.reduceBEq, eq_self, forall_exists_index, forall_apply_eq_imp_iff₂, exists_eq_left', ite_true, ite_false, if_true, if_false, ne_eq, forall_const, exists_eq_left, forall_eq, implies_true, id_eq, AV.weak, AV.weak.weakL, aun, isIface, e3]; try rfl
    · rw [hh, List.drop_of_length_le (by omega)]; rfl
end Go.Proofs.Ytlcajocjiehplaa
