/- trefoillaw17.known. -/
import Derived.Test.YtlcajocjiehplaaZzV17
set_option linter.unusedVariables false
set_option linter.unusedSimpArgs false
set_option maxRecDepth 10000
set_option maxHeartbeats 1000000
namespace Go.Proofs.Ytlcajocjiehplaa
open Go Go.Abs
def m1 : ByteArray := ⟨#[109, 49]⟩
def k1 : View := firstV 2
def k2 : View := turnV k1 1
def k3 : View := setV k1 m1 3
def k4 : View := joinV k2 k3
theorem known_facts : isP k1 = true ∧ (inF k1).length = 2 ∧ (inF k2).length = 1 ∧ ofP k3 m1 = 3 ∧ ofP k1 m1 = 2 ∧ (inF k4).length = 1 ∧ ofP k4 m1 = 3 ∧ sameV k4 (joinV k3 k2) = true ∧ sameV k1 k2 = false ∧ isP ⟨[⟨9, 1⟩], []⟩ = false := by decide +kernel
theorem known_ok : Abs.Pure Try.prog 8 [] (encB true) := by
  obtain ⟨f1, f2, f3, f4, f5, f6, f7, f8, f9, f10⟩ := known_facts
  have c1 : Abs.Pure Try.prog 13 [encI 2] (encV k1) := first_ok 2
  have c2 : Abs.Pure Try.prog 21 [encV k1, encI 1] (encV k2) := turn_ok k1 1 (by decide +kernel) (by decide +kernel)
  have c3 : Abs.Pure Try.prog 25 [encV k1, encS m1, encI 3] (encV k3) := set_ok k1 m1 3 (by decide +kernel) (by decide +kernel)
  have c4 : Abs.Pure Try.prog 16 [encV k2, encV k3] (encV k4) := join_ok k2 k3 (by decide +kernel) (by decide +kernel)
  have c5 : Abs.Pure Try.prog 9 [encV k1] (encB true) := by
    have := is_ok k1 (by decide +kernel); rwa [f1] at this
  have c6 : Abs.Pure Try.prog 19 [encV k1] (.sl .no ((inF k1).map encI)) := in_ok k1 (by decide +kernel)
  have c7 : Abs.Pure Try.prog 19 [encV k2] (.sl .no ((inF k2).map encI)) := in_ok k2 (by decide +kernel)
  have c8 : Abs.Pure Try.prog 23 [encV k3, encS m1] (encI 3) := by have := of_ok k3 m1; rwa [f4] at this
  have c9 : Abs.Pure Try.prog 23 [encV k1, encS m1] (encI 2) := by have := of_ok k1 m1; rwa [f5] at this
  have c10 : Abs.Pure Try.prog 19 [encV k4] (.sl .no ((inF k4).map encI)) := in_ok k4 (by decide +kernel)
  have c11 : Abs.Pure Try.prog 23 [encV k4, encS m1] (encI 3) := by have := of_ok k4 m1; rwa [f7] at this
  have c12 : Abs.Pure Try.prog 16 [encV k3, encV k2] (encV (joinV k3 k2)) := join_ok k3 k2 (by decide +kernel) (by decide +kernel)
  have c13 : Abs.Pure Try.prog 11 [encV k4, encV (joinV k3 k2)] (encB true) := by have := same_ok k4 (joinV k3 k2); rwa [f8] at this
  have c14 : Abs.Pure Try.prog 11 [encV k1, encV k2] (encB false) := by have := same_ok k1 k2; rwa [f9] at this
  have c15 : Abs.Pure Try.prog 9 [encV ⟨[⟨9, 1⟩], []⟩] (encB false) := by
    have := is_ok ⟨[⟨9, 1⟩], []⟩ (by decide +kernel); rwa [f10] at this
  have f2' : ((inF k1).length : Int) = 2 := by rw [f2]; rfl
  have f3' : ((inF k2).length : Int) = 1 := by rw [f3]; rfl
  have f6' : ((inF k4).length : Int) = 1 := by rw [f6]; rfl
  refine Pure.intro Try.func8 rfl rfl fun S0 w0 => vc_sound _ ?_
  simp -implicitDefEqProofs only [vcx, tys, reduceIte, reduceCtorEq, Nat.reduceAdd, Nat.reduceLT, Nat.reduceEqDiff, Nat.reduceLeDiff, Nat.reduceSub, Nat.reduceMul, Int.reduceLE, Int.reduceNeg, Int.reduceLT, String.reduceBEq, splice, afill, Nat.reducePow, Nat.reduceBEq, eq_self, forall_exists_index, forall_apply_eq_imp_iff₂, exists_eq_left', ite_true, ite_false, if_true, if_false, ne_eq, forall_const, exists_eq_left, forall_eq, implies_true, id_eq, AV.weak, AV.weak.weakL, aun, isIface, Try.results8, Try.ntmps8]
  refine call_p (c1) rfl ?_
  try simp -implicitDefEqProofs only [vcx, tys, reduceIte, reduceCtorEq, Nat.reduceAdd, Nat.reduceLT, Nat.reduceEqDiff, Nat.reduceLeDiff, Nat.reduceSub, Nat.reduceMul, Int.reduceLE, Int.reduceNeg, Int.reduceLT, String.reduceBEq, splice, afill, Nat.reducePow, Nat.reduceBEq, eq_self, forall_exists_index, forall_apply_eq_imp_iff₂, exists_eq_left', ite_true, ite_false, if_true, if_false, ne_eq, forall_const, exists_eq_left, forall_eq, implies_true, id_eq, AV.weak, AV.weak.weakL, aun, isIface, vcd, Try.results8, Try.ntmps8, encV, encI, encS, encB, f2', f3', f6', List.length_map, decide_true, decide_false, Bool.not_true, Bool.not_false]
  refine call_p (c2) rfl ?_
  try simp -implicitDefEqProofs only [vcx, tys, reduceIte, reduceCtorEq, Nat.reduceAdd, Nat.reduceLT, Nat.reduceEqDiff, Nat.reduceLeDiff, Nat.reduceSub, Nat.reduceMul, Int.reduceLE, Int.reduceNeg, Int.reduceLT, String.reduceBEq, splice, afill, Nat.reducePow, Nat.reduceBEq, eq_self, forall_exists_index, forall_apply_eq_imp_iff₂, exists_eq_left', ite_true, ite_false, if_true, if_false, ne_eq, forall_const, exists_eq_left, forall_eq, implies_true, id_eq, AV.weak, AV.weak.weakL, aun, isIface, vcd, Try.results8, Try.ntmps8, encV, encI, encS, encB, f2', f3', f6', List.length_map, decide_true, decide_false, Bool.not_true, Bool.not_false]
  refine call_p (c3) rfl ?_
  try simp -implicitDefEqProofs only [vcx, tys, reduceIte, reduceCtorEq, Nat.reduceAdd, Nat.reduceLT, Nat.reduceEqDiff, Nat.reduceLeDiff, Nat.reduceSub, Nat.reduceMul, Int.reduceLE, Int.reduceNeg, Int.reduceLT, String.reduceBEq, splice, afill, Nat.reducePow, Nat.reduceBEq, eq_self, forall_exists_index, forall_apply_eq_imp_iff₂, exists_eq_left', ite_true, ite_false, if_true, if_false, ne_eq, forall_const, exists_eq_left, forall_eq, implies_true, id_eq, AV.weak, AV.weak.weakL, aun, isIface, vcd, Try.results8, Try.ntmps8, encV, encI, encS, encB, f2', f3', f6', List.length_map, decide_true, decide_false, Bool.not_true, Bool.not_false]
  refine call_p (c4) rfl ?_
  try simp -implicitDefEqProofs only [vcx, tys, reduceIte, reduceCtorEq, Nat.reduceAdd, Nat.reduceLT, Nat.reduceEqDiff, Nat.reduceLeDiff, Nat.reduceSub, Nat.reduceMul, Int.reduceLE, Int.reduceNeg, Int.reduceLT, String.reduceBEq, splice, afill, Nat.reducePow, Nat.reduceBEq, eq_self, forall_exists_index, forall_apply_eq_imp_iff₂, exists_eq_left', ite_true, ite_false, if_true, if_false, ne_eq, forall_const, exists_eq_left, forall_eq, implies_true, id_eq, AV.weak, AV.weak.weakL, aun, isIface, vcd, Try.results8, Try.ntmps8, encV, encI, encS, encB, f2', f3', f6', List.length_map, decide_true, decide_false, Bool.not_true, Bool.not_false]
  refine awp_gen [] mixed (by kernel_rfl) ?_
  simp -implicitDefEqProofs (maxSteps := 5000000) only [vcx, tys, reduceIte, reduceCtorEq, Nat.reduceAdd, Nat.reduceLT, Nat.reduceEqDiff, Nat.reduceLeDiff, Nat.reduceSub, Nat.reduceMul, Int.reduceLE, Int.reduceNeg, Int.reduceLT, String.reduceBEq, splice, afill, Nat.reducePow, Nat.reduceBEq, eq_self, forall_exists_index, forall_apply_eq_imp_iff₂, exists_eq_left', ite_true, ite_false, if_true, if_false, ne_eq, forall_const, exists_eq_left, forall_eq, implies_true, id_eq, AV.weak, AV.weak.weakL, aun, isIface, vcd, Try.results8, Try.ntmps8, encV, encI, encS, encB, f2', f3', f6', List.length_map, decide_true, decide_false, Bool.not_true, Bool.not_false]
  refine dcall_p (c5) rfl ?_
  try simp -implicitDefEqProofs (maxSteps := 5000000) only [vcx, tys, reduceIte, reduceCtorEq, Nat.reduceAdd, Nat.reduceLT, Nat.reduceEqDiff, Nat.reduceLeDiff, Nat.reduceSub, Nat.reduceMul, Int.reduceLE, Int.reduceNeg, Int.reduceLT, String.reduceBEq, splice, afill, Nat.reducePow, Nat.reduceBEq, eq_self, forall_exists_index, forall_apply_eq_imp_iff₂, exists_eq_left', ite_true, ite_false, if_true, if_false, ne_eq, forall_const, exists_eq_left, forall_eq, implies_true, id_eq, AV.weak, AV.weak.weakL, aun, isIface, vcd, Try.results8, Try.ntmps8, encV, encI, encS, encB, f2', f3', f6', List.length_map, decide_true, decide_false, Bool.not_true, Bool.not_false]
  refine dcall_p (c6) rfl ?_
  try simp -implicitDefEqProofs (maxSteps := 5000000) only [vcx, tys, reduceIte, reduceCtorEq, Nat.reduceAdd, Nat.reduceLT, Nat.reduceEqDiff, Nat.reduceLeDiff, Nat.reduceSub, Nat.reduceMul, Int.reduceLE, Int.reduceNeg, Int.reduceLT, String.reduceBEq, splice, afill, Nat.reducePow, Nat.reduceBEq, eq_self, forall_exists_index, forall_apply_eq_imp_iff₂, exists_eq_left', ite_true, ite_false, if_true, if_false, ne_eq, forall_const, exists_eq_left, forall_eq, implies_true, id_eq, AV.weak, AV.weak.weakL, aun, isIface, vcd, Try.results8, Try.ntmps8, encV, encI, encS, encB, f2', f3', f6', List.length_map, decide_true, decide_false, Bool.not_true, Bool.not_false]
  refine dcall_p (c7) rfl ?_
  try simp -implicitDefEqProofs (maxSteps := 5000000) only [vcx, tys, reduceIte, reduceCtorEq, Nat.reduceAdd, Nat.reduceLT, Nat.reduceEqDiff, Nat.reduceLeDiff, Nat.reduceSub, Nat.reduceMul, Int.reduceLE, Int.reduceNeg, Int.reduceLT, String.reduceBEq, splice, afill, Nat.reducePow, Nat.reduceBEq, eq_self, forall_exists_index, forall_apply_eq_imp_iff₂, exists_eq_left', ite_true, ite_false, if_true, if_false, ne_eq, forall_const, exists_eq_left, forall_eq, implies_true, id_eq, AV.weak, AV.weak.weakL, aun, isIface, vcd, Try.results8, Try.ntmps8, encV, encI, encS, encB, f2', f3', f6', List.length_map, decide_true, decide_false, Bool.not_true, Bool.not_false]
  refine dcall_p (c8) rfl ?_
  try simp -implicitDefEqProofs (maxSteps := 5000000) only [vcx, tys, reduceIte, reduceCtorEq, Nat.reduceAdd, Nat.reduceLT, Nat.reduceEqDiff, Nat.reduceLeDiff, Nat.reduceSub, Nat.reduceMul, Int.reduceLE, Int.reduceNeg, Int.reduceLT, String.reduceBEq, splice, afill, Nat.reducePow, Nat.reduceBEq, eq_self, forall_exists_index, forall_apply_eq_imp_iff₂, exists_eq_left', ite_true, ite_false, if_true, if_false, ne_eq, forall_const, exists_eq_left, forall_eq, implies_true, id_eq, AV.weak, AV.weak.weakL, aun, isIface, vcd, Try.results8, Try.ntmps8, encV, encI, encS, encB, f2', f3', f6', List.length_map, decide_true, decide_false, Bool.not_true, Bool.not_false]
  refine dcall_p (c9) rfl ?_
  try simp -implicitDefEqProofs (maxSteps := 5000000) only [vcx, tys, reduceIte, reduceCtorEq, Nat.reduceAdd, Nat.reduceLT, Nat.reduceEqDiff, Nat.reduceLeDiff, Nat.reduceSub, Nat.reduceMul, Int.reduceLE, Int.reduceNeg, Int.reduceLT, String.reduceBEq, splice, afill, Nat.reducePow, Nat.reduceBEq, eq_self, forall_exists_index, forall_apply_eq_imp_iff₂, exists_eq_left', ite_true, ite_false, if_true, if_false, ne_eq, forall_const, exists_eq_left, forall_eq, implies_true, id_eq, AV.weak, AV.weak.weakL, aun, isIface, vcd, Try.results8, Try.ntmps8, encV, encI, encS, encB, f2', f3', f6', List.length_map, decide_true, decide_false, Bool.not_true, Bool.not_false]
  refine dcall_p (c10) rfl ?_
  try simp -implicitDefEqProofs (maxSteps := 5000000) only [vcx, tys, reduceIte, reduceCtorEq, Nat.reduceAdd, Nat.reduceLT, Nat.reduceEqDiff, Nat.reduceLeDiff, Nat.reduceSub, Nat.reduceMul, Int.reduceLE, Int.reduceNeg, Int.reduceLT, String.reduceBEq, splice, afill, Nat.reducePow, Nat.reduceBEq, eq_self, forall_exists_index, forall_apply_eq_imp_iff₂, exists_eq_left', ite_true, ite_false, if_true, if_false, ne_eq, forall_const, exists_eq_left, forall_eq, implies_true, id_eq, AV.weak, AV.weak.weakL, aun, isIface, vcd, Try.results8, Try.ntmps8, encV, encI, encS, encB, f2', f3', f6', List.length_map, decide_true, decide_false, Bool.not_true, Bool.not_false]
  refine dcall_p (c11) rfl ?_
  try simp -implicitDefEqProofs (maxSteps := 5000000) only [vcx, tys, reduceIte, reduceCtorEq, Nat.reduceAdd, Nat.reduceLT, Nat.reduceEqDiff, Nat.reduceLeDiff, Nat.reduceSub, Nat.reduceMul, Int.reduceLE, Int.reduceNeg, Int.reduceLT, String.reduceBEq, splice, afill, Nat.reducePow, Nat.reduceBEq, eq_self, forall_exists_index, forall_apply_eq_imp_iff₂, exists_eq_left', ite_true, ite_false, if_true, if_false, ne_eq, forall_const, exists_eq_left, forall_eq, implies_true, id_eq, AV.weak, AV.weak.weakL, aun, isIface, vcd, Try.results8, Try.ntmps8, encV, encI, encS, encB, f2', f3', f6', List.length_map, decide_true, decide_false, Bool.not_true, Bool.not_false]
  refine dcall_p (c12) rfl ?_
  try simp -implicitDefEqProofs (maxSteps := 5000000) only [vcx, tys, reduceIte, reduceCtorEq, Nat.reduceAdd, Nat.reduceLT, Nat.reduceEqDiff, Nat.reduceLeDiff, Nat.reduceSub, Nat.reduceMul, Int.reduceLE, Int.reduceNeg, Int.reduceLT, String.reduceBEq, splice, afill, Nat.reducePow, Nat.reduceBEq, eq_self, forall_exists_index, forall_apply_eq_imp_iff₂, exists_eq_left', ite_true, ite_false, if_true, if_false, ne_eq, forall_const, exists_eq_left, forall_eq, implies_true, id_eq, AV.weak, AV.weak.weakL, aun, isIface, vcd, Try.results8, Try.ntmps8, encV, encI, encS, encB, f2', f3', f6', List.length_map, decide_true, decide_false, Bool.not_true, Bool.not_false]
  refine dcall_p (c13) rfl ?_
  try simp -implicitDefEqProofs (maxSteps := 5000000) only [vcx, tys, reduceIte, reduceCtorEq, Nat.reduceAdd, Nat.reduceLT, Nat.reduceEqDiff, Nat.reduceLeDiff, Nat.reduceSub, Nat.reduceMul, Int.reduceLE, Int.reduceNeg, Int.reduceLT, String.reduceBEq, splice, afill, Nat.reducePow, Nat.reduceBEq, eq_self, forall_exists_index, forall_apply_eq_imp_iff₂, exists_eq_left', ite_true, ite_false, if_true, if_false, ne_eq, forall_const, exists_eq_left, forall_eq, implies_true, id_eq, AV.weak, AV.weak.weakL, aun, isIface, vcd, Try.results8, Try.ntmps8, encV, encI, encS, encB, f2', f3', f6', List.length_map, decide_true, decide_false, Bool.not_true, Bool.not_false]
  refine dcall_p (c14) rfl ?_
  try simp -implicitDefEqProofs (maxSteps := 5000000) only [vcx, tys, reduceIte, reduceCtorEq, Nat.reduceAdd, Nat.reduceLT, Nat.reduceEqDiff, Nat.reduceLeDiff, Nat.reduceSub, Nat.reduceMul, Int.reduceLE, Int.reduceNeg, Int.reduceLT, String.reduceBEq, splice, afill, Nat.reducePow, Nat.reduceBEq, eq_self, forall_exists_index, forall_apply_eq_imp_iff₂, exists_eq_left', ite_true, ite_false, if_true, if_false, ne_eq, forall_const, exists_eq_left, forall_eq, implies_true, id_eq, AV.weak, AV.weak.weakL, aun, isIface, vcd, Try.results8, Try.ntmps8, encV, encI, encS, encB, f2', f3', f6', List.length_map, decide_true, decide_false, Bool.not_true, Bool.not_false]
  refine dcall_p (c15) rfl ?_
  try simp -implicitDefEqProofs (maxSteps := 5000000) only [vcx, tys, reduceIte, reduceCtorEq, Nat.reduceAdd, Nat.reduceLT, Nat.reduceEqDiff, Nat.reduceLeDiff, Nat.reduceSub, Nat.reduceMul, Int.reduceLE, Int.reduceNeg, Int.reduceLT, String.reduceBEq, splice, afill, Nat.reducePow, Nat.reduceBEq, eq_self, forall_exists_index, forall_apply_eq_imp_iff₂, exists_eq_left', ite_true, ite_false, if_true, if_false, ne_eq, forall_const, exists_eq_left, forall_eq, implies_true, id_eq, AV.weak, AV.weak.weakL, aun, isIface, vcd, Try.results8, Try.ntmps8, encV, encI, encS, encB, f2', f3', f6', List.length_map, decide_true, decide_false, Bool.not_true, Bool.not_false]
  trace_state
end Go.Proofs.Ytlcajocjiehplaa
