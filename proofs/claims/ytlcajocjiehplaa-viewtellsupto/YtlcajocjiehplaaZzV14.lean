/- trefoilref16.Set, IsView. -/
import Derived.Test.YtlcajocjiehplaaZzV13
set_option linter.unusedVariables false
set_option linter.unusedSimpArgs false
set_option maxRecDepth 10000
set_option maxHeartbeats 1000000
namespace Go.Proofs.Ytlcajocjiehplaa
open Go Go.Abs
def lastC (l : List Cop) (key : ByteArray) : Int := l.foldl (fun n x => if x.key = key then x.n else n) 0
def setM (n : Int) : Int := IntKind.u64.wrap (gmax 1 (gmin n 3))
def setR (v : View) (key : ByteArray) (n : Int) : View :=
  if key.size < 1 ∨ 8 < key.size ∨ lastC v.cs key = 0 ∧ 40 ≤ v.cs.length then v else ⟨v.ms, copiesR v.cs ⟨key, IntKind.u64.wrap (lastC v.cs key + 1), setM n⟩⟩
theorem setR_ok (v : View) (key : ByteArray) (n : Int) (hm : v.cs.length + 1 ≤ 4398046511104) : Abs.Pure Try.prog 26 [encV v, encS key, encI n] (encV (setR v key n)) := by
  refine Pure.intro Try.func26 rfl rfl fun S0 w0 => vc_sound _ ?_
  simp -implicitDefEqProofs only [vcx, tys, reduceIte, reduceCtorEq, Nat.reduceAdd, Nat.reduceLT, Nat.reduceEqDiff, Nat.reduceLeDiff, Nat.reduceSub, Nat.reduceMul, Int.reduceLE, Int.reduceNeg, Int.reduceLT, String.reduceBEq, splice, afill, Nat.reducePow, Nat.reduceBEq, eq_self, forall_exists_index, forall_apply_eq_imp_iff₂, exists_eq_left', ite_true, ite_false, if_true, if_false, ne_eq, forall_const, exists_eq_left, forall_eq, implies_true, id_eq, AV.weak, AV.weak.weakL, aun, isIface, Try.results26, Try.ntmps26, encV, encI, encS]
  refine awp_loop (fun m σ => ∃ (i : Nat) (u : Int), m + i = v.cs.length ∧ lastC v.cs key = (v.cs.drop i).foldl (fun n x => if x.key = key then x.n else n) u ∧ ∃ e, σ = Sta.mk e 63 [BoxC.mk [.sl .no (v.ms.map encM), .sl .no (v.cs.map encC)] true, BoxC.mk [.sl .full [], .sl .full []] true] [] [] false ∧
    e 1 = encS key ∧ e 2 = encI n ∧ e 3 = .bptr 0 0 ∧ e 6 = .bptr 1 0 ∧ e 7 = encU u ∧ e 8 = encI i) (m := v.cs.length) ?_ ?_
  · refine ⟨0, 0, rfl, rfl, _, rfl, ?_, ?_, ?_, ?_, ?_, ?_⟩ <;> simp -implicitDefEqProofs only [vcx, tys, reduceIte, reduceCtorEq, Nat.reduceAdd, Nat.reduceLT, Nat.reduceEqDiff, Nat.reduceLeDiff, Nat.reduceSub, Nat.reduceMul, Int.reduceLE, Int.reduceNeg, Int.reduceLT, String.reduceBEq, splice, afill, Nat.reducePow, Nat.reduceBEq, eq_self, forall_exists_index, forall_apply_eq_imp_iff₂, exists_eq_left', ite_true, ite_false, if_true, if_false, ne_eq, forall_const, exists_eq_left, forall_eq, implies_true, id_eq, AV.weak, AV.weak.weakL, aun, isIface] <;> rfl
  · rintro m σ ⟨i, u, hm', hh, e, rfl, e1, e2, e3, e6, e7, e8⟩
    refine vc_sound _ ?_
    simp -implicitDefEqProofs only [vcx, tys, reduceIte, reduceCtorEq, Nat.reduceAdd, Nat.reduceLT, Nat.reduceEqDiff, Nat.reduceLeDiff, Nat.reduceSub, Nat.reduceMul, Int.reduceLE, Int.reduceNeg, Int.reduceLT, String.reduceBEq, splice, afill, Nat.reducePow, Nat.reduceBEq, eq_self, forall_exists_index, forall_apply_eq_imp_iff₂, exists_eq_left', ite_true, ite_false, if_true, if_false, ne_eq, forall_const, exists_eq_left, forall_eq, implies_true, id_eq, AV.weak, AV.weak.weakL, aun, isIface, Try.results26, e1, e2, e3, e6, e7, e8, encI, encU, encS]
    intro hl
    have w1 : IntKind.i64.wrap ((i : Int) + 1) = ((i + 1 : Nat) : Int) := by rw [wrap_i64 (by omega) (by omega)]; omega
    refine ⟨fun hlt => ⟨by omega, hlt, fun x hx => ?_⟩, fun hge => ?_⟩
    · have hd := drop_at hx
      rw [hd, List.foldl_cons] at hh
      simp -implicitDefEqProofs only [vcx, tys, reduceIte, reduceCtorEq, Nat.reduceAdd, Nat.reduceLT, Nat.reduceEqDiff, Nat.reduceLeDiff, Nat.reduceSub, Nat.reduceMul, Int.reduceLE, Int.reduceNeg, Int.reduceLT, String.reduceBEq, splice, afill, Nat.reducePow, Nat.reduceBEq, eq_self, forall_exists_index, forall_apply_eq_imp_iff₂, exists_eq_left', ite_true, ite_false, if_true, if_false, ne_eq, forall_const, exists_eq_left, forall_eq, implies_true, id_eq, AV.weak, AV.weak.weakL, aun, isIface, encC, w1, e1, e2, e3, e6, e7, e8, encI, encU, encS, bytes_beq]
      refine ⟨fun h => ⟨by omega, hlt, fun y hy => ?_⟩, fun h => ?_⟩
      · rw [hx] at hy; cases hy
        rw [if_pos h] at hh
        refine ⟨m - 1, by omega, i + 1, _, by omega, hh, _, rfl, ?_, ?_, ?_, ?_, ?_, ?_⟩ <;> simp -implicitDefEqProofs only [vcx, tys, reduceIte, reduceCtorEq, Nat.reduceAdd, Nat.reduceLT, Nat.reduceEqDiff, Nat.reduceLeDiff, Nat.reduceSub, Nat.reduceMul, Int.reduceLE, Int.reduceNeg, Int.reduceLT, String.reduceBEq, splice, afill, Nat.reducePow, Nat.reduceBEq, eq_self, forall_exists_index, forall_apply_eq_imp_iff₂, exists_eq_left', ite_true, ite_false, if_true, if_false, ne_eq, forall_const, exists_eq_left, forall_eq, implies_true, id_eq, AV.weak, AV.weak.weakL, aun, isIface, e1, e2, e3, e6, e7, e8, encI, encU, encS]
      · rw [if_neg h] at hh
        refine ⟨m - 1, by omega, i + 1, _, by omega, hh, _, rfl, ?_, ?_, ?_, ?_, ?_, ?_⟩ <;> simp -implicitDefEqProofs only [vcx, tys, reduceIte, reduceCtorEq, Nat.reduceAdd, Nat.reduceLT, Nat.reduceEqDiff, Nat.reduceLeDiff, Nat.reduceSub, Nat.reduceMul, Int.reduceLE, Int.reduceNeg, Int.reduceLT, String.reduceBEq, splice, afill, Nat.reducePow, Nat.reduceBEq, eq_self, forall_exists_index, forall_apply_eq_imp_iff₂, exists_eq_left', ite_true, ite_false, if_true, if_false, ne_eq, forall_const, exists_eq_left, forall_eq, implies_true, id_eq, AV.weak, AV.weak.weakL, aun, isIface, e1, e2, e3, e6, e7, e8, encI, encU, encS]
    · rw [List.drop_of_length_le (by omega), List.foldl_nil] at hh
      intro hks
      cases h1 : decide ((key.size : Int) < 1)
      rotate_left
      · have h1' : key.size < 1 := by have : (key.size : Int) < 1 := by simpa using h1
                                      omega
        simp -implicitDefEqProofs only [vcx, tys, reduceIte, reduceCtorEq, Nat.reduceAdd, Nat.reduceLT, Nat.reduceEqDiff, Nat.reduceLeDiff, Nat.reduceSub, Nat.reduceMul, Int.reduceLE, Int.reduceNeg, Int.reduceLT, String.reduceBEq, splice, afill, Nat.reducePow, Nat.reduceBEq, eq_self, forall_exists_index, forall_apply_eq_imp_iff₂, exists_eq_left', ite_true, ite_false, if_true, if_false, ne_eq, forall_const, exists_eq_left, forall_eq, implies_true, id_eq, AV.weak, AV.weak.weakL, aun, isIface, Try.results26, e1, e2, e3, e6, e7, e8, encI, encU, encS]
        simp [setR, h1']
      have h1' : ¬ key.size < 1 := by have : ¬ (key.size : Int) < 1 := by simpa using h1
                                      omega
      simp -implicitDefEqProofs only [vcx, tys, reduceIte, reduceCtorEq, Nat.reduceAdd, Nat.reduceLT, Nat.reduceEqDiff, Nat.reduceLeDiff, Nat.reduceSub, Nat.reduceMul, Int.reduceLE, Int.reduceNeg, Int.reduceLT, String.reduceBEq, splice, afill, Nat.reducePow, Nat.reduceBEq, eq_self, forall_exists_index, forall_apply_eq_imp_iff₂, exists_eq_left', ite_true, ite_false, if_true, if_false, ne_eq, forall_const, exists_eq_left, forall_eq, implies_true, id_eq, AV.weak, AV.weak.weakL, aun, isIface, Try.results26, e1, e2, e3, e6, e7, e8, encI, encU, encS]
      intro _
      cases h2 : decide ((8 : Int) < key.size)
      rotate_left
      · have h2' : 8 < key.size := by have : (8 : Int) < key.size := by simpa using h2
                                      omega
        simp -implicitDefEqProofs only [vcx, tys, reduceIte, reduceCtorEq, Nat.reduceAdd, Nat.reduceLT, Nat.reduceEqDiff, Nat.reduceLeDiff, Nat.reduceSub, Nat.reduceMul, Int.reduceLE, Int.reduceNeg, Int.reduceLT, String.reduceBEq, splice, afill, Nat.reducePow, Nat.reduceBEq, eq_self, forall_exists_index, forall_apply_eq_imp_iff₂, exists_eq_left', ite_true, ite_false, if_true, if_false, ne_eq, forall_const, exists_eq_left, forall_eq, implies_true, id_eq, AV.weak, AV.weak.weakL, aun, isIface, Try.results26, e1, e2, e3, e6, e7, e8, encI, encU, encS]
        simp [setR, h2']
      have h2' : ¬ 8 < key.size := by have : ¬ (8 : Int) < key.size := by simpa using h2
                                      omega
      simp -implicitDefEqProofs only [vcx, tys, reduceIte, reduceCtorEq, Nat.reduceAdd, Nat.reduceLT, Nat.reduceEqDiff, Nat.reduceLeDiff, Nat.reduceSub, Nat.reduceMul, Int.reduceLE, Int.reduceNeg, Int.reduceLT, String.reduceBEq, splice, afill, Nat.reducePow, Nat.reduceBEq, eq_self, forall_exists_index, forall_apply_eq_imp_iff₂, exists_eq_left', ite_true, ite_false, if_true, if_false, ne_eq, forall_const, exists_eq_left, forall_eq, implies_true, id_eq, AV.weak, AV.weak.weakL, aun, isIface, Try.results26, e1, e2, e3, e6, e7, e8, encI, encU, encS]
      have fin : ¬ (u = 0 ∧ 40 ≤ v.cs.length) → setR v key n = ⟨v.ms, copiesR v.cs ⟨key, IntKind.u64.wrap (u + 1), setM n⟩⟩ := fun h => by
        rw [setR, hh, if_neg (by omega)]
      cases h3 : decide (u = 0)
      · have h3' : ¬ u = 0 := by simpa using h3
        simp -implicitDefEqProofs only [vcx, tys, reduceIte, reduceCtorEq, Nat.reduceAdd, Nat.reduceLT, Nat.reduceEqDiff, Nat.reduceLeDiff, Nat.reduceSub, Nat.reduceMul, Int.reduceLE, Int.reduceNeg, Int.reduceLT, String.reduceBEq, splice, afill, Nat.reducePow, Nat.reduceBEq, eq_self, forall_exists_index, forall_apply_eq_imp_iff₂, exists_eq_left', ite_true, ite_false, if_true, if_false, ne_eq, forall_const, exists_eq_left, forall_eq, implies_true, id_eq, AV.weak, AV.weak.weakL, aun, isIface, Try.results26, e1, e2, e3, e6, e7, e8, encI, encU, encS]
        refine awp_gen [] mixed (by kernel_rfl) ?_
        simp -implicitDefEqProofs only [vcx, tys, reduceIte, reduceCtorEq, Nat.reduceAdd, Nat.reduceLT, Nat.reduceEqDiff, Nat.reduceLeDiff, Nat.reduceSub, Nat.reduceMul, Int.reduceLE, Int.reduceNeg, Int.reduceLT, String.reduceBEq, splice, afill, Nat.reducePow, Nat.reduceBEq, eq_self, forall_exists_index, forall_apply_eq_imp_iff₂, exists_eq_left', ite_true, ite_false, if_true, if_false, ne_eq, forall_const, exists_eq_left, forall_eq, implies_true, id_eq, AV.weak, AV.weak.weakL, aun, isIface, vcd, Try.results26, e1, e2, e3, e6, e7, e8, encI, encU, encS]
        refine dcall_p (copies_ok v.cs ⟨key, IntKind.u64.wrap (u + 1), setM n⟩ (by simp only [maxN]; omega)) rfl ?_
        simp -implicitDefEqProofs only [vcx, tys, reduceIte, reduceCtorEq, Nat.reduceAdd, Nat.reduceLT, Nat.reduceEqDiff, Nat.reduceLeDiff, Nat.reduceSub, Nat.reduceMul, Int.reduceLE, Int.reduceNeg, Int.reduceLT, String.reduceBEq, splice, afill, Nat.reducePow, Nat.reduceBEq, eq_self, forall_exists_index, forall_apply_eq_imp_iff₂, exists_eq_left', ite_true, ite_false, if_true, if_false, ne_eq, forall_const, exists_eq_left, forall_eq, implies_true, id_eq, AV.weak, AV.weak.weakL, aun, isIface, vcd, Try.results26, e1, e2, e3, e6, e7, e8, encI, encU]
        rw [fin (by omega)]
      · have h3' : u = 0 := by simpa using h3
        simp -implicitDefEqProofs only [vcx, tys, reduceIte, reduceCtorEq, Nat.reduceAdd, Nat.reduceLT, Nat.reduceEqDiff, Nat.reduceLeDiff, Nat.reduceSub, Nat.reduceMul, Int.reduceLE, Int.reduceNeg, Int.reduceLT, String.reduceBEq, splice, afill, Nat.reducePow, Nat.reduceBEq, eq_self, forall_exists_index, forall_apply_eq_imp_iff₂, exists_eq_left', ite_true, ite_false, if_true, if_false, ne_eq, forall_const, exists_eq_left, forall_eq, implies_true, id_eq, AV.weak, AV.weak.weakL, aun, isIface, Try.results26, e1, e2, e3, e6, e7, e8, encI, encU, encS]
        refine fun _ => ⟨fun h4 => ?_, fun h4 => ?_⟩
        · have : 40 ≤ v.cs.length := by omega
          rw [setR, hh, if_pos (.inr (.inr ⟨h3', this⟩))]
        · refine awp_gen [] mixed (by kernel_rfl) ?_
          simp -implicitDefEqProofs only [vcx, tys, reduceIte, reduceCtorEq, Nat.reduceAdd, Nat.reduceLT, Nat.reduceEqDiff, Nat.reduceLeDiff, Nat.reduceSub, Nat.reduceMul, Int.reduceLE, Int.reduceNeg, Int.reduceLT, String.reduceBEq, splice, afill, Nat.reducePow, Nat.reduceBEq, eq_self, forall_exists_index, forall_apply_eq_imp_iff₂, exists_eq_left', ite_true, ite_false, if_true, if_false, ne_eq, forall_const, exists_eq_left, forall_eq, implies_true, id_eq, AV.weak, AV.weak.weakL, aun, isIface, vcd, Try.results26, e1, e2, e3, e6, e7, e8, encI, encU, encS]
          refine dcall_p (copies_ok v.cs ⟨key, IntKind.u64.wrap (u + 1), setM n⟩ (by simp only [maxN]; omega)) rfl ?_
          simp -implicitDefEqProofs only [vcx, tys, reduceIte, reduceCtorEq, Nat.reduceAdd, Nat.reduceLT, Nat.reduceEqDiff, Nat.reduceLeDiff, Nat.reduceSub, Nat.reduceMul, Int.reduceLE, Int.reduceNeg, Int.reduceLT, String.reduceBEq, splice, afill, Nat.reducePow, Nat.reduceBEq, eq_self, forall_exists_index, forall_apply_eq_imp_iff₂, exists_eq_left', ite_true, ite_false, if_true, if_false, ne_eq, forall_const, exists_eq_left, forall_eq, implies_true, id_eq, AV.weak, AV.weak.weakL, aun, isIface, vcd, Try.results26, e1, e2, e3, e6, e7, e8, encI, encU]
          rw [fin (by omega)]
end Go.Proofs.Ytlcajocjiehplaa
