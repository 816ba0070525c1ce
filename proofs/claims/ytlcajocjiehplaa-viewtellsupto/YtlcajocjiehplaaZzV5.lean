/- slices.Clone; trefoilref16.Of. -/
import Derived.Test.YtlcajocjiehplaaZzV4
set_option linter.unusedVariables false
set_option linter.unusedSimpArgs false
set_option maxRecDepth 10000
namespace Go.Proofs.Ytlcajocjiehplaa
open Go Go.Abs
def ofV (v : View) (key : ByteArray) : Int :=
  match v.cs.find? (fun c => decide (c.key = key)) with
  | some c => IntKind.i64.wrap c.m
  | none => 2
theorem ofr_ok (v : View) (key : ByteArray) : Abs.Pure Try.prog 24 [encV v, encS key] (encI (ofV v key)) := by
  refine Pure.intro Try.func24 rfl rfl fun S0 w0 => vc_sound _ ?_
  simp -implicitDefEqProofs only [vcx, tys, reduceIte, reduceCtorEq, Nat.reduceAdd, Nat.reduceLT, Nat.reduceEqDiff, Nat.reduceLeDiff, Nat.reduceSub, Nat.reduceMul, Int.reduceLE, Int.reduceNeg, Int.reduceLT, String.reduceBEq, splice, afill, Nat.reducePow, Nat.reduceBEq, eq_self, forall_exists_index, forall_apply_eq_imp_iff₂, exists_eq_left', ite_true, ite_false, if_true, if_false, ne_eq, forall_const, exists_eq_left, forall_eq, implies_true, id_eq, AV.weak, AV.weak.weakL, aun, isIface, Try.results24, Try.ntmps24, encV, encS]
  refine awp_loop (fun m σ => ∃ i : Nat, m + i = v.cs.length ∧ ofV v key = ofV ⟨v.ms, v.cs.drop i⟩ key ∧ ∃ e, σ = Sta.mk e 28 [BoxC.mk [.sl .no (v.ms.map encM), .sl .no (v.cs.map encC)] true] [] [] false ∧ e 1 = encS key ∧ e 2 = .bptr 0 0 ∧ e 5 = encI i) (m := v.cs.length) ?_ ?_
  · refine ⟨0, rfl, rfl, _, rfl, ?_, ?_, ?_⟩ <;> simp -implicitDefEqProofs only [vcx, tys, reduceIte, reduceCtorEq, Nat.reduceAdd, Nat.reduceLT, Nat.reduceEqDiff, Nat.reduceLeDiff, Nat.reduceSub, Nat.reduceMul, Int.reduceLE, Int.reduceNeg, Int.reduceLT, String.reduceBEq, splice, afill, Nat.reducePow, Nat.reduceBEq, eq_self, forall_exists_index, forall_apply_eq_imp_iff₂, exists_eq_left', ite_true, ite_false, if_true, if_false, ne_eq, forall_const, exists_eq_left, forall_eq, implies_true, id_eq, AV.weak, AV.weak.weakL, aun, isIface] <;> rfl
  · rintro m σ ⟨i, hm, hh, e, rfl, e1, e2, e5⟩
    refine vc_sound _ ?_
    simp -implicitDefEqProofs only [vcx, tys, reduceIte, reduceCtorEq, Nat.reduceAdd, Nat.reduceLT, Nat.reduceEqDiff, Nat.reduceLeDiff, Nat.reduceSub, Nat.reduceMul, Int.reduceLE, Int.reduceNeg, Int.reduceLT, String.reduceBEq, splice, afill, Nat.reducePow, Nat.reduceBEq, eq_self, forall_exists_index, forall_apply_eq_imp_iff₂, exists_eq_left', ite_true, ite_false, if_true, if_false, ne_eq, forall_const, exists_eq_left, forall_eq, implies_true, id_eq, AV.weak, AV.weak.weakL, aun, isIface, Try.results24, e1, e2, e5, encI, encS, encC]
    intro hl
    refine ⟨fun hlt => ⟨by omega, hlt, fun a ha => ?_⟩, fun hge => ?_⟩
    · have hd := drop_at ha
      rw [hd] at hh
      refine ⟨fun h => ⟨by omega, hlt, fun b hb => ?_⟩, fun h => ⟨m - 1, by omega, i + 1, by omega, ?_, _, rfl, ?_, ?_, ?_⟩⟩
      · rw [ha] at hb; cases hb
        have h' : a.key = key := by simpa [bytes_beq] using h
        rw [hh]; simp [ofV, h']
      · have h' : ¬ a.key = key := by simpa [bytes_beq] using h
        rw [hh]; simp [ofV, h']
      · simp -implicitDefEqProofs only [vcx, tys, reduceIte, reduceCtorEq, Nat.reduceAdd, Nat.reduceLT, Nat.reduceEqDiff, Nat.reduceLeDiff, Nat.reduceSub, Nat.reduceMul, Int.reduceLE, Int.reduceNeg, Int.reduceLT, String.reduceBEq, splice, afill, Nat.reducePow, Nat.reduceBEq, eq_self, forall_exists_index, forall_apply_eq_imp_iff₂, exists_eq_left', ite_true, ite_false, if_true, if_false, ne_eq, forall_const, exists_eq_left, forall_eq, implies_true, id_eq, AV.weak, AV.weak.weakL, aun, isIface, e1, encS]
      · simp -implicitDefEqProofs only [vcx, tys, reduceIte, reduceCtorEq, Nat.reduceAdd, Nat.reduceLT, Nat.reduceEqDiff, Nat.reduceLeDiff, Nat.reduceSub, Nat.reduceMul, Int.reduceLE, Int.reduceNeg, Int.reduceLT, String.reduceBEq, splice, afill, Nat.reducePow, Nat.reduceBEq, eq_self, forall_exists_index, forall_apply_eq_imp_iff₂, exists_eq_left', ite_true, ite_false, if_true, if_false, ne_eq, forall_const, exists_eq_left, forall_eq, implies_true, id_eq, AV.weak, AV.weak.weakL, aun, isIface, e2]
      · simp -implicitDefEqProofs only [vcx, tys, reduceIte, reduceCtorEq, Nat.reduceAdd, Nat.reduceLT, Nat.reduceEqDiff, Nat.reduceLeDiff, Nat.reduceSub, Nat.reduceMul, Int.reduceLE, Int.reduceNeg, Int.reduceLT, String.reduceBEq, splice, afill, Nat.reducePow, Nat.reduceBEq, eq_self, forall_exists_index, forall_apply_eq_imp_iff₂, exists_eq_left', ite_true, ite_false, if_true, if_false, ne_eq, forall_const, exists_eq_left, forall_eq, implies_true, id_eq, AV.weak, AV.weak.weakL, aun, isIface]; rw [wrap_i64 (by simp only [maxN] at hl; omega) (by simp only [maxN] at hl; omega)]; rfl
    · rw [hh, List.drop_of_length_le (by omega)]; rfl
end Go.Proofs.Ytlcajocjiehplaa
