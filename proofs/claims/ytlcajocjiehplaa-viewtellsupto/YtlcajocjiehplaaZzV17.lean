/- trefoilref16.IsView. -/
import Derived.Test.YtlcajocjiehplaaZzV16
set_option linter.unusedVariables false
set_option linter.unusedSimpArgs false
set_option maxRecDepth 10000
set_option maxHeartbeats 1000000
namespace Go.Proofs.Ytlcajocjiehplaa
open Go Go.Abs
theorem isr_ok (v : View) (hb : v.cs.length ≤ 4398046511104) : Abs.Pure Try.prog 10 [encV v] (encB (isR v)) := by
  refine Pure.intro Try.func10 rfl rfl fun S0 w0 => vc_sound _ ?_
  simp -implicitDefEqProofs only [vcx, tys, reduceIte, reduceCtorEq, Nat.reduceAdd, Nat.reduceLT, Nat.reduceEqDiff, Nat.reduceLeDiff, Nat.reduceSub, Nat.reduceMul, Int.reduceLE, Int.reduceNeg, Int.reduceLT, String.reduceBEq, splice, afill, Nat.reducePow, Nat.reduceBEq, eq_self, forall_exists_index, forall_apply_eq_imp_iff₂, exists_eq_left', ite_true, ite_false, if_true, if_false, ne_eq, forall_const, exists_eq_left, forall_eq, implies_true, id_eq, AV.weak, AV.weak.weakL, aun, isIface, Try.results10, Try.ntmps10, encV]
  refine awp_loop (fun m σ => ∃ (i : Nat) (H : List BoxC), m + i = v.ms.length ∧ (∀ j, j < i → ¬ memBad v.ms j) ∧ (H[0]? = some (BoxC.mk [.sl .no (v.ms.map encM), .sl .no (v.cs.map encC)] true)) ∧ ∃ e, σ = Sta.mk e 105 H [] [] false ∧
    e 1 = .bptr 0 0 ∧ e 3 = encI i) (m := v.ms.length) ?_ ?_
  · refine ⟨0, _, rfl, fun j hj => by omega, rfl, _, rfl, ?_, ?_⟩ <;> simp -implicitDefEqProofs only [vcx, tys, reduceIte, reduceCtorEq, Nat.reduceAdd, Nat.reduceLT, Nat.reduceEqDiff, Nat.reduceLeDiff, Nat.reduceSub, Nat.reduceMul, Int.reduceLE, Int.reduceNeg, Int.reduceLT, String.reduceBEq, splice, afill, Nat.reducePow, Nat.reduceBEq, eq_self, forall_exists_index, forall_apply_eq_imp_iff₂, exists_eq_left', ite_true, ite_false, if_true, if_false, ne_eq, forall_const, exists_eq_left, forall_eq, implies_true, id_eq, AV.weak, AV.weak.weakL, aun, isIface] <;> rfl
  · rintro m σ ⟨i, H, hm, hall, hH0, e, rfl, e1, e3⟩
    refine vc_sound _ ?_
    have hH : ∀ bx, (H ++ [bx])[0]? = some (BoxC.mk [.sl .no (v.ms.map encM), .sl .no (v.cs.map encC)] true) := fun bx => by rw [List.getElem?_append_left (by have := (List.getElem?_eq_some_iff.1 hH0).1; omega)]; exact hH0
    have w2 : i < v.ms.length → v.ms.length ≤ 140737488355328 → IntKind.i64.wrap ((i : Int) + 1) = ((i + 1 : Nat) : Int) := fun h h' => by rw [wrap_i64 (by omega) (by omega)]; omega
    simp -implicitDefEqProofs only [vcx, tys, reduceIte, reduceCtorEq, Nat.reduceAdd, Nat.reduceLT, Nat.reduceEqDiff, Nat.reduceLeDiff, Nat.reduceSub, Nat.reduceMul, Int.reduceLE, Int.reduceNeg, Int.reduceLT, String.reduceBEq, splice, afill, Nat.reducePow, Nat.reduceBEq, eq_self, forall_exists_index, forall_apply_eq_imp_iff₂, exists_eq_left', ite_true, ite_false, if_true, if_false, ne_eq, forall_const, exists_eq_left, forall_eq, implies_true, id_eq, AV.weak, AV.weak.weakL, aun, isIface, e1, e3, encI, hH0]
    intro hl
    simp only [maxN] at hl
    refine ⟨fun hlt => ?_, fun hge => ?_⟩
    · have hil : i < v.ms.length := by omega
      have w2 := w2 hil hl
      refine ⟨by omega, by omega, fun x hx => ?_⟩
      rw [Int.toNat_natCast] at hx
      have hxa := mAt_get hx
      simp -implicitDefEqProofs only [vcx, tys, reduceIte, reduceCtorEq, Nat.reduceAdd, Nat.reduceLT, Nat.reduceEqDiff, Nat.reduceLeDiff, Nat.reduceSub, Nat.reduceMul, Int.reduceLE, Int.reduceNeg, Int.reduceLT, String.reduceBEq, splice, afill, Nat.reducePow, Nat.reduceBEq, eq_self, forall_exists_index, forall_apply_eq_imp_iff₂, exists_eq_left', ite_true, ite_false, if_true, if_false, ne_eq, forall_const, exists_eq_left, forall_eq, implies_true, id_eq, AV.weak, AV.weak.weakL, aun, isIface, e1, e3, encI, encM, set_concat]
      refine awp_gen [] mixed (by kernel_rfl) ?_
      have bad : memBad v.ms i → isR v = false := fun h => by
        have : msOK v.ms = false := all_no hil h
        rw [isR, this]; rfl
      simp -implicitDefEqProofs only [vcx, tys, reduceIte, reduceCtorEq, Nat.reduceAdd, Nat.reduceLT, Nat.reduceEqDiff, Nat.reduceLeDiff, Nat.reduceSub, Nat.reduceMul, Int.reduceLE, Int.reduceNeg, Int.reduceLT, String.reduceBEq, splice, afill, Nat.reducePow, Nat.reduceBEq, eq_self, forall_exists_index, forall_apply_eq_imp_iff₂, exists_eq_left', ite_true, ite_false, if_true, if_false, ne_eq, forall_const, exists_eq_left, forall_eq, implies_true, id_eq, AV.weak, AV.weak.weakL, aun, isIface, vcd, e1, e3, encI, encM]
      cases h1 : decide (x.node < 0)
      rotate_left
      · have := bad (.inl (by rw [hxa]; simpa using h1))
        simp -implicitDefEqProofs only [vcx, tys, reduceIte, reduceCtorEq, Nat.reduceAdd, Nat.reduceLT, Nat.reduceEqDiff, Nat.reduceLeDiff, Nat.reduceSub, Nat.reduceMul, Int.reduceLE, Int.reduceNeg, Int.reduceLT, String.reduceBEq, splice, afill, Nat.reducePow, Nat.reduceBEq, eq_self, forall_exists_index, forall_apply_eq_imp_iff₂, exists_eq_left', ite_true, ite_false, if_true, if_false, ne_eq, forall_const, exists_eq_left, forall_eq, implies_true, id_eq, AV.weak, AV.weak.weakL, aun, isIface, vcd, Try.results10, e1, e3, encI, encM, encB, this]
      simp -implicitDefEqProofs only [vcx, tys, reduceIte, reduceCtorEq, Nat.reduceAdd, Nat.reduceLT, Nat.reduceEqDiff, Nat.reduceLeDiff, Nat.reduceSub, Nat.reduceMul, Int.reduceLE, Int.reduceNeg, Int.reduceLT, String.reduceBEq, splice, afill, Nat.reducePow, Nat.reduceBEq, eq_self, forall_exists_index, forall_apply_eq_imp_iff₂, exists_eq_left', ite_true, ite_false, if_true, if_false, ne_eq, forall_const, exists_eq_left, forall_eq, implies_true, id_eq, AV.weak, AV.weak.weakL, aun, isIface, vcd, Try.results10, e1, e3, encI, encM]
      cases h2 : decide (4 ≤ x.node)
      rotate_left
      · have := bad (.inr (.inl (by rw [hxa]; simpa using h2)))
        simp -implicitDefEqProofs only [vcx, tys, reduceIte, reduceCtorEq, Nat.reduceAdd, Nat.reduceLT, Nat.reduceEqDiff, Nat.reduceLeDiff, Nat.reduceSub, Nat.reduceMul, Int.reduceLE, Int.reduceNeg, Int.reduceLT, String.reduceBEq, splice, afill, Nat.reducePow, Nat.reduceBEq, eq_self, forall_exists_index, forall_apply_eq_imp_iff₂, exists_eq_left', ite_true, ite_false, if_true, if_false, ne_eq, forall_const, exists_eq_left, forall_eq, implies_true, id_eq, AV.weak, AV.weak.weakL, aun, isIface, vcd, Try.results10, e1, e3, encI, encM, encB, this]
      simp -implicitDefEqProofs only [vcx, tys, reduceIte, reduceCtorEq, Nat.reduceAdd, Nat.reduceLT, Nat.reduceEqDiff, Nat.reduceLeDiff, Nat.reduceSub, Nat.reduceMul, Int.reduceLE, Int.reduceNeg, Int.reduceLT, String.reduceBEq, splice, afill, Nat.reducePow, Nat.reduceBEq, eq_self, forall_exists_index, forall_apply_eq_imp_iff₂, exists_eq_left', ite_true, ite_false, if_true, if_false, ne_eq, forall_const, exists_eq_left, forall_eq, implies_true, id_eq, AV.weak, AV.weak.weakL, aun, isIface, vcd, Try.results10, e1, e3, encI, encM]
      cases h3 : decide (x.n = 0)
      rotate_left
      · have := bad (.inr (.inr (.inl (by rw [hxa]; simpa using h3))))
        simp -implicitDefEqProofs only [vcx, tys, reduceIte, reduceCtorEq, Nat.reduceAdd, Nat.reduceLT, Nat.reduceEqDiff, Nat.reduceLeDiff, Nat.reduceSub, Nat.reduceMul, Int.reduceLE, Int.reduceNeg, Int.reduceLT, String.reduceBEq, splice, afill, Nat.reducePow, Nat.reduceBEq, eq_self, forall_exists_index, forall_apply_eq_imp_iff₂, exists_eq_left', ite_true, ite_false, if_true, if_false, ne_eq, forall_const, exists_eq_left, forall_eq, implies_true, id_eq, AV.weak, AV.weak.weakL, aun, isIface, vcd, Try.results10, e1, e3, encI, encM, encB, this]
      simp -implicitDefEqProofs only [vcx, tys, reduceIte, reduceCtorEq, Nat.reduceAdd, Nat.reduceLT, Nat.reduceEqDiff, Nat.reduceLeDiff, Nat.reduceSub, Nat.reduceMul, Int.reduceLE, Int.reduceNeg, Int.reduceLT, String.reduceBEq, splice, afill, Nat.reducePow, Nat.reduceBEq, eq_self, forall_exists_index, forall_apply_eq_imp_iff₂, exists_eq_left', ite_true, ite_false, if_true, if_false, ne_eq, forall_const, exists_eq_left, forall_eq, implies_true, id_eq, AV.weak, AV.weak.weakL, aun, isIface, vcd, Try.results10, e1, e3, encI, encM]
      simp only [decide_eq_false_iff_not] at h1 h2 h3
      cases h4 : decide ((0 : Int) < i)
      · have h4' : i = 0 := by have : ¬ (0 : Int) < i := by simpa using h4
                               omega
        simp -implicitDefEqProofs only [vcx, tys, reduceIte, reduceCtorEq, Nat.reduceAdd, Nat.reduceLT, Nat.reduceEqDiff, Nat.reduceLeDiff, Nat.reduceSub, Nat.reduceMul, Int.reduceLE, Int.reduceNeg, Int.reduceLT, String.reduceBEq, splice, afill, Nat.reducePow, Nat.reduceBEq, eq_self, forall_exists_index, forall_apply_eq_imp_iff₂, exists_eq_left', ite_true, ite_false, if_true, if_false, ne_eq, forall_const, exists_eq_left, forall_eq, implies_true, id_eq, AV.weak, AV.weak.weakL, aun, isIface, vcd, Try.results10, e1, e3, encI, encM, w2]
        refine ⟨m - 1, by omega, i + 1, _, by omega, fun j hj => ?_, hH _, _, rfl, ?_, ?_⟩
        · obtain rfl : j = i := by omega
          intro hbad
          simp only [memBad, hxa] at hbad
          omega
        all_goals simp -implicitDefEqProofs only [vcx, tys, reduceIte, reduceCtorEq, Nat.reduceAdd, Nat.reduceLT, Nat.reduceEqDiff, Nat.reduceLeDiff, Nat.reduceSub, Nat.reduceMul, Int.reduceLE, Int.reduceNeg, Int.reduceLT, String.reduceBEq, splice, afill, Nat.reducePow, Nat.reduceBEq, eq_self, forall_exists_index, forall_apply_eq_imp_iff₂, exists_eq_left', ite_true, ite_false, if_true, if_false, ne_eq, forall_const, exists_eq_left, forall_eq, implies_true, id_eq, AV.weak, AV.weak.weakL, aun, isIface, e1, e3, encI]
      · have h4' : 0 < i := by have : (0 : Int) < i := by simpa using h4
                               omega
        have w3 : IntKind.i64.wrap ((i : Int) - 1) = ((i - 1 : Nat) : Int) := by rw [wrap_i64 (by omega) (by omega)]; omega
        simp -implicitDefEqProofs only [vcx, tys, reduceIte, reduceCtorEq, Nat.reduceAdd, Nat.reduceLT, Nat.reduceEqDiff, Nat.reduceLeDiff, Nat.reduceSub, Nat.reduceMul, Int.reduceLE, Int.reduceNeg, Int.reduceLT, String.reduceBEq, splice, afill, Nat.reducePow, Nat.reduceBEq, eq_self, forall_exists_index, forall_apply_eq_imp_iff₂, exists_eq_left', ite_true, ite_false, if_true, if_false, ne_eq, forall_const, exists_eq_left, forall_eq, implies_true, id_eq, AV.weak, AV.weak.weakL, aun, isIface, vcd, Try.results10, e1, e3, encI, encM, w2, w3, hH]
        refine ⟨by omega, by omega, fun y hy => ?_⟩
        rw [Int.toNat_natCast] at hy
        have hya := mAt_get hy
        refine ⟨fun h5 => ?_, fun h5 => ?_⟩
        · have := bad (.inr (.inr (.inr ⟨h4', by rw [hxa, hya]; omega⟩)))
          simp [this, encB]
        · refine ⟨m - 1, by omega, i + 1, _, by omega, fun j hj => ?_, hH _, _, rfl, ?_, ?_⟩
          · rcases Nat.lt_or_ge j i with hji | hji
            · exact hall j hji
            · obtain rfl : j = i := by omega
              intro hbad
              simp only [memBad, hxa, hya] at hbad
              omega
          all_goals simp -implicitDefEqProofs only [vcx, tys, reduceIte, reduceCtorEq, Nat.reduceAdd, Nat.reduceLT, Nat.reduceEqDiff, Nat.reduceLeDiff, Nat.reduceSub, Nat.reduceMul, Int.reduceLE, Int.reduceNeg, Int.reduceLT, String.reduceBEq, splice, afill, Nat.reducePow, Nat.reduceBEq, eq_self, forall_exists_index, forall_apply_eq_imp_iff₂, exists_eq_left', ite_true, ite_false, if_true, if_false, ne_eq, forall_const, exists_eq_left, forall_eq, implies_true, id_eq, AV.weak, AV.weak.weakL, aun, isIface, e1, e3, encI]
    · have hms : msOK v.ms = true := all_yes fun j hj => hall j (by omega)
      clear hall hH w2 e3
      refine awp_loop (fun m σ => ∃ (i : Nat) (H : List BoxC), m + i = v.cs.length ∧ (∀ j, j < i → ¬ copBad2 v.cs j) ∧ (H[0]? = some (BoxC.mk [.sl .no (v.ms.map encM), .sl .no (v.cs.map encC)] true)) ∧ ∃ e, σ = Sta.mk e 105 H [] [] false ∧
        e 1 = .bptr 0 0 ∧ e 5 = encI i) (m := v.cs.length) ?_ ?_
      · refine ⟨0, _, rfl, fun j hj => by omega, hH0, _, rfl, ?_, ?_⟩ <;> simp -implicitDefEqProofs only [vcx, tys, reduceIte, reduceCtorEq, Nat.reduceAdd, Nat.reduceLT, Nat.reduceEqDiff, Nat.reduceLeDiff, Nat.reduceSub, Nat.reduceMul, Int.reduceLE, Int.reduceNeg, Int.reduceLT, String.reduceBEq, splice, afill, Nat.reducePow, Nat.reduceBEq, eq_self, forall_exists_index, forall_apply_eq_imp_iff₂, exists_eq_left', ite_true, ite_false, if_true, if_false, ne_eq, forall_const, exists_eq_left, forall_eq, implies_true, id_eq, AV.weak, AV.weak.weakL, aun, isIface, e1] <;> rfl
      · clear e1 hH0
        rintro m σ ⟨i, H, hm, hall2, hH0, e, rfl, e1, e5⟩
        refine vc_sound _ ?_
        have hH : ∀ bx, (H ++ [bx])[0]? = some (BoxC.mk [.sl .no (v.ms.map encM), .sl .no (v.cs.map encC)] true) := fun bx => by rw [List.getElem?_append_left (by have := (List.getElem?_eq_some_iff.1 hH0).1; omega)]; exact hH0
        have w2 : i < v.cs.length → IntKind.i64.wrap ((i : Int) + 1) = ((i + 1 : Nat) : Int) := fun h => by rw [wrap_i64 (by omega) (by omega)]; omega
        simp -implicitDefEqProofs only [vcx, tys, reduceIte, reduceCtorEq, Nat.reduceAdd, Nat.reduceLT, Nat.reduceEqDiff, Nat.reduceLeDiff, Nat.reduceSub, Nat.reduceMul, Int.reduceLE, Int.reduceNeg, Int.reduceLT, String.reduceBEq, splice, afill, Nat.reducePow, Nat.reduceBEq, eq_self, forall_exists_index, forall_apply_eq_imp_iff₂, exists_eq_left', ite_true, ite_false, if_true, if_false, ne_eq, forall_const, exists_eq_left, forall_eq, implies_true, id_eq, AV.weak, AV.weak.weakL, aun, isIface, e1, e5, encI, hH0]
        intro hl2
        simp only [maxN] at hl2
        refine ⟨fun hlt => ?_, fun hge => ?_⟩
        · have hil : i < v.cs.length := by omega
          have w2 := w2 hil
          refine ⟨by omega, by omega, fun x hx => ?_⟩
          rw [Int.toNat_natCast] at hx
          have hxa := cAt_get hx
          have bad : copBad2 v.cs i → isR v = false := fun h => by
            have : csOK2 v.cs = false := all_no hil h
            rw [isR, this]; simp
          simp -implicitDefEqProofs only [vcx, tys, reduceIte, reduceCtorEq, Nat.reduceAdd, Nat.reduceLT, Nat.reduceEqDiff, Nat.reduceLeDiff, Nat.reduceSub, Nat.reduceMul, Int.reduceLE, Int.reduceNeg, Int.reduceLT, String.reduceBEq, splice, afill, Nat.reducePow, Nat.reduceBEq, eq_self, forall_exists_index, forall_apply_eq_imp_iff₂, exists_eq_left', ite_true, ite_false, if_true, if_false, ne_eq, forall_const, exists_eq_left, forall_eq, implies_true, id_eq, AV.weak, AV.weak.weakL, aun, isIface, e1, e5, encI, encC, set_concat]
          refine awp_gen [] mixed (by kernel_rfl) ?_
          simp -implicitDefEqProofs only [vcx, tys, reduceIte, reduceCtorEq, Nat.reduceAdd, Nat.reduceLT, Nat.reduceEqDiff, Nat.reduceLeDiff, Nat.reduceSub, Nat.reduceMul, Int.reduceLE, Int.reduceNeg, Int.reduceLT, String.reduceBEq, splice, afill, Nat.reducePow, Nat.reduceBEq, eq_self, forall_exists_index, forall_apply_eq_imp_iff₂, exists_eq_left', ite_true, ite_false, if_true, if_false, ne_eq, forall_const, exists_eq_left, forall_eq, implies_true, id_eq, AV.weak, AV.weak.weakL, aun, isIface, vcd, Try.results10, e1, e5, encI, encC]
          cases h1 : decide ((x.key.size : Int) < 1)
          rotate_left
          · have := bad (.inl (.inl (by rw [hxa]; have := of_decide_eq_true h1; exact ByteArray.ext (Array.eq_empty_of_size_eq_zero (show x.key.data.size = 0 by have : x.key.size = x.key.data.size := rfl; omega)))))
            simp -implicitDefEqProofs only [vcx, tys, reduceIte, reduceCtorEq, Nat.reduceAdd, Nat.reduceLT, Nat.reduceEqDiff, Nat.reduceLeDiff, Nat.reduceSub, Nat.reduceMul, Int.reduceLE, Int.reduceNeg, Int.reduceLT, String.reduceBEq, splice, afill, Nat.reducePow, Nat.reduceBEq, eq_self, forall_exists_index, forall_apply_eq_imp_iff₂, exists_eq_left', ite_true, ite_false, if_true, if_false, ne_eq, forall_const, exists_eq_left, forall_eq, implies_true, id_eq, AV.weak, AV.weak.weakL, aun, isIface, vcd, Try.results10, e1, e5, encI, encC, encB, this]
          simp -implicitDefEqProofs only [vcx, tys, reduceIte, reduceCtorEq, Nat.reduceAdd, Nat.reduceLT, Nat.reduceEqDiff, Nat.reduceLeDiff, Nat.reduceSub, Nat.reduceMul, Int.reduceLE, Int.reduceNeg, Int.reduceLT, String.reduceBEq, splice, afill, Nat.reducePow, Nat.reduceBEq, eq_self, forall_exists_index, forall_apply_eq_imp_iff₂, exists_eq_left', ite_true, ite_false, if_true, if_false, ne_eq, forall_const, exists_eq_left, forall_eq, implies_true, id_eq, AV.weak, AV.weak.weakL, aun, isIface, vcd, Try.results10, e1, e5, encI, encC]
          cases h2 : decide ((8 : Int) < x.key.size)
          rotate_left
          · have := bad (.inl (.inr (.inl (by rw [hxa]; have := of_decide_eq_true h2; omega))))
            simp -implicitDefEqProofs only [vcx, tys, reduceIte, reduceCtorEq, Nat.reduceAdd, Nat.reduceLT, Nat.reduceEqDiff, Nat.reduceLeDiff, Nat.reduceSub, Nat.reduceMul, Int.reduceLE, Int.reduceNeg, Int.reduceLT, String.reduceBEq, splice, afill, Nat.reducePow, Nat.reduceBEq, eq_self, forall_exists_index, forall_apply_eq_imp_iff₂, exists_eq_left', ite_true, ite_false, if_true, if_false, ne_eq, forall_const, exists_eq_left, forall_eq, implies_true, id_eq, AV.weak, AV.weak.weakL, aun, isIface, vcd, Try.results10, e1, e5, encI, encC, encB, this]
          simp -implicitDefEqProofs only [vcx, tys, reduceIte, reduceCtorEq, Nat.reduceAdd, Nat.reduceLT, Nat.reduceEqDiff, Nat.reduceLeDiff, Nat.reduceSub, Nat.reduceMul, Int.reduceLE, Int.reduceNeg, Int.reduceLT, String.reduceBEq, splice, afill, Nat.reducePow, Nat.reduceBEq, eq_self, forall_exists_index, forall_apply_eq_imp_iff₂, exists_eq_left', ite_true, ite_false, if_true, if_false, ne_eq, forall_const, exists_eq_left, forall_eq, implies_true, id_eq, AV.weak, AV.weak.weakL, aun, isIface, vcd, Try.results10, e1, e5, encI, encC]
          cases h3 : decide (x.n = 0)
          rotate_left
          · have := bad (.inl (.inr (.inr (.inl (by rw [hxa]; exact of_decide_eq_true h3)))))
            simp -implicitDefEqProofs only [vcx, tys, reduceIte, reduceCtorEq, Nat.reduceAdd, Nat.reduceLT, Nat.reduceEqDiff, Nat.reduceLeDiff, Nat.reduceSub, Nat.reduceMul, Int.reduceLE, Int.reduceNeg, Int.reduceLT, String.reduceBEq, splice, afill, Nat.reducePow, Nat.reduceBEq, eq_self, forall_exists_index, forall_apply_eq_imp_iff₂, exists_eq_left', ite_true, ite_false, if_true, if_false, ne_eq, forall_const, exists_eq_left, forall_eq, implies_true, id_eq, AV.weak, AV.weak.weakL, aun, isIface, vcd, Try.results10, e1, e5, encI, encC, encB, this]
          simp -implicitDefEqProofs only [vcx, tys, reduceIte, reduceCtorEq, Nat.reduceAdd, Nat.reduceLT, Nat.reduceEqDiff, Nat.reduceLeDiff, Nat.reduceSub, Nat.reduceMul, Int.reduceLE, Int.reduceNeg, Int.reduceLT, String.reduceBEq, splice, afill, Nat.reducePow, Nat.reduceBEq, eq_self, forall_exists_index, forall_apply_eq_imp_iff₂, exists_eq_left', ite_true, ite_false, if_true, if_false, ne_eq, forall_const, exists_eq_left, forall_eq, implies_true, id_eq, AV.weak, AV.weak.weakL, aun, isIface, vcd, Try.results10, e1, e5, encI, encC]
          cases h4 : decide (x.m < 1)
          rotate_left
          · have := bad (.inl (.inr (.inr (.inr (.inl (by rw [hxa]; exact of_decide_eq_true h4))))))
            simp -implicitDefEqProofs only [vcx, tys, reduceIte, reduceCtorEq, Nat.reduceAdd, Nat.reduceLT, Nat.reduceEqDiff, Nat.reduceLeDiff, Nat.reduceSub, Nat.reduceMul, Int.reduceLE, Int.reduceNeg, Int.reduceLT, String.reduceBEq, splice, afill, Nat.reducePow, Nat.reduceBEq, eq_self, forall_exists_index, forall_apply_eq_imp_iff₂, exists_eq_left', ite_true, ite_false, if_true, if_false, ne_eq, forall_const, exists_eq_left, forall_eq, implies_true, id_eq, AV.weak, AV.weak.weakL, aun, isIface, vcd, Try.results10, e1, e5, encI, encC, encB, this]
          simp -implicitDefEqProofs only [vcx, tys, reduceIte, reduceCtorEq, Nat.reduceAdd, Nat.reduceLT, Nat.reduceEqDiff, Nat.reduceLeDiff, Nat.reduceSub, Nat.reduceMul, Int.reduceLE, Int.reduceNeg, Int.reduceLT, String.reduceBEq, splice, afill, Nat.reducePow, Nat.reduceBEq, eq_self, forall_exists_index, forall_apply_eq_imp_iff₂, exists_eq_left', ite_true, ite_false, if_true, if_false, ne_eq, forall_const, exists_eq_left, forall_eq, implies_true, id_eq, AV.weak, AV.weak.weakL, aun, isIface, vcd, Try.results10, e1, e5, encI, encC]
          cases h5 : decide (3 < x.m)
          rotate_left
          · have := bad (.inl (.inr (.inr (.inr (.inr (by rw [hxa]; exact of_decide_eq_true h5))))))
            simp -implicitDefEqProofs only [vcx, tys, reduceIte, reduceCtorEq, Nat.reduceAdd, Nat.reduceLT, Nat.reduceEqDiff, Nat.reduceLeDiff, Nat.reduceSub, Nat.reduceMul, Int.reduceLE, Int.reduceNeg, Int.reduceLT, String.reduceBEq, splice, afill, Nat.reducePow, Nat.reduceBEq, eq_self, forall_exists_index, forall_apply_eq_imp_iff₂, exists_eq_left', ite_true, ite_false, if_true, if_false, ne_eq, forall_const, exists_eq_left, forall_eq, implies_true, id_eq, AV.weak, AV.weak.weakL, aun, isIface, vcd, Try.results10, e1, e5, encI, encC, encB, this]
          simp -implicitDefEqProofs only [vcx, tys, reduceIte, reduceCtorEq, Nat.reduceAdd, Nat.reduceLT, Nat.reduceEqDiff, Nat.reduceLeDiff, Nat.reduceSub, Nat.reduceMul, Int.reduceLE, Int.reduceNeg, Int.reduceLT, String.reduceBEq, splice, afill, Nat.reducePow, Nat.reduceBEq, eq_self, forall_exists_index, forall_apply_eq_imp_iff₂, exists_eq_left', ite_true, ite_false, if_true, if_false, ne_eq, forall_const, exists_eq_left, forall_eq, implies_true, id_eq, AV.weak, AV.weak.weakL, aun, isIface, vcd, Try.results10, e1, e5, encI, encC]
          have hgood : ¬ copBad v.cs i := by
            rw [copBad, hxa]
            intro hbad
            have := of_decide_eq_false h1
            have := of_decide_eq_false h2
            have := of_decide_eq_false h3
            have := of_decide_eq_false h4
            have := of_decide_eq_false h5
            rcases hbad with h | h | h | h | h
            · exact of_decide_eq_false h1 (by rw [h]; decide)
            all_goals omega
          cases h6 : decide ((0 : Int) < i)
          · have h6' : i = 0 := by have : ¬ (0 : Int) < i := by simpa using h6
                                   omega
            simp -implicitDefEqProofs only [vcx, tys, reduceIte, reduceCtorEq, Nat.reduceAdd, Nat.reduceLT, Nat.reduceEqDiff, Nat.reduceLeDiff, Nat.reduceSub, Nat.reduceMul, Int.reduceLE, Int.reduceNeg, Int.reduceLT, String.reduceBEq, splice, afill, Nat.reducePow, Nat.reduceBEq, eq_self, forall_exists_index, forall_apply_eq_imp_iff₂, exists_eq_left', ite_true, ite_false, if_true, if_false, ne_eq, forall_const, exists_eq_left, forall_eq, implies_true, id_eq, AV.weak, AV.weak.weakL, aun, isIface, vcd, Try.results10, e1, e5, encI, encC, w2]
            refine ⟨m - 1, by omega, i + 1, _, by omega, fun j hj => ?_, hH _, _, rfl, ?_, ?_⟩
            · obtain rfl : j = i := by omega
              rintro (hbad | hbad)
              · exact hgood hbad
              · omega
            all_goals simp -implicitDefEqProofs only [vcx, tys, reduceIte, reduceCtorEq, Nat.reduceAdd, Nat.reduceLT, Nat.reduceEqDiff, Nat.reduceLeDiff, Nat.reduceSub, Nat.reduceMul, Int.reduceLE, Int.reduceNeg, Int.reduceLT, String.reduceBEq, splice, afill, Nat.reducePow, Nat.reduceBEq, eq_self, forall_exists_index, forall_apply_eq_imp_iff₂, exists_eq_left', ite_true, ite_false, if_true, if_false, ne_eq, forall_const, exists_eq_left, forall_eq, implies_true, id_eq, AV.weak, AV.weak.weakL, aun, isIface, e1, e5, encI]
          · have h6' : 0 < i := by have : (0 : Int) < i := by simpa using h6
                                   omega
            have w3 : IntKind.i64.wrap ((i : Int) - 1) = ((i - 1 : Nat) : Int) := by rw [wrap_i64 (by omega) (by omega)]; omega
            simp -implicitDefEqProofs only [vcx, tys, reduceIte, reduceCtorEq, Nat.reduceAdd, Nat.reduceLT, Nat.reduceEqDiff, Nat.reduceLeDiff, Nat.reduceSub, Nat.reduceMul, Int.reduceLE, Int.reduceNeg, Int.reduceLT, String.reduceBEq, splice, afill, Nat.reducePow, Nat.reduceBEq, eq_self, forall_exists_index, forall_apply_eq_imp_iff₂, exists_eq_left', ite_true, ite_false, if_true, if_false, ne_eq, forall_const, exists_eq_left, forall_eq, implies_true, id_eq, AV.weak, AV.weak.weakL, aun, isIface, vcd, Try.results10, e1, e5, encI, encC, w2, w3, hH]
            refine ⟨by omega, by omega, fun y hy => ?_⟩
            rw [Int.toNat_natCast] at hy
            have hya := cAt_get hy
            refine ⟨fun h7 => ?_, fun h7 => ?_⟩
            · have := bad (.inr ⟨h6', by rw [hxa, hya]; simpa using h7⟩)
              simp [this, encB]
            · refine ⟨m - 1, by omega, i + 1, _, by omega, fun j hj => ?_, hH _, _, rfl, ?_, ?_⟩
              · rcases Nat.lt_or_ge j i with hji | hji
                · exact hall2 j hji
                · obtain rfl : j = i := by omega
                  rintro (hbad | hbad)
                  · exact hgood hbad
                  · rw [hxa, hya] at hbad
                    simp [hbad.2] at h7
              all_goals simp -implicitDefEqProofs only [vcx, tys, reduceIte, reduceCtorEq, Nat.reduceAdd, Nat.reduceLT, Nat.reduceEqDiff, Nat.reduceLeDiff, Nat.reduceSub, Nat.reduceMul, Int.reduceLE, Int.reduceNeg, Int.reduceLT, String.reduceBEq, splice, afill, Nat.reducePow, Nat.reduceBEq, eq_self, forall_exists_index, forall_apply_eq_imp_iff₂, exists_eq_left', ite_true, ite_false, if_true, if_false, ne_eq, forall_const, exists_eq_left, forall_eq, implies_true, id_eq, AV.weak, AV.weak.weakL, aun, isIface, e1, e5, encI]
        · have hcs : csOK2 v.cs = true := all_yes fun j hj => hall2 j (by omega)
          have hl40 : isR v = decide ((v.cs.length : Int) ≤ 40) := by
            rw [isR, hms, hcs, Bool.true_and, Bool.true_and]; exact decide_eq_decide.2 (by omega)
          simp -implicitDefEqProofs only [vcx, tys, reduceIte, reduceCtorEq, Nat.reduceAdd, Nat.reduceLT, Nat.reduceEqDiff, Nat.reduceLeDiff, Nat.reduceSub, Nat.reduceMul, Int.reduceLE, Int.reduceNeg, Int.reduceLT, String.reduceBEq, splice, afill, Nat.reducePow, Nat.reduceBEq, eq_self, forall_exists_index, forall_apply_eq_imp_iff₂, exists_eq_left', ite_true, ite_false, if_true, if_false, ne_eq, forall_const, exists_eq_left, forall_eq, implies_true, id_eq, AV.weak, AV.weak.weakL, aun, isIface, Try.results10, e1, e5, encI, encB, hH0, hl40]
end Go.Proofs.Ytlcajocjiehplaa
