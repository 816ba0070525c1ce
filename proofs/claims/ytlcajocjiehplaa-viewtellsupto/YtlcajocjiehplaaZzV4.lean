/- view, trefoilref16: In, the same, top. -/
import Derived.Test.YtlcajocjiehplaaZzV3
set_option linter.unusedVariables false
set_option linter.unusedSimpArgs false
set_option maxRecDepth 10000
namespace Go.Proofs.Ytlcajocjiehplaa
open Go Go.Abs
theorem inr_ok (v : View) (hb : v.ms.length * 16 ≤ maxN) : Abs.Pure Try.prog 20 [encV v] (.sl .no ((inF v).map encI)) := by
  refine Pure.intro Try.func20 rfl rfl fun S0 w0 => vc_sound _ ?_
  simp -implicitDefEqProofs only [vcx, tys, reduceIte, reduceCtorEq, Nat.reduceAdd, Nat.reduceLT, Nat.reduceEqDiff, Nat.reduceLeDiff, Nat.reduceSub, Nat.reduceMul, Int.reduceLE, Int.reduceNeg, Int.reduceLT, String.reduceBEq, splice, afill, Nat.reducePow, Nat.reduceBEq, eq_self, forall_exists_index, forall_apply_eq_imp_iff₂, exists_eq_left', ite_true, ite_false, if_true, if_false, ne_eq, forall_const, exists_eq_left, forall_eq, implies_true, id_eq, AV.weak, AV.weak.weakL, aun, isIface, Try.results20, Try.ntmps20, encV]
  refine awp_loop (fun m σ => ∃ (i : Nat) (ow : Abs.Own) (L : List Bool), m + i = v.ms.length ∧ OwnLive L 1 ow ∧ ∃ e, σ = Sta.mk e 30 [BoxC.mk [.sl .no (v.ms.map encM), .sl .no (v.cs.map encC)] true] L [] false ∧ e 1 = .bptr 0 0 ∧ e 4 = encI i ∧
    e 3 = .sl ow ((((v.ms.take i).filter fun m => m.n.tmod 2 = 1).map (·.node)).map encI)) (m := v.ms.length) ?_ ?_
  · refine ⟨0, .full, [], rfl, own_full, _, rfl, ?_, ?_, ?_⟩ <;> simp -implicitDefEqProofs only [vcx, tys, reduceIte, reduceCtorEq, Nat.reduceAdd, Nat.reduceLT, Nat.reduceEqDiff, Nat.reduceLeDiff, Nat.reduceSub, Nat.reduceMul, Int.reduceLE, Int.reduceNeg, Int.reduceLT, String.reduceBEq, splice, afill, Nat.reducePow, Nat.reduceBEq, eq_self, forall_exists_index, forall_apply_eq_imp_iff₂, exists_eq_left', ite_true, ite_false, if_true, if_false, ne_eq, forall_const, exists_eq_left, forall_eq, implies_true, id_eq, AV.weak, AV.weak.weakL, aun, isIface] <;> try rfl
  · rintro m σ ⟨i, ow, L, hm, how, e, rfl, e1, e4, e3⟩
    refine vc_sound _ ?_
    simp -implicitDefEqProofs only [vcx, tys, reduceIte, reduceCtorEq, Nat.reduceAdd, Nat.reduceLT, Nat.reduceEqDiff, Nat.reduceLeDiff, Nat.reduceSub, Nat.reduceMul, Int.reduceLE, Int.reduceNeg, Int.reduceLT, String.reduceBEq, splice, afill, Nat.reducePow, Nat.reduceBEq, eq_self, forall_exists_index, forall_apply_eq_imp_iff₂, exists_eq_left', ite_true, ite_false, if_true, if_false, ne_eq, forall_const, exists_eq_left, forall_eq, implies_true, id_eq, AV.weak, AV.weak.weakL, aun, isIface, Try.results20, e1, e4, e3, encI, encM]
    intro hlen
    refine ⟨fun hlt => ⟨by omega, hlt, fun x hx => ?_⟩, fun hge => ?_⟩
    · have hlen2 : (List.filter (fun m => decide (m.n.tmod 2 = 1)) (List.take i v.ms)).length ≤ i := Nat.le_trans (List.length_filter_le _ _) (by simp; omega)
      simp only [maxN] at hlen hb
      have ht := inF_take v i hx
      refine ⟨by omega, fun h1 => ⟨by omega, hlt, fun y hy => ?_⟩, fun h1 => ⟨m - 1, by omega, i + 1, ow, L, by omega, how, _, rfl, ?_, ?_, ?_⟩⟩
      · rw [hx] at hy; cases hy
        refine ⟨how, by simp only [maxN]; omega, by simp only [maxN]; omega, ⟨m - 1, by omega, i + 1, _, _, by omega, own_new, _, rfl, ?_, ?_, ?_⟩⟩
        · simp -implicitDefEqProofs only [vcx, tys, reduceIte, reduceCtorEq, Nat.reduceAdd, Nat.reduceLT, Nat.reduceEqDiff, Nat.reduceLeDiff, Nat.reduceSub, Nat.reduceMul, Int.reduceLE, Int.reduceNeg, Int.reduceLT, String.reduceBEq, splice, afill, Nat.reducePow, Nat.reduceBEq, eq_self, forall_exists_index, forall_apply_eq_imp_iff₂, exists_eq_left', ite_true, ite_false, if_true, if_false, ne_eq, forall_const, exists_eq_left, forall_eq, implies_true, id_eq, AV.weak, AV.weak.weakL, aun, isIface, e1]
        · simp -implicitDefEqProofs only [vcx, tys, reduceIte, reduceCtorEq, Nat.reduceAdd, Nat.reduceLT, Nat.reduceEqDiff, Nat.reduceLeDiff, Nat.reduceSub, Nat.reduceMul, Int.reduceLE, Int.reduceNeg, Int.reduceLT, String.reduceBEq, splice, afill, Nat.reducePow, Nat.reduceBEq, eq_self, forall_exists_index, forall_apply_eq_imp_iff₂, exists_eq_left', ite_true, ite_false, if_true, if_false, ne_eq, forall_const, exists_eq_left, forall_eq, implies_true, id_eq, AV.weak, AV.weak.weakL, aun, isIface]; rw [wrap_i64 (by omega) (by omega)]; rfl
        · simp -implicitDefEqProofs only [vcx, tys, reduceIte, reduceCtorEq, Nat.reduceAdd, Nat.reduceLT, Nat.reduceEqDiff, Nat.reduceLeDiff, Nat.reduceSub, Nat.reduceMul, Int.reduceLE, Int.reduceNeg, Int.reduceLT, String.reduceBEq, splice, afill, Nat.reducePow, Nat.reduceBEq, eq_self, forall_exists_index, forall_apply_eq_imp_iff₂, exists_eq_left', ite_true, ite_false, if_true, if_false, ne_eq, forall_const, exists_eq_left, forall_eq, implies_true, id_eq, AV.weak, AV.weak.weakL, aun, isIface]; rw [ht, if_pos h1]; simp [encI]
      · simp -implicitDefEqProofs only [vcx, tys, reduceIte, reduceCtorEq, Nat.reduceAdd, Nat.reduceLT, Nat.reduceEqDiff, Nat.reduceLeDiff, Nat.reduceSub, Nat.reduceMul, Int.reduceLE, Int.reduceNeg, Int.reduceLT, String.reduceBEq, splice, afill, Nat.reducePow, Nat.reduceBEq, eq_self, forall_exists_index, forall_apply_eq_imp_iff₂, exists_eq_left', ite_true, ite_false, if_true, if_false, ne_eq, forall_const, exists_eq_left, forall_eq, implies_true, id_eq, AV.weak, AV.weak.weakL, aun, isIface, e1]
      · simp -implicitDefEqProofs only [vcx, tys, reduceIte, reduceCtorEq, Nat.reduceAdd, Nat.reduceLT, Nat.reduceEqDiff, Nat.reduceLeDiff, Nat.reduceSub, Nat.reduceMul, Int.reduceLE, Int.reduceNeg, Int.reduceLT, String.reduceBEq, splice, afill, Nat.reducePow, Nat.reduceBEq, eq_self, forall_exists_index, forall_apply_eq_imp_iff₂, exists_eq_left', ite_true, ite_false, if_true, if_false, ne_eq, forall_const, exists_eq_left, forall_eq, implies_true, id_eq, AV.weak, AV.weak.weakL, aun, isIface]; rw [wrap_i64 (by omega) (by omega)]; rfl
      · simp -implicitDefEqProofs only [vcx, tys, reduceIte, reduceCtorEq, Nat.reduceAdd, Nat.reduceLT, Nat.reduceEqDiff, Nat.reduceLeDiff, Nat.reduceSub, Nat.reduceMul, Int.reduceLE, Int.reduceNeg, Int.reduceLT, String.reduceBEq, splice, afill, Nat.reducePow, Nat.reduceBEq, eq_self, forall_exists_index, forall_apply_eq_imp_iff₂, exists_eq_left', ite_true, ite_false, if_true, if_false, ne_eq, forall_const, exists_eq_left, forall_eq, implies_true, id_eq, AV.weak, AV.weak.weakL, aun, isIface, e3]; rw [ht, if_neg h1]; simp
    · rw [List.take_of_length_le (by omega)]; rfl

theorem sameInts_ok (l r : List Int) : Abs.Pure Try.prog 18 [.sl .no (l.map encI), .sl .no (r.map encI)] (encB (decide (l = r))) := by
  refine Pure.intro Try.func18 rfl rfl fun S0 w0 => vc_sound _ ?_
  simp -implicitDefEqProofs only [vcx, tys, reduceIte, reduceCtorEq, Nat.reduceAdd, Nat.reduceLT, Nat.reduceEqDiff, Nat.reduceLeDiff, Nat.reduceSub, Nat.reduceMul, Int.reduceLE, Int.reduceNeg, Int.reduceLT, String.reduceBEq, splice, afill, Nat.reducePow, Nat.reduceBEq, eq_self, forall_exists_index, forall_apply_eq_imp_iff₂, exists_eq_left', ite_true, ite_false, if_true, if_false, ne_eq, forall_const, exists_eq_left, forall_eq, implies_true, id_eq, AV.weak, AV.weak.weakL, aun, isIface, Try.results18, Try.ntmps18]
  intro hl hr
  refine ⟨fun h => ?_, fun h => ?_⟩
  · have : ¬ l = r := fun e => h (by rw [e])
    simp [encB, this]
  refine awp_loop (fun m σ => ∃ i : Nat, m + i = l.length ∧ decide (l = r) = decide (l.drop i = r.drop i) ∧ ∃ e, σ = Sta.mk e 26 [] [] [] false ∧ e 0 = .sl .no (l.map encI) ∧ e 1 = .sl .no (r.map encI) ∧ e 5 = encI i) (m := l.length) ?_ ?_
  · refine ⟨0, rfl, rfl, _, rfl, ?_, ?_, ?_⟩ <;> simp -implicitDefEqProofs only [vcx, tys, reduceIte, reduceCtorEq, Nat.reduceAdd, Nat.reduceLT, Nat.reduceEqDiff, Nat.reduceLeDiff, Nat.reduceSub, Nat.reduceMul, Int.reduceLE, Int.reduceNeg, Int.reduceLT, String.reduceBEq, splice, afill, Nat.reducePow, Nat.reduceBEq, eq_self, forall_exists_index, forall_apply_eq_imp_iff₂, exists_eq_left', ite_true, ite_false, if_true, if_false, ne_eq, forall_const, exists_eq_left, forall_eq, implies_true, id_eq, AV.weak, AV.weak.weakL, aun, isIface] <;> rfl
  · rintro m σ ⟨i, hm, hh, e, rfl, e0, e1, e5⟩
    refine vc_sound _ ?_
    simp -implicitDefEqProofs only [vcx, tys, reduceIte, reduceCtorEq, Nat.reduceAdd, Nat.reduceLT, Nat.reduceEqDiff, Nat.reduceLeDiff, Nat.reduceSub, Nat.reduceMul, Int.reduceLE, Int.reduceNeg, Int.reduceLT, String.reduceBEq, splice, afill, Nat.reducePow, Nat.reduceBEq, eq_self, forall_exists_index, forall_apply_eq_imp_iff₂, exists_eq_left', ite_true, ite_false, if_true, if_false, ne_eq, forall_const, exists_eq_left, forall_eq, implies_true, id_eq, AV.weak, AV.weak.weakL, aun, isIface, Try.results18, e0, e1, e5, encI]
    intro _
    refine ⟨fun hlt => ?_, fun hge => ?_⟩
    · refine awp_gen [] mixed (by kernel_rfl) ?_
      simp -implicitDefEqProofs only [vcx, tys, reduceIte, reduceCtorEq, Nat.reduceAdd, Nat.reduceLT, Nat.reduceEqDiff, Nat.reduceLeDiff, Nat.reduceSub, Nat.reduceMul, Int.reduceLE, Int.reduceNeg, Int.reduceLT, String.reduceBEq, splice, afill, Nat.reducePow, Nat.reduceBEq, eq_self, forall_exists_index, forall_apply_eq_imp_iff₂, exists_eq_left', ite_true, ite_false, if_true, if_false, ne_eq, forall_const, exists_eq_left, forall_eq, implies_true, id_eq, AV.weak, AV.weak.weakL, aun, isIface, vcd, Try.results18, e0, e1, e5, encI]
      refine ⟨by omega, hlt, fun a ha => ⟨by omega, by omega, fun b hb => ?_⟩⟩
      have hd := drop_at ha
      have hd' := drop_at hb
      rw [hd, hd'] at hh
      refine ⟨fun h => ?_, fun h => ⟨m - 1, by omega, i + 1, by omega, ?_, _, rfl, ?_, ?_, ?_⟩⟩
      · rw [hh]; simp [encB, h]
      · have : a = b := by omega
        rw [hh]; simp [this]
      · simp -implicitDefEqProofs only [vcx, tys, reduceIte, reduceCtorEq, Nat.reduceAdd, Nat.reduceLT, Nat.reduceEqDiff, Nat.reduceLeDiff, Nat.reduceSub, Nat.reduceMul, Int.reduceLE, Int.reduceNeg, Int.reduceLT, String.reduceBEq, splice, afill, Nat.reducePow, Nat.reduceBEq, eq_self, forall_exists_index, forall_apply_eq_imp_iff₂, exists_eq_left', ite_true, ite_false, if_true, if_false, ne_eq, forall_const, exists_eq_left, forall_eq, implies_true, id_eq, AV.weak, AV.weak.weakL, aun, isIface, e0]; try rfl
      · simp -implicitDefEqProofs only [vcx, tys, reduceIte, reduceCtorEq, Nat.reduceAdd, Nat.reduceLT, Nat.reduceEqDiff, Nat.reduceLeDiff, Nat.reduceSub, Nat.reduceMul, Int.reduceLE, Int.reduceNeg, Int.reduceLT, String.reduceBEq, splice, afill, Nat.reducePow, Nat.reduceBEq, eq_self, forall_exists_index, forall_apply_eq_imp_iff₂, exists_eq_left', ite_true, ite_false, if_true, if_false, ne_eq, forall_const, exists_eq_left, forall_eq, implies_true, id_eq, AV.weak, AV.weak.weakL, aun, isIface, e1]; try rfl
      · simp -implicitDefEqProofs only [vcx, tys, reduceIte, reduceCtorEq, Nat.reduceAdd, Nat.reduceLT, Nat.reduceEqDiff, Nat.reduceLeDiff, Nat.reduceSub, Nat.reduceMul, Int.reduceLE, Int.reduceNeg, Int.reduceLT, String.reduceBEq, splice, afill, Nat.reducePow, Nat.reduceBEq, eq_self, forall_exists_index, forall_apply_eq_imp_iff₂, exists_eq_left', ite_true, ite_false, if_true, if_false, ne_eq, forall_const, exists_eq_left, forall_eq, implies_true, id_eq, AV.weak, AV.weak.weakL, aun, isIface]; rw [wrap_i64 (by simp only [maxN] at hl; omega) (by simp only [maxN] at hl; omega)]; rfl
    · rw [hh, List.drop_of_length_le (by omega), List.drop_of_length_le (by omega)]; rfl

def sameV (a b : View) : Bool := decide (a.ms = b.ms) && decide (a.cs = b.cs)
theorem same_ok (a b : View) : Abs.Pure Try.prog 11 [encV a, encV b] (encB (sameV a b)) := by
  refine Pure.intro Try.func11 rfl rfl fun S0 w0 => vc_sound _ ?_
  simp -implicitDefEqProofs only [vcx, tys, reduceIte, reduceCtorEq, Nat.reduceAdd, Nat.reduceLT, Nat.reduceEqDiff, Nat.reduceLeDiff, Nat.reduceSub, Nat.reduceMul, Int.reduceLE, Int.reduceNeg, Int.reduceLT, String.reduceBEq, splice, afill, Nat.reducePow, Nat.reduceBEq, eq_self, forall_exists_index, forall_apply_eq_imp_iff₂, exists_eq_left', ite_true, ite_false, if_true, if_false, ne_eq, forall_const, exists_eq_left, forall_eq, implies_true, id_eq, AV.weak, AV.weak.weakL, aun, isIface, Try.results11, Try.ntmps11, encV]
  refine call_p (eqMs_ok _ _) rfl ?_
  simp -implicitDefEqProofs only [vcx, tys, reduceIte, reduceCtorEq, Nat.reduceAdd, Nat.reduceLT, Nat.reduceEqDiff, Nat.reduceLeDiff, Nat.reduceSub, Nat.reduceMul, Int.reduceLE, Int.reduceNeg, Int.reduceLT, String.reduceBEq, splice, afill, Nat.reducePow, Nat.reduceBEq, eq_self, forall_exists_index, forall_apply_eq_imp_iff₂, exists_eq_left', ite_true, ite_false, if_true, if_false, ne_eq, forall_const, exists_eq_left, forall_eq, implies_true, id_eq, AV.weak, AV.weak.weakL, aun, isIface, Try.results11, Try.ntmps11, encB]
  refine gif_split (fun h => ?_) (fun h => ?_)
  · simp -implicitDefEqProofs only [vcx, tys, reduceIte, reduceCtorEq, Nat.reduceAdd, Nat.reduceLT, Nat.reduceEqDiff, Nat.reduceLeDiff, Nat.reduceSub, Nat.reduceMul, Int.reduceLE, Int.reduceNeg, Int.reduceLT, String.reduceBEq, splice, afill, Nat.reducePow, Nat.reduceBEq, eq_self, forall_exists_index, forall_apply_eq_imp_iff₂, exists_eq_left', ite_true, ite_false, if_true, if_false, ne_eq, forall_const, exists_eq_left, forall_eq, implies_true, id_eq, AV.weak, AV.weak.weakL, aun, isIface, Try.results11, Try.ntmps11, encB, h]
    refine call_p (eqCs_ok _ _) rfl ?_
    simp -implicitDefEqProofs only [vcx, tys, reduceIte, reduceCtorEq, Nat.reduceAdd, Nat.reduceLT, Nat.reduceEqDiff, Nat.reduceLeDiff, Nat.reduceSub, Nat.reduceMul, Int.reduceLE, Int.reduceNeg, Int.reduceLT, String.reduceBEq, splice, afill, Nat.reducePow, Nat.reduceBEq, eq_self, forall_exists_index, forall_apply_eq_imp_iff₂, exists_eq_left', ite_true, ite_false, if_true, if_false, ne_eq, forall_const, exists_eq_left, forall_eq, implies_true, id_eq, AV.weak, AV.weak.weakL, aun, isIface, Try.results11, Try.ntmps11, encB, h]
    simp [sameV, h]
  · simp -implicitDefEqProofs only [vcx, tys, reduceIte, reduceCtorEq, Nat.reduceAdd, Nat.reduceLT, Nat.reduceEqDiff, Nat.reduceLeDiff, Nat.reduceSub, Nat.reduceMul, Int.reduceLE, Int.reduceNeg, Int.reduceLT, String.reduceBEq, splice, afill, Nat.reducePow, Nat.reduceBEq, eq_self, forall_exists_index, forall_apply_eq_imp_iff₂, exists_eq_left', ite_true, ite_false, if_true, if_false, ne_eq, forall_const, exists_eq_left, forall_eq, implies_true, id_eq, AV.weak, AV.weak.weakL, aun, isIface, Try.results11, Try.ntmps11, encB, h]
    simp [sameV, h, AV.weak]

theorem sameVr_ok (a b : View) : Abs.Pure Try.prog 12 [encV a, encV b] (encB (sameV a b)) := by
  refine Pure.intro Try.func12 rfl rfl fun S0 w0 => vc_sound _ ?_
  simp -implicitDefEqProofs only [vcx, tys, reduceIte, reduceCtorEq, Nat.reduceAdd, Nat.reduceLT, Nat.reduceEqDiff, Nat.reduceLeDiff, Nat.reduceSub, Nat.reduceMul, Int.reduceLE, Int.reduceNeg, Int.reduceLT, String.reduceBEq, splice, afill, Nat.reducePow, Nat.reduceBEq, eq_self, forall_exists_index, forall_apply_eq_imp_iff₂, exists_eq_left', ite_true, ite_false, if_true, if_false, ne_eq, forall_const, exists_eq_left, forall_eq, implies_true, id_eq, AV.weak, AV.weak.weakL, aun, isIface, Try.results12, Try.ntmps12, encV]
  intro hl hr
  refine gif_split (fun h => ?_) (fun h => ?_)
  · simp -implicitDefEqProofs only [vcx, tys, reduceIte, reduceCtorEq, Nat.reduceAdd, Nat.reduceLT, Nat.reduceEqDiff, Nat.reduceLeDiff, Nat.reduceSub, Nat.reduceMul, Int.reduceLE, Int.reduceNeg, Int.reduceLT, String.reduceBEq, splice, afill, Nat.reducePow, Nat.reduceBEq, eq_self, forall_exists_index, forall_apply_eq_imp_iff₂, exists_eq_left', ite_true, ite_false, if_true, if_false, ne_eq, forall_const, exists_eq_left, forall_eq, implies_true, id_eq, AV.weak, AV.weak.weakL, aun, isIface, Try.results12, Try.ntmps12, h]
    have h' : ¬ (a.ms.length : Int) = b.ms.length := by simpa using h
    have : ¬ a.ms = b.ms := fun e => h' (by rw [e])
    simp [encB, sameV, this]
  simp -implicitDefEqProofs only [vcx, tys, reduceIte, reduceCtorEq, Nat.reduceAdd, Nat.reduceLT, Nat.reduceEqDiff, Nat.reduceLeDiff, Nat.reduceSub, Nat.reduceMul, Int.reduceLE, Int.reduceNeg, Int.reduceLT, String.reduceBEq, splice, afill, Nat.reducePow, Nat.reduceBEq, eq_self, forall_exists_index, forall_apply_eq_imp_iff₂, exists_eq_left', ite_true, ite_false, if_true, if_false, ne_eq, forall_const, exists_eq_left, forall_eq, implies_true, id_eq, AV.weak, AV.weak.weakL, aun, isIface, Try.results12, Try.ntmps12, h]
  have h' : a.ms.length = b.ms.length := by simp at h; omega
  simp -implicitDefEqProofs only [vcx, tys, reduceIte, reduceCtorEq, Nat.reduceAdd, Nat.reduceLT, Nat.reduceEqDiff, Nat.reduceLeDiff, Nat.reduceSub, Nat.reduceMul, Int.reduceLE, Int.reduceNeg, Int.reduceLT, String.reduceBEq, splice, afill, Nat.reducePow, Nat.reduceBEq, eq_self, forall_exists_index, forall_apply_eq_imp_iff₂, exists_eq_left', ite_true, ite_false, if_true, if_false, ne_eq, forall_const, exists_eq_left, forall_eq, implies_true, id_eq, AV.weak, AV.weak.weakL, aun, isIface, Try.results12, Try.ntmps12, h']
  intro hl2 hr2
  refine ⟨fun h2 => ?_, fun h2 => ?_⟩
  · have : ¬ a.cs = b.cs := fun e => h2 (by rw [e])
    simp [encB, sameV, this]
  refine awp_loop (fun m σ => ∃ i : Nat, m + i = a.ms.length ∧ decide (a.ms = b.ms) = decide (a.ms.drop i = b.ms.drop i) ∧ ∃ e, σ = Sta.mk e 59 [BoxC.mk [.sl .no (a.ms.map encM), .sl .no (a.cs.map encC)] true, BoxC.mk [.sl .no (b.ms.map encM), .sl .no (b.cs.map encC)] true] [] [] false ∧ e 2 = .bptr 0 0 ∧ e 3 = .bptr 1 0 ∧ e 5 = encI i) (m := a.ms.length) ?_ ?_
  · refine ⟨0, rfl, rfl, _, rfl, ?_, ?_, ?_⟩ <;> simp -implicitDefEqProofs only [vcx, tys, reduceIte, reduceCtorEq, Nat.reduceAdd, Nat.reduceLT, Nat.reduceEqDiff, Nat.reduceLeDiff, Nat.reduceSub, Nat.reduceMul, Int.reduceLE, Int.reduceNeg, Int.reduceLT, String.reduceBEq, splice, afill, Nat.reducePow, Nat.reduceBEq, eq_self, forall_exists_index, forall_apply_eq_imp_iff₂, exists_eq_left', ite_true, ite_false, if_true, if_false, ne_eq, forall_const, exists_eq_left, forall_eq, implies_true, id_eq, AV.weak, AV.weak.weakL, aun, isIface] <;> rfl
  · rintro m σ ⟨i, hm, hh, e, rfl, e2, e3, e5⟩
    refine vc_sound _ ?_
    simp -implicitDefEqProofs only [vcx, tys, reduceIte, reduceCtorEq, Nat.reduceAdd, Nat.reduceLT, Nat.reduceEqDiff, Nat.reduceLeDiff, Nat.reduceSub, Nat.reduceMul, Int.reduceLE, Int.reduceNeg, Int.reduceLT, String.reduceBEq, splice, afill, Nat.reducePow, Nat.reduceBEq, eq_self, forall_exists_index, forall_apply_eq_imp_iff₂, exists_eq_left', ite_true, ite_false, if_true, if_false, ne_eq, forall_const, exists_eq_left, forall_eq, implies_true, id_eq, AV.weak, AV.weak.weakL, aun, isIface, Try.results12, e2, e3, e5, encI]
    intro _
    refine ⟨fun hlt => ?_, fun hge => ?_⟩
    · refine awp_gen [] mixed (by kernel_rfl) ?_
      simp -implicitDefEqProofs only [vcx, tys, reduceIte, reduceCtorEq, Nat.reduceAdd, Nat.reduceLT, Nat.reduceEqDiff, Nat.reduceLeDiff, Nat.reduceSub, Nat.reduceMul, Int.reduceLE, Int.reduceNeg, Int.reduceLT, String.reduceBEq, splice, afill, Nat.reducePow, Nat.reduceBEq, eq_self, forall_exists_index, forall_apply_eq_imp_iff₂, exists_eq_left', ite_true, ite_false, if_true, if_false, ne_eq, forall_const, exists_eq_left, forall_eq, implies_true, id_eq, AV.weak, AV.weak.weakL, aun, isIface, vcd, Try.results12, e2, e3, e5, encI, encM]
      refine ⟨by omega, hlt, fun x hx => ⟨by omega, by omega, fun y hy => ?_⟩⟩
      have hd := drop_at hx
      have hd' := drop_at hy
      rw [hd, hd'] at hh
      refine ⟨fun h => ?_, fun h => ⟨m - 1, by omega, i + 1, by omega, ?_, _, rfl, ?_, ?_, ?_⟩⟩
      · have : ¬ x = y := fun e => by subst e; simp at h
        simp only [sameV, hh]; simp [encB, this]
      · have : x = y := by cases x; cases y; simpa using h
        rw [hh]; simp [this]
      · simp -implicitDefEqProofs only [vcx, tys, reduceIte, reduceCtorEq, Nat.reduceAdd, Nat.reduceLT, Nat.reduceEqDiff, Nat.reduceLeDiff, Nat.reduceSub, Nat.reduceMul, Int.reduceLE, Int.reduceNeg, Int.reduceLT, String.reduceBEq, splice, afill, Nat.reducePow, Nat.reduceBEq, eq_self, forall_exists_index, forall_apply_eq_imp_iff₂, exists_eq_left', ite_true, ite_false, if_true, if_false, ne_eq, forall_const, exists_eq_left, forall_eq, implies_true, id_eq, AV.weak, AV.weak.weakL, aun, isIface, e2]
      · simp -implicitDefEqProofs only [vcx, tys, reduceIte, reduceCtorEq, Nat.reduceAdd, Nat.reduceLT, Nat.reduceEqDiff, Nat.reduceLeDiff, Nat.reduceSub, Nat.reduceMul, Int.reduceLE, Int.reduceNeg, Int.reduceLT, String.reduceBEq, splice, afill, Nat.reducePow, Nat.reduceBEq, eq_self, forall_exists_index, forall_apply_eq_imp_iff₂, exists_eq_left', ite_true, ite_false, if_true, if_false, ne_eq, forall_const, exists_eq_left, forall_eq, implies_true, id_eq, AV.weak, AV.weak.weakL, aun, isIface, e3]
      · simp -implicitDefEqProofs only [vcx, tys, reduceIte, reduceCtorEq, Nat.reduceAdd, Nat.reduceLT, Nat.reduceEqDiff, Nat.reduceLeDiff, Nat.reduceSub, Nat.reduceMul, Int.reduceLE, Int.reduceNeg, Int.reduceLT, String.reduceBEq, splice, afill, Nat.reducePow, Nat.reduceBEq, eq_self, forall_exists_index, forall_apply_eq_imp_iff₂, exists_eq_left', ite_true, ite_false, if_true, if_false, ne_eq, forall_const, exists_eq_left, forall_eq, implies_true, id_eq, AV.weak, AV.weak.weakL, aun, isIface]; rw [wrap_i64 (by simp only [maxN] at hl; omega) (by simp only [maxN] at hl; omega)]; rfl
    · rw [List.drop_of_length_le (by omega), List.drop_of_length_le (by omega)] at hh
      have hms : decide (a.ms = b.ms) = true := by rw [hh]; rfl
      refine awp_loop (fun m σ => ∃ i : Nat, m + i = a.cs.length ∧ decide (a.cs = b.cs) = decide (a.cs.drop i = b.cs.drop i) ∧ ∃ e, σ = Sta.mk e 59 [BoxC.mk [.sl .no (a.ms.map encM), .sl .no (a.cs.map encC)] true, BoxC.mk [.sl .no (b.ms.map encM), .sl .no (b.cs.map encC)] true] [] [] false ∧ e 2 = .bptr 0 0 ∧ e 3 = .bptr 1 0 ∧ e 6 = encI i) (m := a.cs.length) ?_ ?_
      · refine ⟨0, rfl, rfl, _, rfl, ?_, ?_, ?_⟩ <;> simp -implicitDefEqProofs only [vcx, tys, reduceIte, reduceCtorEq, Nat.reduceAdd, Nat.reduceLT, Nat.reduceEqDiff, Nat.reduceLeDiff, Nat.reduceSub, Nat.reduceMul, Int.reduceLE, Int.reduceNeg, Int.reduceLT, String.reduceBEq, splice, afill, Nat.reducePow, Nat.reduceBEq, eq_self, forall_exists_index, forall_apply_eq_imp_iff₂, exists_eq_left', ite_true, ite_false, if_true, if_false, ne_eq, forall_const, exists_eq_left, forall_eq, implies_true, id_eq, AV.weak, AV.weak.weakL, aun, isIface, e2, e3] <;> rfl
      · rintro m σ ⟨i, hm, hh, e, rfl, e2, e3, e6⟩
        refine vc_sound _ ?_
        simp -implicitDefEqProofs only [vcx, tys, reduceIte, reduceCtorEq, Nat.reduceAdd, Nat.reduceLT, Nat.reduceEqDiff, Nat.reduceLeDiff, Nat.reduceSub, Nat.reduceMul, Int.reduceLE, Int.reduceNeg, Int.reduceLT, String.reduceBEq, splice, afill, Nat.reducePow, Nat.reduceBEq, eq_self, forall_exists_index, forall_apply_eq_imp_iff₂, exists_eq_left', ite_true, ite_false, if_true, if_false, ne_eq, forall_const, exists_eq_left, forall_eq, implies_true, id_eq, AV.weak, AV.weak.weakL, aun, isIface, Try.results12, e2, e3, e6, encI]
        intro _
        refine ⟨fun hlt => ?_, fun hge => ?_⟩
        · refine awp_gen [] mixed (by kernel_rfl) ?_
          simp -implicitDefEqProofs only [vcx, tys, reduceIte, reduceCtorEq, Nat.reduceAdd, Nat.reduceLT, Nat.reduceEqDiff, Nat.reduceLeDiff, Nat.reduceSub, Nat.reduceMul, Int.reduceLE, Int.reduceNeg, Int.reduceLT, String.reduceBEq, splice, afill, Nat.reducePow, Nat.reduceBEq, eq_self, forall_exists_index, forall_apply_eq_imp_iff₂, exists_eq_left', ite_true, ite_false, if_true, if_false, ne_eq, forall_const, exists_eq_left, forall_eq, implies_true, id_eq, AV.weak, AV.weak.weakL, aun, isIface, vcd, Try.results12, e2, e3, e6, encI, encC]
          refine ⟨by omega, hlt, fun x hx => ⟨by omega, by omega, fun y hy => ?_⟩⟩
          have hd := drop_at hx
          have hd' := drop_at hy
          rw [hd, hd'] at hh
          refine ⟨fun h => ?_, fun h => ⟨m - 1, by omega, i + 1, by omega, ?_, _, rfl, ?_, ?_, ?_⟩⟩
          · have : ¬ x = y := fun e => by subst e; simp [bytes_beq] at h
            simp only [sameV, hh, hms]; simp [encB, this]
          · have : x = y := by cases x; cases y; simpa [bytes_beq] using h
            rw [hh]; simp [this]
          · simp -implicitDefEqProofs only [vcx, tys, reduceIte, reduceCtorEq, Nat.reduceAdd, Nat.reduceLT, Nat.reduceEqDiff, Nat.reduceLeDiff, Nat.reduceSub, Nat.reduceMul, Int.reduceLE, Int.reduceNeg, Int.reduceLT, String.reduceBEq, splice, afill, Nat.reducePow, Nat.reduceBEq, eq_self, forall_exists_index, forall_apply_eq_imp_iff₂, exists_eq_left', ite_true, ite_false, if_true, if_false, ne_eq, forall_const, exists_eq_left, forall_eq, implies_true, id_eq, AV.weak, AV.weak.weakL, aun, isIface, e2]
          · simp -implicitDefEqProofs only [vcx, tys, reduceIte, reduceCtorEq, Nat.reduceAdd, Nat.reduceLT, Nat.reduceEqDiff, Nat.reduceLeDiff, Nat.reduceSub, Nat.reduceMul, Int.reduceLE, Int.reduceNeg, Int.reduceLT, String.reduceBEq, splice, afill, Nat.reducePow, Nat.reduceBEq, eq_self, forall_exists_index, forall_apply_eq_imp_iff₂, exists_eq_left', ite_true, ite_false, if_true, if_false, ne_eq, forall_const, exists_eq_left, forall_eq, implies_true, id_eq, AV.weak, AV.weak.weakL, aun, isIface, e3]
          · simp -implicitDefEqProofs only [vcx, tys, reduceIte, reduceCtorEq, Nat.reduceAdd, Nat.reduceLT, Nat.reduceEqDiff, Nat.reduceLeDiff, Nat.reduceSub, Nat.reduceMul, Int.reduceLE, Int.reduceNeg, Int.reduceLT, String.reduceBEq, splice, afill, Nat.reducePow, Nat.reduceBEq, eq_self, forall_exists_index, forall_apply_eq_imp_iff₂, exists_eq_left', ite_true, ite_false, if_true, if_false, ne_eq, forall_const, exists_eq_left, forall_eq, implies_true, id_eq, AV.weak, AV.weak.weakL, aun, isIface]; rw [wrap_i64 (by simp only [maxN] at hl2; omega) (by simp only [maxN] at hl2; omega)]; rfl
        · simp only [sameV, hh, hms]; rw [List.drop_of_length_le (by omega), List.drop_of_length_le (by omega)]; rfl

def topV (v : View) : Bool := (v.ms.any fun m => IntKind.u64.wrap (m.n + 1) == 0) || (v.cs.any fun c => IntKind.u64.wrap (c.n + 1) == 0)
theorem top_ok (v : View) : Abs.Pure Try.prog 15 [encV v] (encB (topV v)) := by
  refine Pure.intro Try.func15 rfl rfl fun S0 w0 => vc_sound _ ?_
  simp -implicitDefEqProofs only [vcx, tys, reduceIte, reduceCtorEq, Nat.reduceAdd, Nat.reduceLT, Nat.reduceEqDiff, Nat.reduceLeDiff, Nat.reduceSub, Nat.reduceMul, Int.reduceLE, Int.reduceNeg, Int.reduceLT, String.reduceBEq, splice, afill, Nat.reducePow, Nat.reduceBEq, eq_self, forall_exists_index, forall_apply_eq_imp_iff₂, exists_eq_left', ite_true, ite_false, if_true, if_false, ne_eq, forall_const, exists_eq_left, forall_eq, implies_true, id_eq, AV.weak, AV.weak.weakL, aun, isIface, Try.results15, Try.ntmps15, encV]
  refine awp_loop (fun m σ => ∃ i : Nat, m + i = v.ms.length ∧ topV v = topV ⟨v.ms.drop i, v.cs⟩ ∧ ∃ e, σ = Sta.mk e 35 [BoxC.mk [.sl .no (v.ms.map encM), .sl .no (v.cs.map encC)] true] [] [] false ∧ e 1 = .bptr 0 0 ∧ e 3 = encI i) (m := v.ms.length) ?_ ?_
  · refine ⟨0, rfl, rfl, _, rfl, ?_, ?_⟩ <;> simp -implicitDefEqProofs only [vcx, tys, reduceIte, reduceCtorEq, Nat.reduceAdd, Nat.reduceLT, Nat.reduceEqDiff, Nat.reduceLeDiff, Nat.reduceSub, Nat.reduceMul, Int.reduceLE, Int.reduceNeg, Int.reduceLT, String.reduceBEq, splice, afill, Nat.reducePow, Nat.reduceBEq, eq_self, forall_exists_index, forall_apply_eq_imp_iff₂, exists_eq_left', ite_true, ite_false, if_true, if_false, ne_eq, forall_const, exists_eq_left, forall_eq, implies_true, id_eq, AV.weak, AV.weak.weakL, aun, isIface] <;> rfl
  · rintro m σ ⟨i, hm, hh, e, rfl, e1, e3⟩
    refine vc_sound _ ?_
    simp -implicitDefEqProofs only [vcx, tys, reduceIte, reduceCtorEq, Nat.reduceAdd, Nat.reduceLT, Nat.reduceEqDiff, Nat.reduceLeDiff, Nat.reduceSub, Nat.reduceMul, Int.reduceLE, Int.reduceNeg, Int.reduceLT, String.reduceBEq, splice, afill, Nat.reducePow, Nat.reduceBEq, eq_self, forall_exists_index, forall_apply_eq_imp_iff₂, exists_eq_left', ite_true, ite_false, if_true, if_false, ne_eq, forall_const, exists_eq_left, forall_eq, implies_true, id_eq, AV.weak, AV.weak.weakL, aun, isIface, Try.results15, e1, e3, encI, encM]
    intro hl
    refine ⟨fun hlt => ⟨by omega, hlt, fun a ha => ?_⟩, fun hge => ?_⟩
    · have hd := drop_at ha
      rw [hd] at hh
      refine ⟨fun h => ?_, fun h => ⟨m - 1, by omega, i + 1, by omega, ?_, _, rfl, ?_, ?_⟩⟩
      · rw [hh]; simp [encB, topV, h]
      · have h' : (IntKind.u64.wrap (a.n + 1) == 0) = false := by simpa using h
        rw [hh]; simp [topV, h']
      · simp -implicitDefEqProofs only [vcx, tys, reduceIte, reduceCtorEq, Nat.reduceAdd, Nat.reduceLT, Nat.reduceEqDiff, Nat.reduceLeDiff, Nat.reduceSub, Nat.reduceMul, Int.reduceLE, Int.reduceNeg, Int.reduceLT, String.reduceBEq, splice, afill, Nat.reducePow, Nat.reduceBEq, eq_self, forall_exists_index, forall_apply_eq_imp_iff₂, exists_eq_left', ite_true, ite_false, if_true, if_false, ne_eq, forall_const, exists_eq_left, forall_eq, implies_true, id_eq, AV.weak, AV.weak.weakL, aun, isIface, e1]; try rfl
      · simp -implicitDefEqProofs only [vcx, tys, reduceIte, reduceCtorEq, Nat.reduceAdd, Nat.reduceLT, Nat.reduceEqDiff, Nat.reduceLeDiff, Nat.reduceSub, Nat.reduceMul, Int.reduceLE, Int.reduceNeg, Int.reduceLT, String.reduceBEq, splice, afill, Nat.reducePow, Nat.reduceBEq, eq_self, forall_exists_index, forall_apply_eq_imp_iff₂, exists_eq_left', ite_true, ite_false, if_true, if_false, ne_eq, forall_const, exists_eq_left, forall_eq, implies_true, id_eq, AV.weak, AV.weak.weakL, aun, isIface]; rw [wrap_i64 (by simp only [maxN] at hl; omega) (by simp only [maxN] at hl; omega)]; rfl
    · have hi : v.ms.drop i = [] := List.drop_of_length_le (by omega)
      rw [hi] at hh
      refine awp_loop (fun m σ => ∃ i : Nat, m + i = v.cs.length ∧ topV v = topV ⟨[], v.cs.drop i⟩ ∧ ∃ e, σ = Sta.mk e 35 [BoxC.mk [.sl .no (v.ms.map encM), .sl .no (v.cs.map encC)] true] [] [] false ∧ e 1 = .bptr 0 0 ∧ e 4 = encI i) (m := v.cs.length) ?_ ?_
      · refine ⟨0, rfl, hh, _, rfl, ?_, ?_⟩ <;> simp -implicitDefEqProofs only [vcx, tys, reduceIte, reduceCtorEq, Nat.reduceAdd, Nat.reduceLT, Nat.reduceEqDiff, Nat.reduceLeDiff, Nat.reduceSub, Nat.reduceMul, Int.reduceLE, Int.reduceNeg, Int.reduceLT, String.reduceBEq, splice, afill, Nat.reducePow, Nat.reduceBEq, eq_self, forall_exists_index, forall_apply_eq_imp_iff₂, exists_eq_left', ite_true, ite_false, if_true, if_false, ne_eq, forall_const, exists_eq_left, forall_eq, implies_true, id_eq, AV.weak, AV.weak.weakL, aun, isIface, e1] <;> rfl
      · rintro m σ ⟨i, hm, hh, e, rfl, e1, e4⟩
        refine vc_sound _ ?_
        simp -implicitDefEqProofs only [vcx, tys, reduceIte, reduceCtorEq, Nat.reduceAdd, Nat.reduceLT, Nat.reduceEqDiff, Nat.reduceLeDiff, Nat.reduceSub, Nat.reduceMul, Int.reduceLE, Int.reduceNeg, Int.reduceLT, String.reduceBEq, splice, afill, Nat.reducePow, Nat.reduceBEq, eq_self, forall_exists_index, forall_apply_eq_imp_iff₂, exists_eq_left', ite_true, ite_false, if_true, if_false, ne_eq, forall_const, exists_eq_left, forall_eq, implies_true, id_eq, AV.weak, AV.weak.weakL, aun, isIface, Try.results15, e1, e4, encI, encC]
        intro hl
        refine ⟨fun hlt => ⟨by omega, hlt, fun a ha => ?_⟩, fun hge => ?_⟩
        · have hd := drop_at ha
          rw [hd] at hh
          refine ⟨fun h => ?_, fun h => ⟨m - 1, by omega, i + 1, by omega, ?_, _, rfl, ?_, ?_⟩⟩
          · rw [hh]; simp [encB, topV, h]
          · have h' : (IntKind.u64.wrap (a.n + 1) == 0) = false := by simpa using h
            rw [hh]; simp [topV, h']
          · simp -implicitDefEqProofs only [vcx, tys, reduceIte, reduceCtorEq, Nat.reduceAdd, Nat.reduceLT, Nat.reduceEqDiff, Nat.reduceLeDiff, Nat.reduceSub, Nat.reduceMul, Int.reduceLE, Int.reduceNeg, Int.reduceLT, String.reduceBEq, splice, afill, Nat.reducePow, Nat.reduceBEq, eq_self, forall_exists_index, forall_apply_eq_imp_iff₂, exists_eq_left', ite_true, ite_false, if_true, if_false, ne_eq, forall_const, exists_eq_left, forall_eq, implies_true, id_eq, AV.weak, AV.weak.weakL, aun, isIface, e1]; try rfl
          · simp -implicitDefEqProofs only [vcx, tys, reduceIte, reduceCtorEq, Nat.reduceAdd, Nat.reduceLT, Nat.reduceEqDiff, Nat.reduceLeDiff, Nat.reduceSub, Nat.reduceMul, Int.reduceLE, Int.reduceNeg, Int.reduceLT, String.reduceBEq, splice, afill, Nat.reducePow, Nat.reduceBEq, eq_self, forall_exists_index, forall_apply_eq_imp_iff₂, exists_eq_left', ite_true, ite_false, if_true, if_false, ne_eq, forall_const, exists_eq_left, forall_eq, implies_true, id_eq, AV.weak, AV.weak.weakL, aun, isIface]; rw [wrap_i64 (by simp only [maxN] at hl; omega) (by simp only [maxN] at hl; omega)]; rfl
        · rw [hh, List.drop_of_length_le (by omega)]; rfl
end Go.Proofs.Ytlcajocjiehplaa
