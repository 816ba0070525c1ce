/- slices.BinarySearchFunc. -/
import Derived.Test.YtlcajocjiehplaaZzV7
set_option linter.unusedVariables false
set_option linter.unusedSimpArgs false
set_option maxRecDepth 10000
namespace Go.Proofs.Ytlcajocjiehplaa
open Go Go.Abs
def bsGo (p : Nat → Bool) : Nat → Nat → Nat → Nat
  | 0, i, _ => i
  | k + 1, i, j => if i < j then (if p ((i + j) / 2) then bsGo p k ((i + j) / 2 + 1) j else bsGo p k i ((i + j) / 2)) else i
def atB {α : Type} (l : List α) (p : α → Bool) (i : Nat) : Bool := match l[i]? with
  | some x => p x
  | none => false
def bsPos {α : Type} (l : List α) (c : α → Int) : Nat := bsGo (atB l fun x => decide (c x < 0)) l.length 0 l.length
def bsHit {α : Type} (l : List α) (c : α → Int) : Bool := atB l (fun x => decide (c x = 0)) (bsPos l c)
theorem bsearchC_ok (f : FuncId) (l : List Cop) (t : Cop) (c : Cop → Int) (hf : ∀ x, Abs.Pure Try.prog f [encC x, encC t] (encI (c x))) :
    Abs.Pure Try.prog 74 [.sl .no (l.map encC), encC t, .clo f []] (.tup [encI (bsPos l c), encB (bsHit l c)]) := by
  refine Pure.intro Try.func74 rfl rfl fun S0 w0 => vc_sound _ ?_
  simp -implicitDefEqProofs only [vcx, tys, reduceIte, reduceCtorEq, Nat.reduceAdd, Nat.reduceLT, Nat.reduceEqDiff, Nat.reduceLeDiff, Nat.reduceSub, Nat.reduceMul, Int.reduceLE, Int.reduceNeg, Int.reduceLT, String.reduceBEq, splice, afill, Nat.reducePow, Nat.reduceBEq, eq_self, forall_exists_index, forall_apply_eq_imp_iff₂, exists_eq_left', ite_true, ite_false, if_true, if_false, ne_eq, forall_const, exists_eq_left, forall_eq, implies_true, id_eq, AV.weak, AV.weak.weakL, aun, isIface, Try.results74, Try.ntmps74, encC]
  intro hl
  simp only [maxN] at hl
  refine awp_loop (fun m σ => ∃ i j : Nat, i ≤ j ∧ j ≤ l.length ∧ j ≤ i + m ∧ bsPos l c = bsGo (atB l fun x => decide (c x < 0)) m i j ∧ ∃ e, σ = Sta.mk e 49 [BoxC.mk [.lit (.string t.key), .lit (.int .u64 t.n), .lit (.int .u64 t.m)] true] [] [] false ∧
    e 0 = .sl .no (l.map encC) ∧ e 2 = .clo f [] ∧ e 4 = .bptr 0 0 ∧ e 8 = encI l.length ∧ e 9 = encI i ∧ e 10 = encI j) (m := l.length) ?_ ?_
  · refine ⟨0, l.length, Nat.zero_le _, Nat.le_refl _, by omega, rfl, _, rfl, ?_, ?_, ?_, ?_, ?_, ?_⟩ <;> simp -implicitDefEqProofs only [vcx, tys, reduceIte, reduceCtorEq, Nat.reduceAdd, Nat.reduceLT, Nat.reduceEqDiff, Nat.reduceLeDiff, Nat.reduceSub, Nat.reduceMul, Int.reduceLE, Int.reduceNeg, Int.reduceLT, String.reduceBEq, splice, afill, Nat.reducePow, Nat.reduceBEq, eq_self, forall_exists_index, forall_apply_eq_imp_iff₂, exists_eq_left', ite_true, ite_false, if_true, if_false, ne_eq, forall_const, exists_eq_left, forall_eq, implies_true, id_eq, AV.weak, AV.weak.weakL, aun, isIface] <;> rfl
  · rintro m σ ⟨i, j, hij, hj, hm, hh, e, rfl, e0, e2, e4, e8, e9, e10⟩
    refine vc_sound _ ?_
    have w1 : IntKind.i64.wrap ((i : Int) + j) = ((i + j : Nat) : Int) := by rw [wrap_i64 (by omega) (by omega)]; omega
    have w2 : IntKind.u64.wrap (((i + j : Nat) : Int)) = ((i + j : Nat) : Int) := wrap_u64 (by omega) (by omega)
    have w3 : (((i + j : Nat) : Int)).fdiv (2 ^ (min (1 : Int).toNat IntKind.u64.bits)) = (((i + j) / 2 : Nat) : Int) := by
      show (((i + j : Nat) : Int)).fdiv 2 = _
      rw [Int.fdiv_eq_ediv_of_nonneg _ (by omega)]; omega
    have w4 : IntKind.i64.wrap ((((i + j) / 2 : Nat) : Int)) = (((i + j) / 2 : Nat) : Int) := wrap_i64 (by omega) (by omega)
    have w5 : IntKind.i64.wrap ((((i + j) / 2 : Nat) : Int) + 1) = (((i + j) / 2 + 1 : Nat) : Int) := wrap_i64 (by omega) (by omega)
    simp -implicitDefEqProofs only [vcx, tys, reduceIte, reduceCtorEq, Nat.reduceAdd, Nat.reduceLT, Nat.reduceEqDiff, Nat.reduceLeDiff, Nat.reduceSub, Nat.reduceMul, Int.reduceLE, Int.reduceNeg, Int.reduceLT, String.reduceBEq, splice, afill, Nat.reducePow, Nat.reduceBEq, eq_self, forall_exists_index, forall_apply_eq_imp_iff₂, exists_eq_left', ite_true, ite_false, if_true, if_false, ne_eq, forall_const, exists_eq_left, forall_eq, implies_true, id_eq, AV.weak, AV.weak.weakL, aun, isIface, Try.results74, e0, e2, e4, e8, e9, e10, encI, vshift, w1, w2, w3, w4, w5]
    refine ⟨fun hlt => ?_, fun hge => ?_⟩
    · have hlt' : i < j := by omega
      obtain ⟨k, rfl⟩ : ∃ k, m = k + 1 := ⟨m - 1, by omega⟩
      refine awp_gen [] mixed (by kernel_rfl) ?_
      simp -implicitDefEqProofs only [vcx, tys, reduceIte, reduceCtorEq, Nat.reduceAdd, Nat.reduceLT, Nat.reduceEqDiff, Nat.reduceLeDiff, Nat.reduceSub, Nat.reduceMul, Int.reduceLE, Int.reduceNeg, Int.reduceLT, String.reduceBEq, splice, afill, Nat.reducePow, Nat.reduceBEq, eq_self, forall_exists_index, forall_apply_eq_imp_iff₂, exists_eq_left', ite_true, ite_false, if_true, if_false, ne_eq, forall_const, exists_eq_left, forall_eq, implies_true, id_eq, AV.weak, AV.weak.weakL, aun, isIface, vcd, Try.results74, e0, e2, e4, e8, e9, e10, encI, encC]
      refine ⟨by omega, by omega, fun a ha => ?_⟩
      refine dcall_p (hf a) rfl ?_
      simp -implicitDefEqProofs only [vcx, tys, reduceIte, reduceCtorEq, Nat.reduceAdd, Nat.reduceLT, Nat.reduceEqDiff, Nat.reduceLeDiff, Nat.reduceSub, Nat.reduceMul, Int.reduceLE, Int.reduceNeg, Int.reduceLT, String.reduceBEq, splice, afill, Nat.reducePow, Nat.reduceBEq, eq_self, forall_exists_index, forall_apply_eq_imp_iff₂, exists_eq_left', ite_true, ite_false, if_true, if_false, ne_eq, forall_const, exists_eq_left, forall_eq, implies_true, id_eq, AV.weak, AV.weak.weakL, aun, isIface, vcd, Try.results74, e0, e2, e4, e8, e9, e10, encI, encC]
      rw [Int.toNat_natCast] at ha
      have hat : atB l (fun x => decide (c x < 0)) ((i + j) / 2) = decide (c a < 0) := by simp only [atB, ha]
      have hgo : bsGo (atB l fun x => decide (c x < 0)) (k + 1) i j = if decide (c a < 0) = true then bsGo (atB l fun x => decide (c x < 0)) k ((i + j) / 2 + 1) j else bsGo (atB l fun x => decide (c x < 0)) k i ((i + j) / 2) := by
        rw [bsGo, if_pos hlt', hat]
      refine ⟨fun hc => ⟨k, by omega, (i + j) / 2 + 1, j, by omega, hj, by omega, ?_, _, rfl, ?_, ?_, ?_, ?_, ?_, ?_⟩, fun hc => ⟨k, by omega, i, (i + j) / 2, by omega, by omega, by omega, ?_, _, rfl, ?_, ?_, ?_, ?_, ?_, ?_⟩⟩
      · rw [hh, hgo, if_pos (by simpa using hc)]
      iterate 6 (simp -implicitDefEqProofs only [vcx, tys, reduceIte, reduceCtorEq, Nat.reduceAdd, Nat.reduceLT, Nat.reduceEqDiff, Nat.reduceLeDiff, Nat.reduceSub, Nat.reduceMul, Int.reduceLE, Int.reduceNeg, Int.reduceLT, String.reduceBEq, splice, afill, Nat.reducePow, Nat.reduceBEq, eq_self, forall_exists_index, forall_apply_eq_imp_iff₂, exists_eq_left', ite_true, ite_false, if_true, if_false, ne_eq, forall_const, exists_eq_left, forall_eq, implies_true, id_eq, AV.weak, AV.weak.weakL, aun, isIface, e0, e2, e4, e8, e9, e10, w5, encI])
      · rw [hh, hgo, if_neg (by simpa using hc)]
      iterate 6 (simp -implicitDefEqProofs only [vcx, tys, reduceIte, reduceCtorEq, Nat.reduceAdd, Nat.reduceLT, Nat.reduceEqDiff, Nat.reduceLeDiff, Nat.reduceSub, Nat.reduceMul, Int.reduceLE, Int.reduceNeg, Int.reduceLT, String.reduceBEq, splice, afill, Nat.reducePow, Nat.reduceBEq, eq_self, forall_exists_index, forall_apply_eq_imp_iff₂, exists_eq_left', ite_true, ite_false, if_true, if_false, ne_eq, forall_const, exists_eq_left, forall_eq, implies_true, id_eq, AV.weak, AV.weak.weakL, aun, isIface, e0, e2, e4, e8, e9, e10, encI])
    · have hij' : i = j := by omega
      subst hij'
      have hpos : bsPos l c = i := by
        rw [hh]; cases m with
        | zero => rfl
        | succ m => rw [bsGo, if_neg (by omega)]
      refine awp_gen [] mixed (by kernel_rfl) ?_
      simp -implicitDefEqProofs only [vcx, tys, reduceIte, reduceCtorEq, Nat.reduceAdd, Nat.reduceLT, Nat.reduceEqDiff, Nat.reduceLeDiff, Nat.reduceSub, Nat.reduceMul, Int.reduceLE, Int.reduceNeg, Int.reduceLT, String.reduceBEq, splice, afill, Nat.reducePow, Nat.reduceBEq, eq_self, forall_exists_index, forall_apply_eq_imp_iff₂, exists_eq_left', ite_true, ite_false, if_true, if_false, ne_eq, forall_const, exists_eq_left, forall_eq, implies_true, id_eq, AV.weak, AV.weak.weakL, aun, isIface, vcd, Try.results74, e0, e2, e4, e8, e9, e10, encI, encC]
      refine gif_split (fun h => ?_) (fun h => ?_)
      · simp -implicitDefEqProofs only [vcx, tys, reduceIte, reduceCtorEq, Nat.reduceAdd, Nat.reduceLT, Nat.reduceEqDiff, Nat.reduceLeDiff, Nat.reduceSub, Nat.reduceMul, Int.reduceLE, Int.reduceNeg, Int.reduceLT, String.reduceBEq, splice, afill, Nat.reducePow, Nat.reduceBEq, eq_self, forall_exists_index, forall_apply_eq_imp_iff₂, exists_eq_left', ite_true, ite_false, if_true, if_false, ne_eq, forall_const, exists_eq_left, forall_eq, implies_true, id_eq, AV.weak, AV.weak.weakL, aun, isIface, vcd, Try.results74, e0, e2, e4, e8, e9, e10, encI, encC, h]
        refine ⟨by omega, by simpa using h, fun a ha => ?_⟩
        refine dcall_p (hf a) rfl ?_
        rw [Int.toNat_natCast] at ha
        simp -implicitDefEqProofs only [vcx, tys, reduceIte, reduceCtorEq, Nat.reduceAdd, Nat.reduceLT, Nat.reduceEqDiff, Nat.reduceLeDiff, Nat.reduceSub, Nat.reduceMul, Int.reduceLE, Int.reduceNeg, Int.reduceLT, String.reduceBEq, splice, afill, Nat.reducePow, Nat.reduceBEq, eq_self, forall_exists_index, forall_apply_eq_imp_iff₂, exists_eq_left', ite_true, ite_false, if_true, if_false, ne_eq, forall_const, exists_eq_left, forall_eq, implies_true, id_eq, AV.weak, AV.weak.weakL, aun, isIface, vcd, Try.results74, e0, e2, e4, e8, e9, e10, encI, encC, encB, h]
        simp [hpos, bsHit, atB, ha]
      · simp -implicitDefEqProofs only [vcx, tys, reduceIte, reduceCtorEq, Nat.reduceAdd, Nat.reduceLT, Nat.reduceEqDiff, Nat.reduceLeDiff, Nat.reduceSub, Nat.reduceMul, Int.reduceLE, Int.reduceNeg, Int.reduceLT, String.reduceBEq, splice, afill, Nat.reducePow, Nat.reduceBEq, eq_self, forall_exists_index, forall_apply_eq_imp_iff₂, exists_eq_left', ite_true, ite_false, if_true, if_false, ne_eq, forall_const, exists_eq_left, forall_eq, implies_true, id_eq, AV.weak, AV.weak.weakL, aun, isIface, vcd, Try.results74, e0, e2, e4, e8, e9, e10, encI, encC, encB, h]
        have : l[i]? = none := List.getElem?_eq_none (by simp at h; omega)
        simp [hpos, bsHit, atB, this]
theorem bsearchM_ok (f : FuncId) (l : List Mem) (t : Mem) (c : Mem → Int) (hf : ∀ x, Abs.Pure Try.prog f [encM x, encM t] (encI (c x))) :
    Abs.Pure Try.prog 78 [.sl .no (l.map encM), encM t, .clo f []] (.tup [encI (bsPos l c), encB (bsHit l c)]) := by
  refine Pure.intro Try.func78 rfl rfl fun S0 w0 => vc_sound _ ?_
  simp -implicitDefEqProofs only [vcx, tys, reduceIte, reduceCtorEq, Nat.reduceAdd, Nat.reduceLT, Nat.reduceEqDiff, Nat.reduceLeDiff, Nat.reduceSub, Nat.reduceMul, Int.reduceLE, Int.reduceNeg, Int.reduceLT, String.reduceBEq, splice, afill, Nat.reducePow, Nat.reduceBEq, eq_self, forall_exists_index, forall_apply_eq_imp_iff₂, exists_eq_left', ite_true, ite_false, if_true, if_false, ne_eq, forall_const, exists_eq_left, forall_eq, implies_true, id_eq, AV.weak, AV.weak.weakL, aun, isIface, Try.results78, Try.ntmps78, encM]
  intro hl
  simp only [maxN] at hl
  refine awp_loop (fun m σ => ∃ i j : Nat, i ≤ j ∧ j ≤ l.length ∧ j ≤ i + m ∧ bsPos l c = bsGo (atB l fun x => decide (c x < 0)) m i j ∧ ∃ e, σ = Sta.mk e 49 [BoxC.mk [.lit (.int .i64 t.node), .lit (.int .u64 t.n)] true] [] [] false ∧
    e 0 = .sl .no (l.map encM) ∧ e 2 = .clo f [] ∧ e 4 = .bptr 0 0 ∧ e 8 = encI l.length ∧ e 9 = encI i ∧ e 10 = encI j) (m := l.length) ?_ ?_
  · refine ⟨0, l.length, Nat.zero_le _, Nat.le_refl _, by omega, rfl, _, rfl, ?_, ?_, ?_, ?_, ?_, ?_⟩ <;> simp -implicitDefEqProofs only [vcx, tys, reduceIte, reduceCtorEq, Nat.reduceAdd, Nat.reduceLT, Nat.reduceEqDiff, Nat.reduceLeDiff, Nat.reduceSub, Nat.reduceMul, Int.reduceLE, Int.reduceNeg, Int.reduceLT, String.reduceBEq, splice, afill, Nat.reducePow, Nat.reduceBEq, eq_self, forall_exists_index, forall_apply_eq_imp_iff₂, exists_eq_left', ite_true, ite_false, if_true, if_false, ne_eq, forall_const, exists_eq_left, forall_eq, implies_true, id_eq, AV.weak, AV.weak.weakL, aun, isIface] <;> rfl
  · rintro m σ ⟨i, j, hij, hj, hm, hh, e, rfl, e0, e2, e4, e8, e9, e10⟩
    refine vc_sound _ ?_
    have w1 : IntKind.i64.wrap ((i : Int) + j) = ((i + j : Nat) : Int) := by rw [wrap_i64 (by omega) (by omega)]; omega
    have w2 : IntKind.u64.wrap (((i + j : Nat) : Int)) = ((i + j : Nat) : Int) := wrap_u64 (by omega) (by omega)
    have w3 : (((i + j : Nat) : Int)).fdiv (2 ^ (min (1 : Int).toNat IntKind.u64.bits)) = (((i + j) / 2 : Nat) : Int) := by
      show (((i + j : Nat) : Int)).fdiv 2 = _
      rw [Int.fdiv_eq_ediv_of_nonneg _ (by omega)]; omega
    have w4 : IntKind.i64.wrap ((((i + j) / 2 : Nat) : Int)) = (((i + j) / 2 : Nat) : Int) := wrap_i64 (by omega) (by omega)
    have w5 : IntKind.i64.wrap ((((i + j) / 2 : Nat) : Int) + 1) = (((i + j) / 2 + 1 : Nat) : Int) := wrap_i64 (by omega) (by omega)
    simp -implicitDefEqProofs only [vcx, tys, reduceIte, reduceCtorEq, Nat.reduceAdd, Nat.reduceLT, Nat.reduceEqDiff, Nat.reduceLeDiff, Nat.reduceSub, Nat.reduceMul, Int.reduceLE, Int.reduceNeg, Int.reduceLT, String.reduceBEq, splice, afill, Nat.reducePow, Nat.reduceBEq, eq_self, forall_exists_index, forall_apply_eq_imp_iff₂, exists_eq_left', ite_true, ite_false, if_true, if_false, ne_eq, forall_const, exists_eq_left, forall_eq, implies_true, id_eq, AV.weak, AV.weak.weakL, aun, isIface, Try.results78, e0, e2, e4, e8, e9, e10, encI, vshift, w1, w2, w3, w4, w5]
    refine ⟨fun hlt => ?_, fun hge => ?_⟩
    · have hlt' : i < j := by omega
      obtain ⟨k, rfl⟩ : ∃ k, m = k + 1 := ⟨m - 1, by omega⟩
      refine awp_gen [] mixed (by kernel_rfl) ?_
      simp -implicitDefEqProofs only [vcx, tys, reduceIte, reduceCtorEq, Nat.reduceAdd, Nat.reduceLT, Nat.reduceEqDiff, Nat.reduceLeDiff, Nat.reduceSub, Nat.reduceMul, Int.reduceLE, Int.reduceNeg, Int.reduceLT, String.reduceBEq, splice, afill, Nat.reducePow, Nat.reduceBEq, eq_self, forall_exists_index, forall_apply_eq_imp_iff₂, exists_eq_left', ite_true, ite_false, if_true, if_false, ne_eq, forall_const, exists_eq_left, forall_eq, implies_true, id_eq, AV.weak, AV.weak.weakL, aun, isIface, vcd, Try.results78, e0, e2, e4, e8, e9, e10, encI, encM]
      refine ⟨by omega, by omega, fun a ha => ?_⟩
      refine dcall_p (hf a) rfl ?_
      simp -implicitDefEqProofs only [vcx, tys, reduceIte, reduceCtorEq, Nat.reduceAdd, Nat.reduceLT, Nat.reduceEqDiff, Nat.reduceLeDiff, Nat.reduceSub, Nat.reduceMul, Int.reduceLE, Int.reduceNeg, Int.reduceLT, String.reduceBEq, splice, afill, Nat.reducePow, Nat.reduceBEq, eq_self, forall_exists_index, forall_apply_eq_imp_iff₂, exists_eq_left', ite_true, ite_false, if_true, if_false, ne_eq, forall_const, exists_eq_left, forall_eq, implies_true, id_eq, AV.weak, AV.weak.weakL, aun, isIface, vcd, Try.results78, e0, e2, e4, e8, e9, e10, encI, encM]
      rw [Int.toNat_natCast] at ha
      have hat : atB l (fun x => decide (c x < 0)) ((i + j) / 2) = decide (c a < 0) := by simp only [atB, ha]
      have hgo : bsGo (atB l fun x => decide (c x < 0)) (k + 1) i j = if decide (c a < 0) = true then bsGo (atB l fun x => decide (c x < 0)) k ((i + j) / 2 + 1) j else bsGo (atB l fun x => decide (c x < 0)) k i ((i + j) / 2) := by
        rw [bsGo, if_pos hlt', hat]
      refine ⟨fun hc => ⟨k, by omega, (i + j) / 2 + 1, j, by omega, hj, by omega, ?_, _, rfl, ?_, ?_, ?_, ?_, ?_, ?_⟩, fun hc => ⟨k, by omega, i, (i + j) / 2, by omega, by omega, by omega, ?_, _, rfl, ?_, ?_, ?_, ?_, ?_, ?_⟩⟩
      · rw [hh, hgo, if_pos (by simpa using hc)]
      iterate 6 (simp -implicitDefEqProofs only [vcx, tys, reduceIte, reduceCtorEq, Nat.reduceAdd, Nat.reduceLT, Nat.reduceEqDiff, Nat.reduceLeDiff, Nat.reduceSub, Nat.reduceMul, Int.reduceLE, Int.reduceNeg, Int.reduceLT, String.reduceBEq, splice, afill, Nat.reducePow, Nat.reduceBEq, eq_self, forall_exists_index, forall_apply_eq_imp_iff₂, exists_eq_left', ite_true, ite_false, if_true, if_false, ne_eq, forall_const, exists_eq_left, forall_eq, implies_true, id_eq, AV.weak, AV.weak.weakL, aun, isIface, e0, e2, e4, e8, e9, e10, w5, encI])
      · rw [hh, hgo, if_neg (by simpa using hc)]
      iterate 6 (simp -implicitDefEqProofs only [vcx, tys, reduceIte, reduceCtorEq, Nat.reduceAdd, Nat.reduceLT, Nat.reduceEqDiff, Nat.reduceLeDiff, Nat.reduceSub, Nat.reduceMul, Int.reduceLE, Int.reduceNeg, Int.reduceLT, String.reduceBEq, splice, afill, Nat.reducePow, Nat.reduceBEq, eq_self, forall_exists_index, forall_apply_eq_imp_iff₂, exists_eq_left', ite_true, ite_false, if_true, if_false, ne_eq, forall_const, exists_eq_left, forall_eq, implies_true, id_eq, AV.weak, AV.weak.weakL, aun, isIface, e0, e2, e4, e8, e9, e10, encI])
    · have hij' : i = j := by omega
      subst hij'
      have hpos : bsPos l c = i := by
        rw [hh]; cases m with
        | zero => rfl
        | succ m => rw [bsGo, if_neg (by omega)]
      refine awp_gen [] mixed (by kernel_rfl) ?_
      simp -implicitDefEqProofs only [vcx, tys, reduceIte, reduceCtorEq, Nat.reduceAdd, Nat.reduceLT, Nat.reduceEqDiff, Nat.reduceLeDiff, Nat.reduceSub, Nat.reduceMul, Int.reduceLE, Int.reduceNeg, Int.reduceLT, String.reduceBEq, splice, afill, Nat.reducePow, Nat.reduceBEq, eq_self, forall_exists_index, forall_apply_eq_imp_iff₂, exists_eq_left', ite_true, ite_false, if_true, if_false, ne_eq, forall_const, exists_eq_left, forall_eq, implies_true, id_eq, AV.weak, AV.weak.weakL, aun, isIface, vcd, Try.results78, e0, e2, e4, e8, e9, e10, encI, encM]
      refine gif_split (fun h => ?_) (fun h => ?_)
      · simp -implicitDefEqProofs only [vcx, tys, reduceIte, reduceCtorEq, Nat.reduceAdd, Nat.reduceLT, Nat.reduceEqDiff, Nat.reduceLeDiff, Nat.reduceSub, Nat.reduceMul, Int.reduceLE, Int.reduceNeg, Int.reduceLT, String.reduceBEq, splice, afill, Nat.reducePow, Nat.reduceBEq, eq_self, forall_exists_index, forall_apply_eq_imp_iff₂, exists_eq_left', ite_true, ite_false, if_true, if_false, ne_eq, forall_const, exists_eq_left, forall_eq, implies_true, id_eq, AV.weak, AV.weak.weakL, aun, isIface, vcd, Try.results78, e0, e2, e4, e8, e9, e10, encI, encM, h]
        refine ⟨by omega, by simpa using h, fun a ha => ?_⟩
        refine dcall_p (hf a) rfl ?_
        rw [Int.toNat_natCast] at ha
        simp -implicitDefEqProofs only [vcx, tys, reduceIte, reduceCtorEq, Nat.reduceAdd, Nat.reduceLT, Nat.reduceEqDiff, Nat.reduceLeDiff, Nat.reduceSub, Nat.reduceMul, Int.reduceLE, Int.reduceNeg, Int.reduceLT, String.reduceBEq, splice, afill, Nat.reducePow, Nat.reduceBEq, eq_self, forall_exists_index, forall_apply_eq_imp_iff₂, exists_eq_left', ite_true, ite_false, if_true, if_false, ne_eq, forall_const, exists_eq_left, forall_eq, implies_true, id_eq, AV.weak, AV.weak.weakL, aun, isIface, vcd, Try.results78, e0, e2, e4, e8, e9, e10, encI, encM, encB, h]
        simp [hpos, bsHit, atB, ha]
      · simp -implicitDefEqProofs only [vcx, tys, reduceIte, reduceCtorEq, Nat.reduceAdd, Nat.reduceLT, Nat.reduceEqDiff, Nat.reduceLeDiff, Nat.reduceSub, Nat.reduceMul, Int.reduceLE, Int.reduceNeg, Int.reduceLT, String.reduceBEq, splice, afill, Nat.reducePow, Nat.reduceBEq, eq_self, forall_exists_index, forall_apply_eq_imp_iff₂, exists_eq_left', ite_true, ite_false, if_true, if_false, ne_eq, forall_const, exists_eq_left, forall_eq, implies_true, id_eq, AV.weak, AV.weak.weakL, aun, isIface, vcd, Try.results78, e0, e2, e4, e8, e9, e10, encI, encM, encB, h]
        have : l[i]? = none := List.getElem?_eq_none (by simp at h; omega)
        simp [hpos, bsHit, atB, this]
end Go.Proofs.Ytlcajocjiehplaa
