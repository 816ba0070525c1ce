/- view.Is, trefoilref16.IsView. -/
import Derived.Test.YtlcajocjiehplaaZzV15
set_option linter.unusedVariables false
set_option linter.unusedSimpArgs false
set_option maxRecDepth 10000
set_option maxHeartbeats 1000000
namespace Go.Proofs.Ytlcajocjiehplaa
open Go Go.Abs
def mAt (l : List Mem) (i : Nat) : Mem := l.getD i ⟨0, 0⟩
def cAt (l : List Cop) (i : Nat) : Cop := l.getD i ⟨ByteArray.empty, 0, 0⟩
def memBad (l : List Mem) (i : Nat) : Prop := (mAt l i).node < 0 ∨ 4 ≤ (mAt l i).node ∨ (mAt l i).n = 0 ∨ 0 < i ∧ (mAt l i).node ≤ (mAt l (i - 1)).node
def copBad (l : List Cop) (i : Nat) : Prop := (cAt l i).key = ByteArray.empty ∨ 8 < (cAt l i).key.size ∨ (cAt l i).n = 0 ∨ (cAt l i).m < 1 ∨ 3 < (cAt l i).m
def copBad2 (l : List Cop) (i : Nat) : Prop := copBad l i ∨ 0 < i ∧ slt (cAt l (i - 1)).key (cAt l i).key = false
instance (l : List Mem) (i : Nat) : Decidable (memBad l i) := by unfold memBad; infer_instance
instance (l : List Cop) (i : Nat) : Decidable (copBad l i) := by unfold copBad; infer_instance
instance (l : List Cop) (i : Nat) : Decidable (copBad2 l i) := by unfold copBad2; infer_instance
def msOK (l : List Mem) : Bool := (List.range l.length).all fun i => !decide (memBad l i)
def csOK (l : List Cop) : Bool := (List.range l.length).all fun i => !decide (copBad l i)
def csOK2 (l : List Cop) : Bool := (List.range l.length).all fun i => !decide (copBad2 l i)
theorem all_no {n : Nat} {p : Nat → Prop} [DecidablePred p] {i : Nat} (h : i < n) (hp : p i) : ((List.range n).all fun i => !decide (p i)) = false := by
  rw [← Bool.not_eq_true, List.all_eq_true]
  intro hall
  have := hall i (List.mem_range.2 h)
  simp [hp] at this
theorem all_yes {n : Nat} {p : Nat → Prop} [DecidablePred p] (h : ∀ i, i < n → ¬ p i) : ((List.range n).all fun i => !decide (p i)) = true := by
  rw [List.all_eq_true]
  intro i hi
  simp [h i (List.mem_range.1 hi)]
theorem mAt_get {l : List Mem} {i : Nat} {m : Mem} (h : l[i]? = some m) : mAt l i = m := by simp [mAt, List.getD_eq_getElem?_getD, h]
theorem cAt_get {l : List Cop} {i : Nat} {c : Cop} (h : l[i]? = some c) : cAt l i = c := by simp [cAt, List.getD_eq_getElem?_getD, h]
def isP (v : View) : Bool := msOK v.ms && (csOK v.cs && (risesB (v.cs.map (·.key)) && decide (v.cs.length ≤ 40)))
def isR (v : View) : Bool := msOK v.ms && (csOK2 v.cs && decide (v.cs.length ≤ 40))
theorem is_ok (v : View) (hb : v.cs.length ≤ 4398046511104) : Abs.Pure Try.prog 9 [encV v] (encB (isP v)) := by
  refine Pure.intro Try.func9 rfl rfl fun S0 w0 => vc_sound _ ?_
  simp -implicitDefEqProofs only [vcx, tys, reduceIte, reduceCtorEq, Nat.reduceAdd, Nat.reduceLT, Nat.reduceEqDiff, Nat.reduceLeDiff, Nat.reduceSub, Nat.reduceMul, Int.reduceLE, Int.reduceNeg, Int.reduceLT, String.reduceBEq, splice, afill, Nat.reducePow, Nat.reduceBEq, eq_self, forall_exists_index, forall_apply_eq_imp_iff₂, exists_eq_left', ite_true, ite_false, if_true, if_false, ne_eq, forall_const, exists_eq_left, forall_eq, implies_true, id_eq, AV.weak, AV.weak.weakL, aun, isIface, Try.results9, Try.ntmps9, encV]
  intro hl
  simp only [maxN] at hl
  refine awp_loop (fun m σ => ∃ (i : Nat) (H : List BoxC), m + i = v.ms.length ∧ (∀ j, j < i → ¬ memBad v.ms j) ∧ (H[0]? = some (BoxC.mk [.sl .no (v.ms.map encM), .sl .no (v.cs.map encC)] true)) ∧ ∃ e, σ = Sta.mk e 89 H [] [] false ∧
    e 1 = .bptr 0 0 ∧ e 9 = .sl .no (v.ms.map encM) ∧ e 10 = encI v.ms.length ∧ e 11 = encI i) (m := v.ms.length) ?_ ?_
  · refine ⟨0, _, rfl, fun j hj => by omega, rfl, _, rfl, ?_, ?_, ?_, ?_⟩ <;> simp -implicitDefEqProofs only [vcx, tys, reduceIte, reduceCtorEq, Nat.reduceAdd, Nat.reduceLT, Nat.reduceEqDiff, Nat.reduceLeDiff, Nat.reduceSub, Nat.reduceMul, Int.reduceLE, Int.reduceNeg, Int.reduceLT, String.reduceBEq, splice, afill, Nat.reducePow, Nat.reduceBEq, eq_self, forall_exists_index, forall_apply_eq_imp_iff₂, exists_eq_left', ite_true, ite_false, if_true, if_false, ne_eq, forall_const, exists_eq_left, forall_eq, implies_true, id_eq, AV.weak, AV.weak.weakL, aun, isIface] <;> rfl
  · rintro m σ ⟨i, H, hm, hall, hH0, e, rfl, e1, e9, e10, e11⟩
    have hH : ∀ bx, (H ++ [bx])[0]? = some (BoxC.mk [.sl .no (v.ms.map encM), .sl .no (v.cs.map encC)] true) := fun bx => by rw [List.getElem?_append_left (by have := (List.getElem?_eq_some_iff.1 hH0).1; omega)]; exact hH0
    refine vc_sound _ ?_
    have w2 : i < v.ms.length → IntKind.i64.wrap ((i : Int) + 1) = ((i + 1 : Nat) : Int) := fun h => by rw [wrap_i64 (by omega) (by omega)]; omega
    simp -implicitDefEqProofs only [vcx, tys, reduceIte, reduceCtorEq, Nat.reduceAdd, Nat.reduceLT, Nat.reduceEqDiff, Nat.reduceLeDiff, Nat.reduceSub, Nat.reduceMul, Int.reduceLE, Int.reduceNeg, Int.reduceLT, String.reduceBEq, splice, afill, Nat.reducePow, Nat.reduceBEq, eq_self, forall_exists_index, forall_apply_eq_imp_iff₂, exists_eq_left', ite_true, ite_false, if_true, if_false, ne_eq, forall_const, exists_eq_left, forall_eq, implies_true, id_eq, AV.weak, AV.weak.weakL, aun, isIface, e1, e9, e10, e11, encI]
    refine ⟨fun hlt => ⟨by omega, hlt, fun x hx => ?_⟩, fun hge => ?_⟩
    · rw [Int.toNat_natCast] at hx
      have hil : i < v.ms.length := by omega
      have w2 := w2 hil
      have hxa := mAt_get hx
      simp -implicitDefEqProofs only [vcx, tys, reduceIte, reduceCtorEq, Nat.reduceAdd, Nat.reduceLT, Nat.reduceEqDiff, Nat.reduceLeDiff, Nat.reduceSub, Nat.reduceMul, Int.reduceLE, Int.reduceNeg, Int.reduceLT, String.reduceBEq, splice, afill, Nat.reducePow, Nat.reduceBEq, eq_self, forall_exists_index, forall_apply_eq_imp_iff₂, exists_eq_left', ite_true, ite_false, if_true, if_false, ne_eq, forall_const, exists_eq_left, forall_eq, implies_true, id_eq, AV.weak, AV.weak.weakL, aun, isIface, e1, e9, e10, e11, encI, encM, set_concat]
      refine awp_gen [] mixed (by kernel_rfl) ?_
      have bad : memBad v.ms i → isP v = false := fun h => by
        have : msOK v.ms = false := all_no hil h
        rw [isP, this]; rfl
      simp -implicitDefEqProofs only [vcx, tys, reduceIte, reduceCtorEq, Nat.reduceAdd, Nat.reduceLT, Nat.reduceEqDiff, Nat.reduceLeDiff, Nat.reduceSub, Nat.reduceMul, Int.reduceLE, Int.reduceNeg, Int.reduceLT, String.reduceBEq, splice, afill, Nat.reducePow, Nat.reduceBEq, eq_self, forall_exists_index, forall_apply_eq_imp_iff₂, exists_eq_left', ite_true, ite_false, if_true, if_false, ne_eq, forall_const, exists_eq_left, forall_eq, implies_true, id_eq, AV.weak, AV.weak.weakL, aun, isIface, vcd, e1, e9, e10, e11, encI, encM]
      cases h1 : decide (x.node < 0)
      rotate_left
      · have := bad (.inl (by rw [hxa]; simpa using h1))
        simp -implicitDefEqProofs only [vcx, tys, reduceIte, reduceCtorEq, Nat.reduceAdd, Nat.reduceLT, Nat.reduceEqDiff, Nat.reduceLeDiff, Nat.reduceSub, Nat.reduceMul, Int.reduceLE, Int.reduceNeg, Int.reduceLT, String.reduceBEq, splice, afill, Nat.reducePow, Nat.reduceBEq, eq_self, forall_exists_index, forall_apply_eq_imp_iff₂, exists_eq_left', ite_true, ite_false, if_true, if_false, ne_eq, forall_const, exists_eq_left, forall_eq, implies_true, id_eq, AV.weak, AV.weak.weakL, aun, isIface, vcd, Try.results9, e1, e9, e10, e11, encI, encM, encB, this]
      simp -implicitDefEqProofs only [vcx, tys, reduceIte, reduceCtorEq, Nat.reduceAdd, Nat.reduceLT, Nat.reduceEqDiff, Nat.reduceLeDiff, Nat.reduceSub, Nat.reduceMul, Int.reduceLE, Int.reduceNeg, Int.reduceLT, String.reduceBEq, splice, afill, Nat.reducePow, Nat.reduceBEq, eq_self, forall_exists_index, forall_apply_eq_imp_iff₂, exists_eq_left', ite_true, ite_false, if_true, if_false, ne_eq, forall_const, exists_eq_left, forall_eq, implies_true, id_eq, AV.weak, AV.weak.weakL, aun, isIface, vcd, Try.results9, e1, e9, e10, e11, encI, encM]
      cases h2 : decide (4 ≤ x.node)
      rotate_left
      · have := bad (.inr (.inl (by rw [hxa]; simpa using h2)))
        simp -implicitDefEqProofs only [vcx, tys, reduceIte, reduceCtorEq, Nat.reduceAdd, Nat.reduceLT, Nat.reduceEqDiff, Nat.reduceLeDiff, Nat.reduceSub, Nat.reduceMul, Int.reduceLE, Int.reduceNeg, Int.reduceLT, String.reduceBEq, splice, afill, Nat.reducePow, Nat.reduceBEq, eq_self, forall_exists_index, forall_apply_eq_imp_iff₂, exists_eq_left', ite_true, ite_false, if_true, if_false, ne_eq, forall_const, exists_eq_left, forall_eq, implies_true, id_eq, AV.weak, AV.weak.weakL, aun, isIface, vcd, Try.results9, e1, e9, e10, e11, encI, encM, encB, this]
      simp -implicitDefEqProofs only [vcx, tys, reduceIte, reduceCtorEq, Nat.reduceAdd, Nat.reduceLT, Nat.reduceEqDiff, Nat.reduceLeDiff, Nat.reduceSub, Nat.reduceMul, Int.reduceLE, Int.reduceNeg, Int.reduceLT, String.reduceBEq, splice, afill, Nat.reducePow, Nat.reduceBEq, eq_self, forall_exists_index, forall_apply_eq_imp_iff₂, exists_eq_left', ite_true, ite_false, if_true, if_false, ne_eq, forall_const, exists_eq_left, forall_eq, implies_true, id_eq, AV.weak, AV.weak.weakL, aun, isIface, vcd, Try.results9, e1, e9, e10, e11, encI, encM]
      cases h3 : decide (x.n = 0)
      rotate_left
      · have := bad (.inr (.inr (.inl (by rw [hxa]; simpa using h3))))
        simp -implicitDefEqProofs only [vcx, tys, reduceIte, reduceCtorEq, Nat.reduceAdd, Nat.reduceLT, Nat.reduceEqDiff, Nat.reduceLeDiff, Nat.reduceSub, Nat.reduceMul, Int.reduceLE, Int.reduceNeg, Int.reduceLT, String.reduceBEq, splice, afill, Nat.reducePow, Nat.reduceBEq, eq_self, forall_exists_index, forall_apply_eq_imp_iff₂, exists_eq_left', ite_true, ite_false, if_true, if_false, ne_eq, forall_const, exists_eq_left, forall_eq, implies_true, id_eq, AV.weak, AV.weak.weakL, aun, isIface, vcd, Try.results9, e1, e9, e10, e11, encI, encM, encB, this]
      simp -implicitDefEqProofs only [vcx, tys, reduceIte, reduceCtorEq, Nat.reduceAdd, Nat.reduceLT, Nat.reduceEqDiff, Nat.reduceLeDiff, Nat.reduceSub, Nat.reduceMul, Int.reduceLE, Int.reduceNeg, Int.reduceLT, String.reduceBEq, splice, afill, Nat.reducePow, Nat.reduceBEq, eq_self, forall_exists_index, forall_apply_eq_imp_iff₂, exists_eq_left', ite_true, ite_false, if_true, if_false, ne_eq, forall_const, exists_eq_left, forall_eq, implies_true, id_eq, AV.weak, AV.weak.weakL, aun, isIface, vcd, Try.results9, e1, e9, e10, e11, encI, encM]
      simp only [decide_eq_false_iff_not] at h1 h2 h3
      cases h4 : decide ((0 : Int) < i)
      · have h4' : i = 0 := by have : ¬ (0 : Int) < i := by simpa using h4
                               omega
        simp -implicitDefEqProofs only [vcx, tys, reduceIte, reduceCtorEq, Nat.reduceAdd, Nat.reduceLT, Nat.reduceEqDiff, Nat.reduceLeDiff, Nat.reduceSub, Nat.reduceMul, Int.reduceLE, Int.reduceNeg, Int.reduceLT, String.reduceBEq, splice, afill, Nat.reducePow, Nat.reduceBEq, eq_self, forall_exists_index, forall_apply_eq_imp_iff₂, exists_eq_left', ite_true, ite_false, if_true, if_false, ne_eq, forall_const, exists_eq_left, forall_eq, implies_true, id_eq, AV.weak, AV.weak.weakL, aun, isIface, vcd, Try.results9, e1, e9, e10, e11, encI, encM, w2]
        refine ⟨m - 1, by omega, i + 1, _, by omega, fun j hj => ?_, hH _, _, rfl, ?_, ?_, ?_, ?_⟩
        · obtain rfl : j = i := by omega
          intro hbad
          simp only [memBad, hxa] at hbad
          omega
        all_goals simp -implicitDefEqProofs only [vcx, tys, reduceIte, reduceCtorEq, Nat.reduceAdd, Nat.reduceLT, Nat.reduceEqDiff, Nat.reduceLeDiff, Nat.reduceSub, Nat.reduceMul, Int.reduceLE, Int.reduceNeg, Int.reduceLT, String.reduceBEq, splice, afill, Nat.reducePow, Nat.reduceBEq, eq_self, forall_exists_index, forall_apply_eq_imp_iff₂, exists_eq_left', ite_true, ite_false, if_true, if_false, ne_eq, forall_const, exists_eq_left, forall_eq, implies_true, id_eq, AV.weak, AV.weak.weakL, aun, isIface, e1, e9, e10, e11, encI]
      · have h4' : 0 < i := by have : (0 : Int) < i := by simpa using h4
                               omega
        have w3 : IntKind.i64.wrap ((i : Int) - 1) = ((i - 1 : Nat) : Int) := by rw [wrap_i64 (by omega) (by omega)]; omega
        simp -implicitDefEqProofs only [vcx, tys, reduceIte, reduceCtorEq, Nat.reduceAdd, Nat.reduceLT, Nat.reduceEqDiff, Nat.reduceLeDiff, Nat.reduceSub, Nat.reduceMul, Int.reduceLE, Int.reduceNeg, Int.reduceLT, String.reduceBEq, splice, afill, Nat.reducePow, Nat.reduceBEq, eq_self, forall_exists_index, forall_apply_eq_imp_iff₂, exists_eq_left', ite_true, ite_false, if_true, if_false, ne_eq, forall_const, exists_eq_left, forall_eq, implies_true, id_eq, AV.weak, AV.weak.weakL, aun, isIface, vcd, Try.results9, e1, e9, e10, e11, encI, encM, w2, w3, hH]
        refine ⟨by omega, by omega, fun y hy => ?_⟩
        rw [Int.toNat_natCast] at hy
        have hya := mAt_get hy
        refine dcall_p (byNode_ok y x) rfl ?_
        simp -implicitDefEqProofs only [vcx, tys, reduceIte, reduceCtorEq, Nat.reduceAdd, Nat.reduceLT, Nat.reduceEqDiff, Nat.reduceLeDiff, Nat.reduceSub, Nat.reduceMul, Int.reduceLE, Int.reduceNeg, Int.reduceLT, String.reduceBEq, splice, afill, Nat.reducePow, Nat.reduceBEq, eq_self, forall_exists_index, forall_apply_eq_imp_iff₂, exists_eq_left', ite_true, ite_false, if_true, if_false, ne_eq, forall_const, exists_eq_left, forall_eq, implies_true, id_eq, AV.weak, AV.weak.weakL, aun, isIface, vcd, Try.results9, e1, e9, e10, e11, encI, encM, w2, w3, hH]
        refine ⟨fun h5 => ?_, fun h5 => ?_⟩
        · have h5' : x.node ≤ y.node := by
            rcases Int.lt_or_le y.node x.node with h | h
            · have := cmpI_lt.2 h; omega
            · exact h
          have := bad (.inr (.inr (.inr ⟨h4', by rw [hxa, hya]; exact h5'⟩)))
          simp [this, encB]
        · have h5' : y.node < x.node := cmpI_lt.1 (by omega)
          refine ⟨m - 1, by omega, i + 1, _, by omega, fun j hj => ?_, hH _, _, rfl, ?_, ?_, ?_, ?_⟩
          · rcases Nat.lt_or_ge j i with hji | hji
            · exact hall j hji
            · obtain rfl : j = i := by omega
              intro hbad
              simp only [memBad, hxa, hya] at hbad
              omega
          all_goals simp -implicitDefEqProofs only [vcx, tys, reduceIte, reduceCtorEq, Nat.reduceAdd, Nat.reduceLT, Nat.reduceEqDiff, Nat.reduceLeDiff, Nat.reduceSub, Nat.reduceMul, Int.reduceLE, Int.reduceNeg, Int.reduceLT, String.reduceBEq, splice, afill, Nat.reducePow, Nat.reduceBEq, eq_self, forall_exists_index, forall_apply_eq_imp_iff₂, exists_eq_left', ite_true, ite_false, if_true, if_false, ne_eq, forall_const, exists_eq_left, forall_eq, implies_true, id_eq, AV.weak, AV.weak.weakL, aun, isIface, e1, e9, e10, e11, encI]
    · have hms : msOK v.ms = true := all_yes fun j hj => hall j (by omega)
      simp -implicitDefEqProofs only [vcx, tys, reduceIte, reduceCtorEq, Nat.reduceAdd, Nat.reduceLT, Nat.reduceEqDiff, Nat.reduceLeDiff, Nat.reduceSub, Nat.reduceMul, Int.reduceLE, Int.reduceNeg, Int.reduceLT, String.reduceBEq, splice, afill, Nat.reducePow, Nat.reduceBEq, eq_self, forall_exists_index, forall_apply_eq_imp_iff₂, exists_eq_left', ite_true, ite_false, if_true, if_false, ne_eq, forall_const, exists_eq_left, forall_eq, implies_true, id_eq, AV.weak, AV.weak.weakL, aun, isIface, Try.results9, e1, e9, e10, e11, encI, hH0]
      intro hl2
      simp only [maxN] at hl2
      refine awp_loop (fun m σ => ∃ (i : Nat) (ow : Abs.Own) (L : List Bool) (H : List BoxC), m + i = v.cs.length ∧ OwnLive L 1 ow ∧ (∀ j, j < i → ¬ copBad v.cs j) ∧ ∃ e, σ = Sta.mk e 89 H L [] false ∧
        e 5 = .sl ow ((v.cs.take i).map fun c => encS c.key) ∧ e 46 = .sl .no (v.cs.map encC) ∧ e 47 = encI v.cs.length ∧ e 48 = encI i) (m := v.cs.length) ?_ ?_
      · refine ⟨0, .full, [], _, rfl, own_full, fun j hj => by omega, _, rfl, ?_, ?_, ?_, ?_⟩ <;> simp -implicitDefEqProofs only [vcx, tys, reduceIte, reduceCtorEq, Nat.reduceAdd, Nat.reduceLT, Nat.reduceEqDiff, Nat.reduceLeDiff, Nat.reduceSub, Nat.reduceMul, Int.reduceLE, Int.reduceNeg, Int.reduceLT, String.reduceBEq, splice, afill, Nat.reducePow, Nat.reduceBEq, eq_self, forall_exists_index, forall_apply_eq_imp_iff₂, exists_eq_left', ite_true, ite_false, if_true, if_false, ne_eq, forall_const, exists_eq_left, forall_eq, implies_true, id_eq, AV.weak, AV.weak.weakL, aun, isIface] <;> rfl
      · rintro m σ ⟨i, ow, L, H, hm, how, hall2, e, rfl, e5, e46, e47, e48⟩
        refine vc_sound _ ?_
        have w2 : i < v.cs.length → IntKind.i64.wrap ((i : Int) + 1) = ((i + 1 : Nat) : Int) := fun h => by rw [wrap_i64 (by omega) (by omega)]; omega
        simp -implicitDefEqProofs only [vcx, tys, reduceIte, reduceCtorEq, Nat.reduceAdd, Nat.reduceLT, Nat.reduceEqDiff, Nat.reduceLeDiff, Nat.reduceSub, Nat.reduceMul, Int.reduceLE, Int.reduceNeg, Int.reduceLT, String.reduceBEq, splice, afill, Nat.reducePow, Nat.reduceBEq, eq_self, forall_exists_index, forall_apply_eq_imp_iff₂, exists_eq_left', ite_true, ite_false, if_true, if_false, ne_eq, forall_const, exists_eq_left, forall_eq, implies_true, id_eq, AV.weak, AV.weak.weakL, aun, isIface, e5, e46, e47, e48, encI]
        refine ⟨fun hlt => ⟨by omega, hlt, fun x hx => ?_⟩, fun hge => ?_⟩
        · rw [Int.toNat_natCast] at hx
          have hil : i < v.cs.length := by omega
          have w2 := w2 hil
          have hxa := cAt_get hx
          have bad : copBad v.cs i → isP v = false := fun h => by
            have : csOK v.cs = false := all_no hil h
            rw [isP, this]; simp
          simp -implicitDefEqProofs only [vcx, tys, reduceIte, reduceCtorEq, Nat.reduceAdd, Nat.reduceLT, Nat.reduceEqDiff, Nat.reduceLeDiff, Nat.reduceSub, Nat.reduceMul, Int.reduceLE, Int.reduceNeg, Int.reduceLT, String.reduceBEq, splice, afill, Nat.reducePow, Nat.reduceBEq, eq_self, forall_exists_index, forall_apply_eq_imp_iff₂, exists_eq_left', ite_true, ite_false, if_true, if_false, ne_eq, forall_const, exists_eq_left, forall_eq, implies_true, id_eq, AV.weak, AV.weak.weakL, aun, isIface, Try.results9, e5, e46, e47, e48, encI, encC, set_concat, bytes_beq]
          cases h1 : decide (x.key = ByteArray.mk #[])
          rotate_left
          · have := bad (.inl (by rw [hxa]; exact of_decide_eq_true h1))
            simp -implicitDefEqProofs only [vcx, tys, reduceIte, reduceCtorEq, Nat.reduceAdd, Nat.reduceLT, Nat.reduceEqDiff, Nat.reduceLeDiff, Nat.reduceSub, Nat.reduceMul, Int.reduceLE, Int.reduceNeg, Int.reduceLT, String.reduceBEq, splice, afill, Nat.reducePow, Nat.reduceBEq, eq_self, forall_exists_index, forall_apply_eq_imp_iff₂, exists_eq_left', ite_true, ite_false, if_true, if_false, ne_eq, forall_const, exists_eq_left, forall_eq, implies_true, id_eq, AV.weak, AV.weak.weakL, aun, isIface, Try.results9, e5, e46, e47, e48, encI, encC, encB, set_concat, bytes_beq, this]
          simp -implicitDefEqProofs only [vcx, tys, reduceIte, reduceCtorEq, Nat.reduceAdd, Nat.reduceLT, Nat.reduceEqDiff, Nat.reduceLeDiff, Nat.reduceSub, Nat.reduceMul, Int.reduceLE, Int.reduceNeg, Int.reduceLT, String.reduceBEq, splice, afill, Nat.reducePow, Nat.reduceBEq, eq_self, forall_exists_index, forall_apply_eq_imp_iff₂, exists_eq_left', ite_true, ite_false, if_true, if_false, ne_eq, forall_const, exists_eq_left, forall_eq, implies_true, id_eq, AV.weak, AV.weak.weakL, aun, isIface, Try.results9, e5, e46, e47, e48, encI, encC, set_concat, bytes_beq]
          intro hks
          cases h2 : decide ((8 : Int) < x.key.size)
          rotate_left
          · have := bad (.inr (.inl (by rw [hxa]; have := of_decide_eq_true h2; omega)))
            simp -implicitDefEqProofs only [vcx, tys, reduceIte, reduceCtorEq, Nat.reduceAdd, Nat.reduceLT, Nat.reduceEqDiff, Nat.reduceLeDiff, Nat.reduceSub, Nat.reduceMul, Int.reduceLE, Int.reduceNeg, Int.reduceLT, String.reduceBEq, splice, afill, Nat.reducePow, Nat.reduceBEq, eq_self, forall_exists_index, forall_apply_eq_imp_iff₂, exists_eq_left', ite_true, ite_false, if_true, if_false, ne_eq, forall_const, exists_eq_left, forall_eq, implies_true, id_eq, AV.weak, AV.weak.weakL, aun, isIface, Try.results9, e5, e46, e47, e48, encI, encC, encB, set_concat, bytes_beq, this]
          simp -implicitDefEqProofs only [vcx, tys, reduceIte, reduceCtorEq, Nat.reduceAdd, Nat.reduceLT, Nat.reduceEqDiff, Nat.reduceLeDiff, Nat.reduceSub, Nat.reduceMul, Int.reduceLE, Int.reduceNeg, Int.reduceLT, String.reduceBEq, splice, afill, Nat.reducePow, Nat.reduceBEq, eq_self, forall_exists_index, forall_apply_eq_imp_iff₂, exists_eq_left', ite_true, ite_false, if_true, if_false, ne_eq, forall_const, exists_eq_left, forall_eq, implies_true, id_eq, AV.weak, AV.weak.weakL, aun, isIface, Try.results9, e5, e46, e47, e48, encI, encC, set_concat, bytes_beq]
          cases h3 : decide (x.n = 0)
          rotate_left
          · have := bad (.inr (.inr (.inl (by rw [hxa]; exact of_decide_eq_true h3))))
            simp -implicitDefEqProofs only [vcx, tys, reduceIte, reduceCtorEq, Nat.reduceAdd, Nat.reduceLT, Nat.reduceEqDiff, Nat.reduceLeDiff, Nat.reduceSub, Nat.reduceMul, Int.reduceLE, Int.reduceNeg, Int.reduceLT, String.reduceBEq, splice, afill, Nat.reducePow, Nat.reduceBEq, eq_self, forall_exists_index, forall_apply_eq_imp_iff₂, exists_eq_left', ite_true, ite_false, if_true, if_false, ne_eq, forall_const, exists_eq_left, forall_eq, implies_true, id_eq, AV.weak, AV.weak.weakL, aun, isIface, Try.results9, e5, e46, e47, e48, encI, encC, encB, set_concat, bytes_beq, this]
          simp -implicitDefEqProofs only [vcx, tys, reduceIte, reduceCtorEq, Nat.reduceAdd, Nat.reduceLT, Nat.reduceEqDiff, Nat.reduceLeDiff, Nat.reduceSub, Nat.reduceMul, Int.reduceLE, Int.reduceNeg, Int.reduceLT, String.reduceBEq, splice, afill, Nat.reducePow, Nat.reduceBEq, eq_self, forall_exists_index, forall_apply_eq_imp_iff₂, exists_eq_left', ite_true, ite_false, if_true, if_false, ne_eq, forall_const, exists_eq_left, forall_eq, implies_true, id_eq, AV.weak, AV.weak.weakL, aun, isIface, Try.results9, e5, e46, e47, e48, encI, encC, set_concat, bytes_beq]
          cases h4 : decide (x.m < 1)
          rotate_left
          · have := bad (.inr (.inr (.inr (.inl (by rw [hxa]; exact of_decide_eq_true h4)))))
            simp -implicitDefEqProofs only [vcx, tys, reduceIte, reduceCtorEq, Nat.reduceAdd, Nat.reduceLT, Nat.reduceEqDiff, Nat.reduceLeDiff, Nat.reduceSub, Nat.reduceMul, Int.reduceLE, Int.reduceNeg, Int.reduceLT, String.reduceBEq, splice, afill, Nat.reducePow, Nat.reduceBEq, eq_self, forall_exists_index, forall_apply_eq_imp_iff₂, exists_eq_left', ite_true, ite_false, if_true, if_false, ne_eq, forall_const, exists_eq_left, forall_eq, implies_true, id_eq, AV.weak, AV.weak.weakL, aun, isIface, Try.results9, e5, e46, e47, e48, encI, encC, encB, set_concat, bytes_beq, this]
          simp -implicitDefEqProofs only [vcx, tys, reduceIte, reduceCtorEq, Nat.reduceAdd, Nat.reduceLT, Nat.reduceEqDiff, Nat.reduceLeDiff, Nat.reduceSub, Nat.reduceMul, Int.reduceLE, Int.reduceNeg, Int.reduceLT, String.reduceBEq, splice, afill, Nat.reducePow, Nat.reduceBEq, eq_self, forall_exists_index, forall_apply_eq_imp_iff₂, exists_eq_left', ite_true, ite_false, if_true, if_false, ne_eq, forall_const, exists_eq_left, forall_eq, implies_true, id_eq, AV.weak, AV.weak.weakL, aun, isIface, Try.results9, e5, e46, e47, e48, encI, encC, set_concat, bytes_beq]
          have hlt1 : (v.cs.take i).length = i := by rw [List.length_take]; omega
          refine ⟨fun h5 => ?_, fun h5 => ?_⟩
          · have := bad (.inr (.inr (.inr (.inr (by rw [hxa]; exact h5)))))
            simp [this, encB]
          refine ⟨how, fun a _ => rfl, by simp only [maxN, List.length_map, hlt1]; omega, by simp only [maxN, List.length_map, hlt1]; omega, ⟨m - 1, by omega, i + 1, _, _, _, by omega, own_new, fun j hj => ?_, _, rfl, ?_, ?_, ?_, ?_⟩⟩
          · rcases Nat.lt_or_ge j i with hji | hji
            · exact hall2 j hji
            · obtain rfl : j = i := by omega
              intro hbad
              have := of_decide_eq_false h1
              have := of_decide_eq_false h2
              have := of_decide_eq_false h3
              have := of_decide_eq_false h4
              rw [copBad, hxa] at hbad
              rcases hbad with h | h | h | h | h
              · exact absurd h ‹¬ x.key = _›
              all_goals omega
          · have htk : v.cs.take (i + 1) = v.cs.take i ++ [x] := by rw [List.take_add_one, hx]; rfl
            simp -implicitDefEqProofs only [vcx, tys, reduceIte, reduceCtorEq, Nat.reduceAdd, Nat.reduceLT, Nat.reduceEqDiff, Nat.reduceLeDiff, Nat.reduceSub, Nat.reduceMul, Int.reduceLE, Int.reduceNeg, Int.reduceLT, String.reduceBEq, splice, afill, Nat.reducePow, Nat.reduceBEq, eq_self, forall_exists_index, forall_apply_eq_imp_iff₂, exists_eq_left', ite_true, ite_false, if_true, if_false, ne_eq, forall_const, exists_eq_left, forall_eq, implies_true, id_eq, AV.weak, AV.weak.weakL, aun, isIface, e5, e46, e47, e48, encI, encS, htk, List.map_append]
          all_goals simp -implicitDefEqProofs only [vcx, tys, reduceIte, reduceCtorEq, Nat.reduceAdd, Nat.reduceLT, Nat.reduceEqDiff, Nat.reduceLeDiff, Nat.reduceSub, Nat.reduceMul, Int.reduceLE, Int.reduceNeg, Int.reduceLT, String.reduceBEq, splice, afill, Nat.reducePow, Nat.reduceBEq, eq_self, forall_exists_index, forall_apply_eq_imp_iff₂, exists_eq_left', ite_true, ite_false, if_true, if_false, ne_eq, forall_const, exists_eq_left, forall_eq, implies_true, id_eq, AV.weak, AV.weak.weakL, aun, isIface, e5, e46, e47, e48, encI, w2]
        · have hcs : csOK v.cs = true := all_yes fun j hj => hall2 j (by omega)
          have htk : v.cs.take i = v.cs := List.take_of_length_le (by omega)
          have hmap : (v.cs.take i).map (fun c => encS c.key) = (v.cs.map (·.key)).map encS := by rw [htk, List.map_map]; rfl
          rw [hmap] at e5 ⊢
          refine call_p (rowsIs_ok (v.cs.map (·.key))) rfl ?_
          cases hr : risesB (v.cs.map (·.key))
          · have : isP v = false := by rw [isP, hr]; simp
            simp -implicitDefEqProofs only [vcx, tys, reduceIte, reduceCtorEq, Nat.reduceAdd, Nat.reduceLT, Nat.reduceEqDiff, Nat.reduceLeDiff, Nat.reduceSub, Nat.reduceMul, Int.reduceLE, Int.reduceNeg, Int.reduceLT, String.reduceBEq, splice, afill, Nat.reducePow, Nat.reduceBEq, eq_self, forall_exists_index, forall_apply_eq_imp_iff₂, exists_eq_left', ite_true, ite_false, if_true, if_false, ne_eq, forall_const, exists_eq_left, forall_eq, implies_true, id_eq, AV.weak, AV.weak.weakL, aun, isIface, Try.results9, e5, e46, e47, e48, encI, encB, hr, this]
          · have hl40 : isP v = decide ((v.cs.length : Int) ≤ 40) := by
              rw [isP, hms, hcs, hr, Bool.true_and, Bool.true_and, Bool.true_and]; exact decide_eq_decide.2 (by omega)
            simp -implicitDefEqProofs only [vcx, tys, reduceIte, reduceCtorEq, Nat.reduceAdd, Nat.reduceLT, Nat.reduceEqDiff, Nat.reduceLeDiff, Nat.reduceSub, Nat.reduceMul, Int.reduceLE, Int.reduceNeg, Int.reduceLT, String.reduceBEq, splice, afill, Nat.reducePow, Nat.reduceBEq, eq_self, forall_exists_index, forall_apply_eq_imp_iff₂, exists_eq_left', ite_true, ite_false, if_true, if_false, ne_eq, forall_const, exists_eq_left, forall_eq, implies_true, id_eq, AV.weak, AV.weak.weakL, aun, isIface, Try.results9, e5, e46, e47, e48, encI, encB, hr, hl40]
end Go.Proofs.Ytlcajocjiehplaa
