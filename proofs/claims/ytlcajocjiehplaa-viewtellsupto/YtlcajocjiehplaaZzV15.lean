/- rows.Is. -/
import Derived.Test.YtlcajocjiehplaaZzV14
import Derived.Test.YtlcajocjiehplaaZzSeq
set_option linter.unusedVariables false
set_option linter.unusedSimpArgs false
set_option maxRecDepth 10000
set_option maxHeartbeats 1000000
namespace Go.Proofs.Ytlcajocjiehplaa
open Go Go.Abs
def sAt (l : List ByteArray) (i : Nat) : ByteArray := l.getD i ByteArray.empty
def pairsL (l : List ByteArray) : List (List AV) := (List.range (l.length - 1)).map fun i => [encS (sAt l i), encS (sAt l (i + 1))]
def risesB (l : List ByteArray) : Bool := (List.range (l.length - 1)).all fun i => slt (sAt l i) (sAt l (i + 1))
theorem pairs_ok (l : List ByteArray) : Abs.Pure Try.prog 73 [.sl .no (l.map encS)] (.clo 87 [.cptr [.sl .no (l.map encS)]]) := by
  refine Pure.intro Try.func73 rfl rfl fun S0 w0 => vc_sound _ ?_
  simp -implicitDefEqProofs only [vcx, tys, reduceIte, reduceCtorEq, Nat.reduceAdd, Nat.reduceLT, Nat.reduceEqDiff, Nat.reduceLeDiff, Nat.reduceSub, Nat.reduceMul, Int.reduceLE, Int.reduceNeg, Int.reduceLT, String.reduceBEq, splice, afill, Nat.reducePow, Nat.reduceBEq, eq_self, forall_exists_index, forall_apply_eq_imp_iff₂, exists_eq_left', ite_true, ite_false, if_true, if_false, ne_eq, forall_const, exists_eq_left, forall_eq, implies_true, id_eq, AV.weak, AV.weak.weakL, aun, isIface, Try.results73, Try.ntmps73]
theorem sAt_get {l : List ByteArray} {i : Nat} {s : ByteArray} (h : l[((i : Int)).toNat]? = some s) : sAt l i = s := by
  rw [Int.toNat_natCast] at h
  simp [sAt, List.getD_eq_getElem?_getD, h]
theorem pairsSeq (l : List ByteArray) : SeqC Try.prog 87 [.cptr [.sl .no (l.map encS)]] (pairsL l) := by
  refine SeqC.intro Try.func87 rfl rfl rfl fun C k hC => vc_sound _ ?_
  simp -implicitDefEqProofs only [vcx, tys, reduceIte, reduceCtorEq, Nat.reduceAdd, Nat.reduceLT, Nat.reduceEqDiff, Nat.reduceLeDiff, Nat.reduceSub, Nat.reduceMul, Int.reduceLE, Int.reduceNeg, Int.reduceLT, String.reduceBEq, splice, afill, Nat.reducePow, Nat.reduceBEq, eq_self, forall_exists_index, forall_apply_eq_imp_iff₂, exists_eq_left', ite_true, ite_false, if_true, if_false, ne_eq, forall_const, exists_eq_left, forall_eq, implies_true, id_eq, AV.weak, AV.weak.weakL, aun, isIface, Try.results87, Try.ntmps87]
  refine awp_loop (fun m σ => ∃ i : Nat, m + i = l.length ∧ ∃ e, σ = Sta.mk e 22 [] [] ((pairsL l).take i) false ∧ e 0 = .yld ∧ e 1 = .cptr [.sl .no (l.map encS)] ∧ e 3 = encI ((i + 1 : Nat) : Int)) (m := l.length) ?_ ?_
  · refine ⟨0, rfl, _, rfl, ?_, ?_, ?_⟩ <;> simp -implicitDefEqProofs only [vcx, tys, reduceIte, reduceCtorEq, Nat.reduceAdd, Nat.reduceLT, Nat.reduceEqDiff, Nat.reduceLeDiff, Nat.reduceSub, Nat.reduceMul, Int.reduceLE, Int.reduceNeg, Int.reduceLT, String.reduceBEq, splice, afill, Nat.reducePow, Nat.reduceBEq, eq_self, forall_exists_index, forall_apply_eq_imp_iff₂, exists_eq_left', ite_true, ite_false, if_true, if_false, ne_eq, forall_const, exists_eq_left, forall_eq, implies_true, id_eq, AV.weak, AV.weak.weakL, aun, isIface] <;> rfl
  · rintro m σ ⟨i, hm, e, rfl, e0, e1, e3⟩
    refine vc_sound _ ?_
    simp -implicitDefEqProofs only [vcx, tys, reduceIte, reduceCtorEq, Nat.reduceAdd, Nat.reduceLT, Nat.reduceEqDiff, Nat.reduceLeDiff, Nat.reduceSub, Nat.reduceMul, Int.reduceLE, Int.reduceNeg, Int.reduceLT, String.reduceBEq, splice, afill, Nat.reducePow, Nat.reduceBEq, eq_self, forall_exists_index, forall_apply_eq_imp_iff₂, exists_eq_left', ite_true, ite_false, if_true, if_false, ne_eq, forall_const, exists_eq_left, forall_eq, implies_true, id_eq, AV.weak, AV.weak.weakL, aun, isIface, e0, e1, e3, encI]
    intro hl
    simp only [maxN] at hl
    refine ⟨fun hlt => ?_, fun hge => ?_⟩
    · refine awp_gen [10] mixed (by kernel_rfl) ?_
      have w1 : IntKind.i64.wrap (((i + 1 : Nat) : Int) - 1) = (i : Int) := by rw [wrap_i64 (by omega) (by omega)]; omega
      have w2 : IntKind.i64.wrap (((i + 1 : Nat) : Int) + 1) = ((i + 1 + 1 : Nat) : Int) := by rw [wrap_i64 (by omega) (by omega)]; omega
      simp -implicitDefEqProofs only [vcx, tys, reduceIte, reduceCtorEq, Nat.reduceAdd, Nat.reduceLT, Nat.reduceEqDiff, Nat.reduceLeDiff, Nat.reduceSub, Nat.reduceMul, Int.reduceLE, Int.reduceNeg, Int.reduceLT, String.reduceBEq, splice, afill, Nat.reducePow, Nat.reduceBEq, eq_self, forall_exists_index, forall_apply_eq_imp_iff₂, exists_eq_left', ite_true, ite_false, if_true, if_false, ne_eq, forall_const, exists_eq_left, forall_eq, implies_true, id_eq, AV.weak, AV.weak.weakL, aun, isIface, vcd, e0, e1, e3, encI, encS, w1]
      refine ⟨by omega, by omega, fun s hs => ⟨by omega, by omega, fun t ht => ?_⟩⟩
      have e1' := sAt_get hs
      have e2' := sAt_get ht
      have hlen : (pairsL l).length = l.length - 1 := by simp [pairsL]
      have hlt' : i < (pairsL l).length := by omega
      have hget : (pairsL l)[i]? = some [encS s, encS t] := by
        simp only [pairsL, List.getElem?_map]
        rw [List.getElem?_range (by omega)]
        simp [e1', e2']
      have htl : ((pairsL l).take i).length = i := by rw [List.length_take]; omega
      have hnext : (pairsL l).take i ++ [[.lit (.string s), .lit (.string t)]] = (pairsL l).take (i + 1) := by
        rw [List.take_add_one, hget]; rfl
      refine ⟨hC.may _ _ (by rw [htl]) (by rw [htl]; exact hget), fun b => ⟨fun hb => ?_, fun hb => ?_⟩⟩
      · exact ⟨.inr rfl, .inl hb⟩
      · rw [hnext]
        refine ⟨m - 1, by omega, i + 1, by omega, _, by rw [hb], ?_, ?_, ?_⟩ <;> simp -implicitDefEqProofs only [vcx, tys, reduceIte, reduceCtorEq, Nat.reduceAdd, Nat.reduceLT, Nat.reduceEqDiff, Nat.reduceLeDiff, Nat.reduceSub, Nat.reduceMul, Int.reduceLE, Int.reduceNeg, Int.reduceLT, String.reduceBEq, splice, afill, Nat.reducePow, Nat.reduceBEq, eq_self, forall_exists_index, forall_apply_eq_imp_iff₂, exists_eq_left', ite_true, ite_false, if_true, if_false, ne_eq, forall_const, exists_eq_left, forall_eq, implies_true, id_eq, AV.weak, AV.weak.weakL, aun, isIface, e0, e1, e3, encI, w2]
    · refine ⟨.inl rfl, .inr ?_⟩
      have hlen : (pairsL l).length = l.length - 1 := by simp [pairsL]
      exact List.take_of_length_le (by omega)
theorem rowsIs_ok (l : List ByteArray) : Abs.Pure Try.prog 45 [.sl .no (l.map encS)] (encB (risesB l)) := by
  refine Pure.intro Try.func45 rfl rfl fun S0 w0 => vc_sound _ ?_
  simp -implicitDefEqProofs only [vcx, tys, reduceIte, reduceCtorEq, Nat.reduceAdd, Nat.reduceLT, Nat.reduceEqDiff, Nat.reduceLeDiff, Nat.reduceSub, Nat.reduceMul, Int.reduceLE, Int.reduceNeg, Int.reduceLT, String.reduceBEq, splice, afill, Nat.reducePow, Nat.reduceBEq, eq_self, forall_exists_index, forall_apply_eq_imp_iff₂, exists_eq_left', ite_true, ite_false, if_true, if_false, ne_eq, forall_const, exists_eq_left, forall_eq, implies_true, id_eq, AV.weak, AV.weak.weakL, aun, isIface, Try.results45, Try.ntmps45]
  refine call_p (pairs_ok l) rfl ?_
  simp -implicitDefEqProofs only [vcx, tys, reduceIte, reduceCtorEq, Nat.reduceAdd, Nat.reduceLT, Nat.reduceEqDiff, Nat.reduceLeDiff, Nat.reduceSub, Nat.reduceMul, Int.reduceLE, Int.reduceNeg, Int.reduceLT, String.reduceBEq, splice, afill, Nat.reducePow, Nat.reduceBEq, eq_self, forall_exists_index, forall_apply_eq_imp_iff₂, exists_eq_left', ite_true, ite_false, if_true, if_false, ne_eq, forall_const, exists_eq_left, forall_eq, implies_true, id_eq, AV.weak, AV.weak.weakL, aun, isIface, Try.results45, Try.ntmps45]
  refine awp_range (f := 87) (caps := [.cptr [.sl .no (l.map encS)]]) rfl (by simp -implicitDefEqProofs only [vcx, tys, reduceIte, reduceCtorEq, Nat.reduceAdd, Nat.reduceLT, Nat.reduceEqDiff, Nat.reduceLeDiff, Nat.reduceSub, Nat.reduceMul, Int.reduceLE, Int.reduceNeg, Int.reduceLT, String.reduceBEq, splice, afill, Nat.reducePow, Nat.reduceBEq, eq_self, forall_exists_index, forall_apply_eq_imp_iff₂, exists_eq_left', ite_true, ite_false, if_true, if_false, ne_eq, forall_const, exists_eq_left, forall_eq, implies_true, id_eq, AV.weak, AV.weak.weakL, aun, isIface]) (pairsSeq l) ?_
    (fun pre H L tr st => H = [BoxC.mk [.lit (.bool false)] true] ∧ L = [] ∧ tr = [] ∧ st = false ∧ ∀ j, j < pre.length → slt (sAt l j) (sAt l (j + 1)) = true)
    (fun c pre H L tr st => c = .ret ∧ H = [BoxC.mk [.lit (.bool false)] true] ∧ L = [] ∧ tr = [] ∧ st = false ∧ risesB l = false) ?_ ?_ ?_ ?_
  · intro x hx
    obtain ⟨i, _, rfl⟩ := List.mem_map.1 hx
    rfl
  · exact ⟨rfl, rfl, rfl, rfl, fun j hj => by simp at hj⟩
  · rintro k C' hC' pre x H L tr st ⟨rfl, rfl, rfl, rfl, hall⟩ hpre hx
    have hlt : pre.length < l.length - 1 := by
      have := (List.getElem?_eq_some_iff.1 hx).1; simpa [pairsL] using this
    obtain rfl : x = [encS (sAt l pre.length), encS (sAt l (pre.length + 1))] := by
      simp only [pairsL, List.getElem?_map] at hx
      rw [List.getElem?_range hlt] at hx
      simpa using hx.symm
    refine vc_sound _ ?_
    simp -implicitDefEqProofs only [vcx, tys, reduceIte, reduceCtorEq, Nat.reduceAdd, Nat.reduceLT, Nat.reduceEqDiff, Nat.reduceLeDiff, Nat.reduceSub, Nat.reduceMul, Int.reduceLE, Int.reduceNeg, Int.reduceLT, String.reduceBEq, splice, afill, Nat.reducePow, Nat.reduceBEq, eq_self, forall_exists_index, forall_apply_eq_imp_iff₂, exists_eq_left', ite_true, ite_false, if_true, if_false, ne_eq, forall_const, exists_eq_left, forall_eq, implies_true, id_eq, AV.weak, AV.weak.weakL, aun, isIface, Sta.bind, encS]
    refine fun C'' _ => vc_sound _ ?_
    simp -implicitDefEqProofs only [vcx, tys, reduceIte, reduceCtorEq, Nat.reduceAdd, Nat.reduceLT, Nat.reduceEqDiff, Nat.reduceLeDiff, Nat.reduceSub, Nat.reduceMul, Int.reduceLE, Int.reduceNeg, Int.reduceLT, String.reduceBEq, splice, afill, Nat.reducePow, Nat.reduceBEq, eq_self, forall_exists_index, forall_apply_eq_imp_iff₂, exists_eq_left', ite_true, ite_false, if_true, if_false, ne_eq, forall_const, exists_eq_left, forall_eq, implies_true, id_eq, AV.weak, AV.weak.weakL, aun, isIface, rndQ, List.length_append]
    have hr : risesB l = true ↔ ∀ j, j < l.length - 1 → slt (sAt l j) (sAt l (j + 1)) = true := by simp [risesB]
    refine ⟨fun h => ?_, fun h => fun j hj => ?_⟩
    · cases hc : risesB l with
      | false => rfl
      | true =>
        have := hr.1 hc _ hlt
        rw [this] at h; cases h
    · rcases Nat.lt_or_ge j pre.length with h1 | h1
      · exact hall j h1
      · have : j = pre.length := by omega
        subst this; simpa using h
  · rintro H L tr st ⟨rfl, rfl, rfl, rfl, hall⟩
    have hr : risesB l = true := by
      simp only [risesB, List.all_eq_true, List.mem_range]
      intro j hj
      exact hall j (by simpa [pairsL] using hj)
    simp -implicitDefEqProofs only [vcx, tys, reduceIte, reduceCtorEq, Nat.reduceAdd, Nat.reduceLT, Nat.reduceEqDiff, Nat.reduceLeDiff, Nat.reduceSub, Nat.reduceMul, Int.reduceLE, Int.reduceNeg, Int.reduceLT, String.reduceBEq, splice, afill, Nat.reducePow, Nat.reduceBEq, eq_self, forall_exists_index, forall_apply_eq_imp_iff₂, exists_eq_left', ite_true, ite_false, if_true, if_false, ne_eq, forall_const, exists_eq_left, forall_eq, implies_true, id_eq, AV.weak, AV.weak.weakL, aun, isIface, Try.results45, hr, encB]
  · rintro c pre H L tr st ⟨rfl, rfl, rfl, rfl, rfl, hall⟩
    refine vc_sound _ ?_
    simp -implicitDefEqProofs only [vcx, tys, reduceIte, reduceCtorEq, Nat.reduceAdd, Nat.reduceLT, Nat.reduceEqDiff, Nat.reduceLeDiff, Nat.reduceSub, Nat.reduceMul, Int.reduceLE, Int.reduceNeg, Int.reduceLT, String.reduceBEq, splice, afill, Nat.reducePow, Nat.reduceBEq, eq_self, forall_exists_index, forall_apply_eq_imp_iff₂, exists_eq_left', ite_true, ite_false, if_true, if_false, ne_eq, forall_const, exists_eq_left, forall_eq, implies_true, id_eq, AV.weak, AV.weak.weakL, aun, isIface, Try.results45, hall, encB]
end Go.Proofs.Ytlcajocjiehplaa
