/- trefoilref16: JoinViews, Turn, Set. -/
import Derived.Test.YtlcajocjiehplaaZzV12
set_option linter.unusedVariables false
set_option linter.unusedSimpArgs false
set_option maxRecDepth 10000
set_option maxHeartbeats 400000
namespace Go.Proofs.Ytlcajocjiehplaa
open Go Go.Abs
theorem memberR_length (t : Mem) : ∀ l : List Mem, (memberR l t).length ≤ l.length + 1
  | [] => by simp [memberR]
  | x :: l => by
    have := memberR_length t l
    rw [memberR]; split
    · simp
    · split <;> simp <;> omega
theorem copiesR_length (t : Cop) : ∀ l : List Cop, (copiesR l t).length ≤ l.length + 1
  | [] => by simp [copiesR]
  | x :: l => by
    have := copiesR_length t l
    rw [copiesR]; split
    · simp
    · split <;> simp <;> omega
def joinR (a b : View) : View := ⟨b.ms.foldl memberR a.ms, (b.cs.foldl copiesR a.cs).take 40⟩
theorem joinR_ok (a b : View) (hm : (a.ms.length + b.ms.length + 1) * 32 ≤ maxN) (hc : (a.cs.length + b.cs.length + 1) * 32 ≤ maxN) : Abs.Pure Try.prog 17 [encV a, encV b] (encV (joinR a b)) := by
  refine Pure.intro Try.func17 rfl rfl fun S0 w0 => vc_sound _ ?_
  simp only [maxN] at hm hc
  replace hm : a.ms.length + b.ms.length + 1 ≤ 4398046511104 := by omega
  replace hc : a.cs.length + b.cs.length + 1 ≤ 4398046511104 := by omega
  simp -implicitDefEqProofs only [vcx, tys, reduceIte, reduceCtorEq, Nat.reduceAdd, Nat.reduceLT, Nat.reduceEqDiff, Nat.reduceLeDiff, Nat.reduceSub, Nat.reduceMul, Int.reduceLE, Int.reduceNeg, Int.reduceLT, String.reduceBEq, splice, afill, Nat.reducePow, Nat.reduceBEq, eq_self, forall_exists_index, forall_apply_eq_imp_iff₂, exists_eq_left', ite_true, ite_false, if_true, if_false, ne_eq, forall_const, exists_eq_left, forall_eq, implies_true, id_eq, AV.weak, AV.weak.weakL, aun, isIface, Try.results17, Try.ntmps17, encV]
  refine awp_gen [] mixed (by kernel_rfl) ?_
  simp -implicitDefEqProofs only [vcx, tys, reduceIte, reduceCtorEq, Nat.reduceAdd, Nat.reduceLT, Nat.reduceEqDiff, Nat.reduceLeDiff, Nat.reduceSub, Nat.reduceMul, Int.reduceLE, Int.reduceNeg, Int.reduceLT, String.reduceBEq, splice, afill, Nat.reducePow, Nat.reduceBEq, eq_self, forall_exists_index, forall_apply_eq_imp_iff₂, exists_eq_left', ite_true, ite_false, if_true, if_false, ne_eq, forall_const, exists_eq_left, forall_eq, implies_true, id_eq, AV.weak, AV.weak.weakL, aun, isIface, vcd, Try.results17, Try.ntmps17]
  refine ⟨own_full, by simp, fun y _ => rfl, by simp only [maxN]; omega, by simp only [maxN]; omega, own_full, by simp, fun y _ => rfl, by simp only [maxN]; omega, by simp only [maxN]; omega, ?_⟩
  refine awp_loop (fun m σ => ∃ (i : Nat) (ms : List Mem) (ow ow2 : Abs.Own), m + i = b.ms.length ∧ ms.length ≤ a.ms.length + i ∧ b.ms.foldl memberR a.ms = (b.ms.drop i).foldl memberR ms ∧ ∃ e L, σ = Sta.mk e 56 [BoxC.mk [.sl .no (a.ms.map encM), .sl .no (a.cs.map encC)] true, BoxC.mk [.sl .no (b.ms.map encM), .sl .no (b.cs.map encC)] true, BoxC.mk [.sl .full [], .sl .full []] true, BoxC.mk [.sl ow (ms.map encM), .sl ow2 (a.cs.map encC)] true] L [] false ∧
    e 3 = .bptr 1 0 ∧ e 4 = .bptr 2 0 ∧ e 5 = .bptr 3 0 ∧ e 6 = encI i) (m := b.ms.length) ?_ ?_
  · refine ⟨0, a.ms, _, _, rfl, Nat.le_refl _, rfl, _, _, rfl, ?_, ?_, ?_, ?_⟩ <;> simp -implicitDefEqProofs only [vcx, tys, reduceIte, reduceCtorEq, Nat.reduceAdd, Nat.reduceLT, Nat.reduceEqDiff, Nat.reduceLeDiff, Nat.reduceSub, Nat.reduceMul, Int.reduceLE, Int.reduceNeg, Int.reduceLT, String.reduceBEq, splice, afill, Nat.reducePow, Nat.reduceBEq, eq_self, forall_exists_index, forall_apply_eq_imp_iff₂, exists_eq_left', ite_true, ite_false, if_true, if_false, ne_eq, forall_const, exists_eq_left, forall_eq, implies_true, id_eq, AV.weak, AV.weak.weakL, aun, isIface] <;> rfl
  · rintro m σ ⟨i, ms, ow, ow2, hm', hln, hh, e, L, rfl, e3, e4, e5, e6⟩
    refine vc_sound _ ?_
    simp -implicitDefEqProofs only [vcx, tys, reduceIte, reduceCtorEq, Nat.reduceAdd, Nat.reduceLT, Nat.reduceEqDiff, Nat.reduceLeDiff, Nat.reduceSub, Nat.reduceMul, Int.reduceLE, Int.reduceNeg, Int.reduceLT, String.reduceBEq, splice, afill, Nat.reducePow, Nat.reduceBEq, eq_self, forall_exists_index, forall_apply_eq_imp_iff₂, exists_eq_left', ite_true, ite_false, if_true, if_false, ne_eq, forall_const, exists_eq_left, forall_eq, implies_true, id_eq, AV.weak, AV.weak.weakL, aun, isIface, Try.results17, e3, e4, e5, e6, encI]
    intro hl
    have w1 : IntKind.i64.wrap ((i : Int) + 1) = ((i + 1 : Nat) : Int) := by rw [wrap_i64 (by omega) (by omega)]; omega
    refine ⟨fun hlt => ?_, fun hge => ?_⟩
    · refine awp_gen [] mixed (by kernel_rfl) ?_
      simp -implicitDefEqProofs only [vcx, tys, reduceIte, reduceCtorEq, Nat.reduceAdd, Nat.reduceLT, Nat.reduceEqDiff, Nat.reduceLeDiff, Nat.reduceSub, Nat.reduceMul, Int.reduceLE, Int.reduceNeg, Int.reduceLT, String.reduceBEq, splice, afill, Nat.reducePow, Nat.reduceBEq, eq_self, forall_exists_index, forall_apply_eq_imp_iff₂, exists_eq_left', ite_true, ite_false, if_true, if_false, ne_eq, forall_const, exists_eq_left, forall_eq, implies_true, id_eq, AV.weak, AV.weak.weakL, aun, isIface, vcd, Try.results17, e3, e4, e5, e6, encI, encM]
      refine ⟨by omega, hlt, fun x hx => ?_⟩
      have hd := drop_at hx
      rw [hd, List.foldl_cons] at hh
      refine dcall_p (member_ok ms x (by simp only [maxN]; omega)) rfl ?_
      have hl2 := memberR_length x ms
      simp -implicitDefEqProofs only [vcx, tys, reduceIte, reduceCtorEq, Nat.reduceAdd, Nat.reduceLT, Nat.reduceEqDiff, Nat.reduceLeDiff, Nat.reduceSub, Nat.reduceMul, Int.reduceLE, Int.reduceNeg, Int.reduceLT, String.reduceBEq, splice, afill, Nat.reducePow, Nat.reduceBEq, eq_self, forall_exists_index, forall_apply_eq_imp_iff₂, exists_eq_left', ite_true, ite_false, if_true, if_false, ne_eq, forall_const, exists_eq_left, forall_eq, implies_true, id_eq, AV.weak, AV.weak.weakL, aun, isIface, vcd, Try.results17, e3, e4, e5, e6, encI, w1]
      refine ⟨m - 1, by omega, i + 1, memberR ms x, .no, ow2, by omega, by omega, hh, _, _, rfl, ?_, ?_, ?_, ?_⟩ <;> simp -implicitDefEqProofs only [vcx, tys, reduceIte, reduceCtorEq, Nat.reduceAdd, Nat.reduceLT, Nat.reduceEqDiff, Nat.reduceLeDiff, Nat.reduceSub, Nat.reduceMul, Int.reduceLE, Int.reduceNeg, Int.reduceLT, String.reduceBEq, splice, afill, Nat.reducePow, Nat.reduceBEq, eq_self, forall_exists_index, forall_apply_eq_imp_iff₂, exists_eq_left', ite_true, ite_false, if_true, if_false, ne_eq, forall_const, exists_eq_left, forall_eq, implies_true, id_eq, AV.weak, AV.weak.weakL, aun, isIface, e3, e4, e5, e6, encI]
    · rw [List.drop_of_length_le (by omega), List.foldl_nil] at hh
      refine awp_loop (fun m σ => ∃ (i : Nat) (cs : List Cop) (ow ow2 : Abs.Own), m + i = b.cs.length ∧ cs.length ≤ a.cs.length + i ∧ b.cs.foldl copiesR a.cs = (b.cs.drop i).foldl copiesR cs ∧ ∃ e L, σ = Sta.mk e 56 [BoxC.mk [.sl .no (a.ms.map encM), .sl .no (a.cs.map encC)] true, BoxC.mk [.sl .no (b.ms.map encM), .sl .no (b.cs.map encC)] true, BoxC.mk [.sl .full [], .sl .full []] true, BoxC.mk [.sl ow (ms.map encM), .sl ow2 (cs.map encC)] true] L [] false ∧
        e 3 = .bptr 1 0 ∧ e 4 = .bptr 2 0 ∧ e 5 = .bptr 3 0 ∧ e 7 = encI i) (m := b.cs.length) ?_ ?_
      · refine ⟨0, a.cs, _, _, rfl, Nat.le_refl _, rfl, _, _, rfl, ?_, ?_, ?_, ?_⟩ <;> simp -implicitDefEqProofs only [vcx, tys, reduceIte, reduceCtorEq, Nat.reduceAdd, Nat.reduceLT, Nat.reduceEqDiff, Nat.reduceLeDiff, Nat.reduceSub, Nat.reduceMul, Int.reduceLE, Int.reduceNeg, Int.reduceLT, String.reduceBEq, splice, afill, Nat.reducePow, Nat.reduceBEq, eq_self, forall_exists_index, forall_apply_eq_imp_iff₂, exists_eq_left', ite_true, ite_false, if_true, if_false, ne_eq, forall_const, exists_eq_left, forall_eq, implies_true, id_eq, AV.weak, AV.weak.weakL, aun, isIface, e3, e4, e5, e6] <;> rfl
      · rintro m σ ⟨i, cs, ow, ow2, hm', hln, hh2, e, L, rfl, e3, e4, e5, e7⟩
        refine vc_sound _ ?_
        simp -implicitDefEqProofs only [vcx, tys, reduceIte, reduceCtorEq, Nat.reduceAdd, Nat.reduceLT, Nat.reduceEqDiff, Nat.reduceLeDiff, Nat.reduceSub, Nat.reduceMul, Int.reduceLE, Int.reduceNeg, Int.reduceLT, String.reduceBEq, splice, afill, Nat.reducePow, Nat.reduceBEq, eq_self, forall_exists_index, forall_apply_eq_imp_iff₂, exists_eq_left', ite_true, ite_false, if_true, if_false, ne_eq, forall_const, exists_eq_left, forall_eq, implies_true, id_eq, AV.weak, AV.weak.weakL, aun, isIface, Try.results17, e3, e4, e5, e7, encI]
        intro hl
        have w1 : IntKind.i64.wrap ((i : Int) + 1) = ((i + 1 : Nat) : Int) := by rw [wrap_i64 (by omega) (by omega)]; omega
        refine ⟨fun hlt => ?_, fun hge => ?_⟩
        · refine awp_gen [] mixed (by kernel_rfl) ?_
          simp -implicitDefEqProofs only [vcx, tys, reduceIte, reduceCtorEq, Nat.reduceAdd, Nat.reduceLT, Nat.reduceEqDiff, Nat.reduceLeDiff, Nat.reduceSub, Nat.reduceMul, Int.reduceLE, Int.reduceNeg, Int.reduceLT, String.reduceBEq, splice, afill, Nat.reducePow, Nat.reduceBEq, eq_self, forall_exists_index, forall_apply_eq_imp_iff₂, exists_eq_left', ite_true, ite_false, if_true, if_false, ne_eq, forall_const, exists_eq_left, forall_eq, implies_true, id_eq, AV.weak, AV.weak.weakL, aun, isIface, vcd, Try.results17, e3, e4, e5, e7, encI, encC]
          refine ⟨by omega, hlt, fun x hx => ?_⟩
          have hd := drop_at hx
          rw [hd, List.foldl_cons] at hh2
          refine dcall_p (copies_ok cs x (by simp only [maxN]; omega)) rfl ?_
          have hl2 := copiesR_length x cs
          simp -implicitDefEqProofs only [vcx, tys, reduceIte, reduceCtorEq, Nat.reduceAdd, Nat.reduceLT, Nat.reduceEqDiff, Nat.reduceLeDiff, Nat.reduceSub, Nat.reduceMul, Int.reduceLE, Int.reduceNeg, Int.reduceLT, String.reduceBEq, splice, afill, Nat.reducePow, Nat.reduceBEq, eq_self, forall_exists_index, forall_apply_eq_imp_iff₂, exists_eq_left', ite_true, ite_false, if_true, if_false, ne_eq, forall_const, exists_eq_left, forall_eq, implies_true, id_eq, AV.weak, AV.weak.weakL, aun, isIface, vcd, Try.results17, e3, e4, e5, e7, encI, w1]
          refine ⟨m - 1, by omega, i + 1, copiesR cs x, ow, .no, by omega, by omega, hh2, _, _, rfl, ?_, ?_, ?_, ?_⟩ <;> simp -implicitDefEqProofs only [vcx, tys, reduceIte, reduceCtorEq, Nat.reduceAdd, Nat.reduceLT, Nat.reduceEqDiff, Nat.reduceLeDiff, Nat.reduceSub, Nat.reduceMul, Int.reduceLE, Int.reduceNeg, Int.reduceLT, String.reduceBEq, splice, afill, Nat.reducePow, Nat.reduceBEq, eq_self, forall_exists_index, forall_apply_eq_imp_iff₂, exists_eq_left', ite_true, ite_false, if_true, if_false, ne_eq, forall_const, exists_eq_left, forall_eq, implies_true, id_eq, AV.weak, AV.weak.weakL, aun, isIface, e3, e4, e5, e7, encI]
        · rw [List.drop_of_length_le (by omega), List.foldl_nil] at hh2
          have hg : gmin (cs.length : Int) 40 = ((min cs.length 40 : Nat) : Int) := by unfold gmin; split <;> omega
          simp -implicitDefEqProofs only [vcx, tys, reduceIte, reduceCtorEq, Nat.reduceAdd, Nat.reduceLT, Nat.reduceEqDiff, Nat.reduceLeDiff, Nat.reduceSub, Nat.reduceMul, Int.reduceLE, Int.reduceNeg, Int.reduceLT, String.reduceBEq, splice, afill, Nat.reducePow, Nat.reduceBEq, eq_self, forall_exists_index, forall_apply_eq_imp_iff₂, exists_eq_left', ite_true, ite_false, if_true, if_false, ne_eq, forall_const, exists_eq_left, forall_eq, implies_true, id_eq, AV.weak, AV.weak.weakL, aun, isIface, Try.results17, e3, e4, e5, e7, encI, hg, bound, bnd1]
          refine fun hcl => ⟨Nat.zero_le _, by omega, fun y _ => rfl, ?_⟩
          simp only [joinR, hh, hh2, Nat.sub_zero, ← List.map_take, List.map_map, wM, wC]
          rw [show List.take (min cs.length 40) cs = List.take 40 cs from by rw [List.take_eq_take_iff]; omega]
def lastN (l : List Mem) (node : Int) : Int := l.foldl (fun n x => if x.node = node then x.n else n) 0
def turnR (v : View) (node : Int) : View := if node < 0 ∨ 4 ≤ node then v else ⟨memberR v.ms ⟨node, IntKind.u64.wrap (lastN v.ms node + 1)⟩, v.cs⟩
theorem turnR_ok (v : View) (node : Int) (hm : (v.ms.length + 1) * 32 ≤ maxN) : Abs.Pure Try.prog 22 [encV v, encI node] (encV (turnR v node)) := by
  refine Pure.intro Try.func22 rfl rfl fun S0 w0 => vc_sound _ ?_
  simp only [maxN] at hm
  simp -implicitDefEqProofs only [vcx, tys, reduceIte, reduceCtorEq, Nat.reduceAdd, Nat.reduceLT, Nat.reduceEqDiff, Nat.reduceLeDiff, Nat.reduceSub, Nat.reduceMul, Int.reduceLE, Int.reduceNeg, Int.reduceLT, String.reduceBEq, splice, afill, Nat.reducePow, Nat.reduceBEq, eq_self, forall_exists_index, forall_apply_eq_imp_iff₂, exists_eq_left', ite_true, ite_false, if_true, if_false, ne_eq, forall_const, exists_eq_left, forall_eq, implies_true, id_eq, AV.weak, AV.weak.weakL, aun, isIface, Try.results22, Try.ntmps22, encV, encI]
  cases h1 : decide (node < 0)
  rotate_left
  · have h1' : node < 0 := by simpa using h1
    simp -implicitDefEqProofs only [vcx, tys, reduceIte, reduceCtorEq, Nat.reduceAdd, Nat.reduceLT, Nat.reduceEqDiff, Nat.reduceLeDiff, Nat.reduceSub, Nat.reduceMul, Int.reduceLE, Int.reduceNeg, Int.reduceLT, String.reduceBEq, splice, afill, Nat.reducePow, Nat.reduceBEq, eq_self, forall_exists_index, forall_apply_eq_imp_iff₂, exists_eq_left', ite_true, ite_false, if_true, if_false, ne_eq, forall_const, exists_eq_left, forall_eq, implies_true, id_eq, AV.weak, AV.weak.weakL, aun, isIface, Try.results22]
    simp [turnR, h1']
  have h1' : ¬ node < 0 := by simpa using h1
  simp -implicitDefEqProofs only [vcx, tys, reduceIte, reduceCtorEq, Nat.reduceAdd, Nat.reduceLT, Nat.reduceEqDiff, Nat.reduceLeDiff, Nat.reduceSub, Nat.reduceMul, Int.reduceLE, Int.reduceNeg, Int.reduceLT, String.reduceBEq, splice, afill, Nat.reducePow, Nat.reduceBEq, eq_self, forall_exists_index, forall_apply_eq_imp_iff₂, exists_eq_left', ite_true, ite_false, if_true, if_false, ne_eq, forall_const, exists_eq_left, forall_eq, implies_true, id_eq, AV.weak, AV.weak.weakL, aun, isIface, Try.results22]
  refine ⟨fun h2 => by simp [turnR, h2], fun h2 => ?_⟩
  refine awp_loop (fun m σ => ∃ (i : Nat) (n : Int), m + i = v.ms.length ∧ lastN v.ms node = (v.ms.drop i).foldl (fun n x => if x.node = node then x.n else n) n ∧ ∃ e, σ = Sta.mk e 45 [BoxC.mk [.sl .no (v.ms.map encM), .sl .no (v.cs.map encC)] true, BoxC.mk [.sl .full [], .sl .full []] true] [] [] false ∧
    e 1 = encI node ∧ e 2 = .bptr 0 0 ∧ e 4 = .bptr 1 0 ∧ e 5 = encU n ∧ e 6 = encI i) (m := v.ms.length) ?_ ?_
  · refine ⟨0, 0, rfl, rfl, _, rfl, ?_, ?_, ?_, ?_, ?_⟩ <;> simp -implicitDefEqProofs only [vcx, tys, reduceIte, reduceCtorEq, Nat.reduceAdd, Nat.reduceLT, Nat.reduceEqDiff, Nat.reduceLeDiff, Nat.reduceSub, Nat.reduceMul, Int.reduceLE, Int.reduceNeg, Int.reduceLT, String.reduceBEq, splice, afill, Nat.reducePow, Nat.reduceBEq, eq_self, forall_exists_index, forall_apply_eq_imp_iff₂, exists_eq_left', ite_true, ite_false, if_true, if_false, ne_eq, forall_const, exists_eq_left, forall_eq, implies_true, id_eq, AV.weak, AV.weak.weakL, aun, isIface] <;> rfl
  · rintro m σ ⟨i, n, hm', hh, e, rfl, e1, e2, e4, e5, e6⟩
    refine vc_sound _ ?_
    simp -implicitDefEqProofs only [vcx, tys, reduceIte, reduceCtorEq, Nat.reduceAdd, Nat.reduceLT, Nat.reduceEqDiff, Nat.reduceLeDiff, Nat.reduceSub, Nat.reduceMul, Int.reduceLE, Int.reduceNeg, Int.reduceLT, String.reduceBEq, splice, afill, Nat.reducePow, Nat.reduceBEq, eq_self, forall_exists_index, forall_apply_eq_imp_iff₂, exists_eq_left', ite_true, ite_false, if_true, if_false, ne_eq, forall_const, exists_eq_left, forall_eq, implies_true, id_eq, AV.weak, AV.weak.weakL, aun, isIface, Try.results22, e1, e2, e4, e5, e6, encI, encU]
    intro hl
    have w1 : IntKind.i64.wrap ((i : Int) + 1) = ((i + 1 : Nat) : Int) := by rw [wrap_i64 (by omega) (by omega)]; omega
    refine ⟨fun hlt => ⟨by omega, hlt, fun x hx => ?_⟩, fun hge => ?_⟩
    · have hd := drop_at hx
      rw [hd, List.foldl_cons] at hh
      simp -implicitDefEqProofs only [vcx, tys, reduceIte, reduceCtorEq, Nat.reduceAdd, Nat.reduceLT, Nat.reduceEqDiff, Nat.reduceLeDiff, Nat.reduceSub, Nat.reduceMul, Int.reduceLE, Int.reduceNeg, Int.reduceLT, String.reduceBEq, splice, afill, Nat.reducePow, Nat.reduceBEq, eq_self, forall_exists_index, forall_apply_eq_imp_iff₂, exists_eq_left', ite_true, ite_false, if_true, if_false, ne_eq, forall_const, exists_eq_left, forall_eq, implies_true, id_eq, AV.weak, AV.weak.weakL, aun, isIface, encM, w1, e1, e2, e4, e5, e6, encI, encU]
      refine ⟨fun h => ⟨by omega, hlt, fun y hy => ?_⟩, fun h => ?_⟩
      · rw [hx] at hy; cases hy
        rw [if_pos h] at hh
        refine ⟨m - 1, by omega, i + 1, _, by omega, hh, _, rfl, ?_, ?_, ?_, ?_, ?_⟩ <;> simp -implicitDefEqProofs only [vcx, tys, reduceIte, reduceCtorEq, Nat.reduceAdd, Nat.reduceLT, Nat.reduceEqDiff, Nat.reduceLeDiff, Nat.reduceSub, Nat.reduceMul, Int.reduceLE, Int.reduceNeg, Int.reduceLT, String.reduceBEq, splice, afill, Nat.reducePow, Nat.reduceBEq, eq_self, forall_exists_index, forall_apply_eq_imp_iff₂, exists_eq_left', ite_true, ite_false, if_true, if_false, ne_eq, forall_const, exists_eq_left, forall_eq, implies_true, id_eq, AV.weak, AV.weak.weakL, aun, isIface, e1, e2, e4, e5, e6, encI, encU]
      · rw [if_neg h] at hh
        refine ⟨m - 1, by omega, i + 1, _, by omega, hh, _, rfl, ?_, ?_, ?_, ?_, ?_⟩ <;> simp -implicitDefEqProofs only [vcx, tys, reduceIte, reduceCtorEq, Nat.reduceAdd, Nat.reduceLT, Nat.reduceEqDiff, Nat.reduceLeDiff, Nat.reduceSub, Nat.reduceMul, Int.reduceLE, Int.reduceNeg, Int.reduceLT, String.reduceBEq, splice, afill, Nat.reducePow, Nat.reduceBEq, eq_self, forall_exists_index, forall_apply_eq_imp_iff₂, exists_eq_left', ite_true, ite_false, if_true, if_false, ne_eq, forall_const, exists_eq_left, forall_eq, implies_true, id_eq, AV.weak, AV.weak.weakL, aun, isIface, e1, e2, e4, e5, e6, encI, encU]
    · rw [List.drop_of_length_le (by omega), List.foldl_nil] at hh
      refine awp_gen [] mixed (by kernel_rfl) ?_
      simp -implicitDefEqProofs only [vcx, tys, reduceIte, reduceCtorEq, Nat.reduceAdd, Nat.reduceLT, Nat.reduceEqDiff, Nat.reduceLeDiff, Nat.reduceSub, Nat.reduceMul, Int.reduceLE, Int.reduceNeg, Int.reduceLT, String.reduceBEq, splice, afill, Nat.reducePow, Nat.reduceBEq, eq_self, forall_exists_index, forall_apply_eq_imp_iff₂, exists_eq_left', ite_true, ite_false, if_true, if_false, ne_eq, forall_const, exists_eq_left, forall_eq, implies_true, id_eq, AV.weak, AV.weak.weakL, aun, isIface, vcd, Try.results22, e1, e2, e4, e5, e6, encI, encU]
      refine dcall_p (member_ok v.ms ⟨node, IntKind.u64.wrap (n + 1)⟩ (by simp only [maxN]; omega)) rfl ?_
      simp -implicitDefEqProofs only [vcx, tys, reduceIte, reduceCtorEq, Nat.reduceAdd, Nat.reduceLT, Nat.reduceEqDiff, Nat.reduceLeDiff, Nat.reduceSub, Nat.reduceMul, Int.reduceLE, Int.reduceNeg, Int.reduceLT, String.reduceBEq, splice, afill, Nat.reducePow, Nat.reduceBEq, eq_self, forall_exists_index, forall_apply_eq_imp_iff₂, exists_eq_left', ite_true, ite_false, if_true, if_false, ne_eq, forall_const, exists_eq_left, forall_eq, implies_true, id_eq, AV.weak, AV.weak.weakL, aun, isIface, vcd, Try.results22, e1, e2, e4, e5, e6, encI, encU]
      rw [turnR, if_neg (by omega), hh]
end Go.Proofs.Ytlcajocjiehplaa
