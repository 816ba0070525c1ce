/- trefoilref16: member, copies. -/
import Derived.Test.YtlcajocjiehplaaZzV11
set_option linter.unusedVariables false
set_option linter.unusedSimpArgs false
set_option maxRecDepth 10000
namespace Go.Proofs.Ytlcajocjiehplaa
open Go Go.Abs
theorem wM : AV.weak ∘ encM = encM := funext fun _ => rfl
theorem wC : AV.weak ∘ encC = encC := funext fun _ => rfl
theorem flats_fld {z : Nat} {xs : List AV} (h : ∀ x, x ∈ xs → x.flat.length = z) {p : Nat} {y w : AV} (hp : xs[p]? = some y) (q : Nat) (b : List AV) (hw : w.flat = y.flat.take q ++ (b ++ y.flat.drop (q + b.length))) (hq : q + b.length ≤ z) (sp : List AV) (n m : Nat) (hn : n = p * z + q) (hm : m = n + b.length) :
    List.take n (flats xs ++ sp) ++ b ++ List.drop m (flats xs ++ sp) = flats (xs.set p w) ++ sp := by
  subst hm hn
  have hlt : p < xs.length := (List.getElem?_eq_some_iff.1 hp).1
  have hy : y.flat.length = z := h y (List.mem_of_getElem? hp)
  have hA : (flats (xs.take p)).length = p * z := by rw [flats_len (xs.take p) fun y hy => h y (List.mem_of_mem_take hy), List.length_take, Nat.min_eq_left (Nat.le_of_lt hlt)]
  have hd : xs.drop p = y :: xs.drop (p + 1) := by rw [List.drop_eq_getElem_cons hlt]; rw [(List.getElem?_eq_some_iff.1 hp).2]
  have e : flats xs ++ sp = flats (xs.take p) ++ (y.flat ++ (flats (xs.drop (p + 1)) ++ sp)) := by
    rw [flats_split xs p, hd, flats_cons']; simp
  rw [e, ← hA, List.take_length_add_append, Nat.add_assoc, List.drop_length_add_append, List.set_eq_take_append_cons_drop, if_pos hlt, flats_app, flats_cons', hw, List.take_append_of_le_length (by omega), List.drop_append_of_le_length (by omega)]
  simp
def memberR : List Mem → Mem → List Mem
  | [], m => [m]
  | x :: l, m => if x.node = m.node then ⟨x.node, gmax x.n m.n⟩ :: l else if m.node < x.node then m :: x :: l else x :: memberR l m
theorem member_ok (l : List Mem) (t : Mem) (hb : (l.length + 1) * 32 ≤ maxN) : Abs.Pure Try.prog 55 [.sl .no (l.map encM), encM t] (.sl .no ((memberR l t).map encM)) := by
  refine Pure.introB (fun d => d == 22) Try.func55 rfl rfl fun S0 w0 => vc_sound _ ?_
  simp only [maxN] at hb
  simp -implicitDefEqProofs only [vcx, tys, reduceIte, reduceCtorEq, Nat.reduceAdd, Nat.reduceLT, Nat.reduceEqDiff, Nat.reduceLeDiff, Nat.reduceSub, Nat.reduceMul, Int.reduceLE, Int.reduceNeg, Int.reduceLT, String.reduceBEq, splice, afill, Nat.reducePow, Nat.reduceBEq, eq_self, forall_exists_index, forall_apply_eq_imp_iff₂, exists_eq_left', ite_true, ite_false, if_true, if_false, ne_eq, forall_const, exists_eq_left, forall_eq, implies_true, id_eq, AV.weak, AV.weak.weakL, aun, isIface, Try.results55, Try.ntmps55, encM]
  refine awp_loop (fun m σ => ∃ i : Nat, m + i = l.length ∧ memberR l t = l.take i ++ memberR (l.drop i) t ∧ ∃ e, σ = Sta.mk e 60 [BoxC.mk [.lit (.int .i64 t.node), .lit (.int .u64 t.n)] true] [] [] false ∧ e 0 = .sl .no (l.map encM) ∧ e 3 = .bptr 0 0 ∧ e 5 = encI i) (m := l.length) ?_ ?_
  · refine ⟨0, rfl, rfl, _, rfl, ?_, ?_, ?_⟩ <;> simp -implicitDefEqProofs only [vcx, tys, reduceIte, reduceCtorEq, Nat.reduceAdd, Nat.reduceLT, Nat.reduceEqDiff, Nat.reduceLeDiff, Nat.reduceSub, Nat.reduceMul, Int.reduceLE, Int.reduceNeg, Int.reduceLT, String.reduceBEq, splice, afill, Nat.reducePow, Nat.reduceBEq, eq_self, forall_exists_index, forall_apply_eq_imp_iff₂, exists_eq_left', ite_true, ite_false, if_true, if_false, ne_eq, forall_const, exists_eq_left, forall_eq, implies_true, id_eq, AV.weak, AV.weak.weakL, aun, isIface] <;> rfl
  · rintro m σ ⟨i, hm, hh, e, rfl, e0, e3, e5⟩
    refine vc_sound _ ?_
    simp -implicitDefEqProofs only [vcx, tys, reduceIte, reduceCtorEq, Nat.reduceAdd, Nat.reduceLT, Nat.reduceEqDiff, Nat.reduceLeDiff, Nat.reduceSub, Nat.reduceMul, Int.reduceLE, Int.reduceNeg, Int.reduceLT, String.reduceBEq, splice, afill, Nat.reducePow, Nat.reduceBEq, eq_self, forall_exists_index, forall_apply_eq_imp_iff₂, exists_eq_left', ite_true, ite_false, if_true, if_false, ne_eq, forall_const, exists_eq_left, forall_eq, implies_true, id_eq, AV.weak, AV.weak.weakL, aun, isIface, Try.results55, e0, e3, e5, encI]
    intro hl
    have w1 : IntKind.i64.wrap ((i : Int) + 1) = ((i + 1 : Nat) : Int) := by rw [wrap_i64 (by omega) (by omega)]; omega
    refine ⟨fun hlt => ?_, fun hge => ?_⟩
    · refine awp_gen [] mixed (by kernel_rfl) ?_
      simp -implicitDefEqProofs only [vcx, tys, reduceIte, reduceCtorEq, Nat.reduceAdd, Nat.reduceLT, Nat.reduceEqDiff, Nat.reduceLeDiff, Nat.reduceSub, Nat.reduceMul, Int.reduceLE, Int.reduceNeg, Int.reduceLT, String.reduceBEq, splice, afill, Nat.reducePow, Nat.reduceBEq, eq_self, forall_exists_index, forall_apply_eq_imp_iff₂, exists_eq_left', ite_true, ite_false, if_true, if_false, ne_eq, forall_const, exists_eq_left, forall_eq, implies_true, id_eq, AV.weak, AV.weak.weakL, aun, isIface, vcd, Try.results55, e0, e3, e5, encI, encM]
      refine ⟨by omega, hlt, fun x hx => ?_⟩
      have hd := drop_at hx
      rw [Int.toNat_natCast] at hx
      have hil : i < l.length := by omega
      rw [hd, memberR] at hh
      refine ⟨fun heq => ?_, fun hne => ?_⟩
      · rw [if_pos heq] at hh
        have hz : ∀ y, y ∈ l.map encM → y.flat.length = 2 := fun y hy => flatM y l hy
        refine ⟨by simp, by simp only [maxN]; omega, by simp only [maxN]; omega, fun h0 => by omega, fun _ cap' k hc hk => ?_⟩
        refine awp_gen [] mixed (by kernel_rfl) ?_
        simp -implicitDefEqProofs only [vcx, tys, reduceIte, reduceCtorEq, Nat.reduceAdd, Nat.reduceLT, Nat.reduceEqDiff, Nat.reduceLeDiff, Nat.reduceSub, Nat.reduceMul, Int.reduceLE, Int.reduceNeg, Int.reduceLT, String.reduceBEq, splice, afill, Nat.reducePow, Nat.reduceBEq, eq_self, forall_exists_index, forall_apply_eq_imp_iff₂, exists_eq_left', ite_true, ite_false, if_true, if_false, ne_eq, forall_const, exists_eq_left, forall_eq, implies_true, id_eq, AV.weak, AV.weak.weakL, aun, isIface, vcd, Try.results55, e0, e3, e5, encI, encM, Nat.zero_add, Int.toNat_natCast]
        refine ⟨by omega, by omega, fun y hy => ?_⟩
        rw [hx] at hy; cases hy
        have hxe : (l.map encM)[i]? = some (encM x) := by rw [List.getElem?_map, hx]; rfl
        have hfl := flats_len (l.map encM) hz
        rw [List.length_map] at hfl
        have hcl : (flats [] ++ flats (l.map encM) ++ List.replicate k AV.undef).length = cap' * 2 := by
          rw [List.length_append, List.length_append, hfl, List.length_replicate, hk]
          simp [flats]; omega
        refine ⟨by omega, by omega, by rw [hcl]; omega, ?_⟩
        have hset := flats_fld hz hxe 1 [AV.lit (.int .u64 (gmax x.n t.n))] (w := encM ⟨x.node, gmax x.n t.n⟩) rfl (by simp) (List.replicate k AV.undef) (i * 2 + 1) (i * 2 + 1 + 1) rfl rfl
        rw [← List.map_set] at hset
        have hz2 : ∀ y, y ∈ (l.set i ⟨x.node, gmax x.n t.n⟩).map encM → y.flat.length = 2 := fun y hy => flatM y _ hy
        refine RetT.sl 4 (z := 2) ((l.set i ⟨x.node, gmax x.n t.n⟩).map encM) (by simp -implicitDefEqProofs only [vcx, tys, reduceIte, reduceCtorEq, Nat.reduceAdd, Nat.reduceLT, Nat.reduceEqDiff, Nat.reduceLeDiff, Nat.reduceSub, Nat.reduceMul, Int.reduceLE, Int.reduceNeg, Int.reduceLT, String.reduceBEq, splice, afill, Nat.reducePow, Nat.reduceBEq, eq_self, forall_exists_index, forall_apply_eq_imp_iff₂, exists_eq_left', ite_true, ite_false, if_true, if_false, ne_eq, forall_const, exists_eq_left, forall_eq, implies_true, id_eq, AV.weak, AV.weak.weakL, aun, isIface]; rfl) rfl ?_ hz2 (by simp) ?_ (RetT.now ?_)
        · show _ = List.take (l.length * 2) (List.drop 0 (_ ++ _ ++ _))
          have e0 : flats [] ++ flats (l.map encM) ++ List.replicate k AV.undef = flats (l.map encM) ++ List.replicate k AV.undef := rfl
          rw [e0, hset, List.drop_zero]
          have := flats_take' hz2 (Nat.le_refl _) (List.replicate k AV.undef)
          rw [List.length_map, List.length_set] at this
          rw [this, List.take_of_length_le (by simp)]
        · show _ ≤ (List.take _ _ ++ _ ++ List.drop _ _).length
          have e0 : flats [] ++ flats (l.map encM) ++ List.replicate k AV.undef = flats (l.map encM) ++ List.replicate k AV.undef := rfl
          rw [e0, hset, List.length_append, flats_len _ hz2]; simp
        · simp -implicitDefEqProofs only [vcx, tys, reduceIte, reduceCtorEq, Nat.reduceAdd, Nat.reduceLT, Nat.reduceEqDiff, Nat.reduceLeDiff, Nat.reduceSub, Nat.reduceMul, Int.reduceLE, Int.reduceNeg, Int.reduceLT, String.reduceBEq, splice, afill, Nat.reducePow, Nat.reduceBEq, eq_self, forall_exists_index, forall_apply_eq_imp_iff₂, exists_eq_left', ite_true, ite_false, if_true, if_false, ne_eq, forall_const, exists_eq_left, forall_eq, implies_true, id_eq, AV.weak, AV.weak.weakL, aun, isIface, Try.results55, hh, List.map_map, wM]
          rw [List.set_eq_take_append_cons_drop, if_pos hil]
          simp
      · rw [if_neg hne] at hh
        refine awp_gen [] mixed (by kernel_rfl) ?_
        simp -implicitDefEqProofs only [vcx, tys, reduceIte, reduceCtorEq, Nat.reduceAdd, Nat.reduceLT, Nat.reduceEqDiff, Nat.reduceLeDiff, Nat.reduceSub, Nat.reduceMul, Int.reduceLE, Int.reduceNeg, Int.reduceLT, String.reduceBEq, splice, afill, Nat.reducePow, Nat.reduceBEq, eq_self, forall_exists_index, forall_apply_eq_imp_iff₂, exists_eq_left', ite_true, ite_false, if_true, if_false, ne_eq, forall_const, exists_eq_left, forall_eq, implies_true, id_eq, AV.weak, AV.weak.weakL, aun, isIface, vcd, Try.results55, e0, e3, e5, encI, encM]
        refine ⟨by omega, hlt, fun y hy => ?_⟩
        rw [Int.toNat_natCast, hx] at hy; cases hy
        refine ⟨fun hgt => ?_, fun hle => ?_⟩
        · rw [if_pos hgt] at hh
          refine awp_gen [] mixed (by kernel_rfl) ?_
          simp -implicitDefEqProofs only [vcx, tys, reduceIte, reduceCtorEq, Nat.reduceAdd, Nat.reduceLT, Nat.reduceEqDiff, Nat.reduceLeDiff, Nat.reduceSub, Nat.reduceMul, Int.reduceLE, Int.reduceNeg, Int.reduceLT, String.reduceBEq, splice, afill, Nat.reducePow, Nat.reduceBEq, eq_self, forall_exists_index, forall_apply_eq_imp_iff₂, exists_eq_left', ite_true, ite_false, if_true, if_false, ne_eq, forall_const, exists_eq_left, forall_eq, implies_true, id_eq, AV.weak, AV.weak.weakL, aun, isIface, vcd, Try.results55, e0, e3, e5, encI, encM, bound, bnd1]
          have hz : ∀ y, y ∈ l.map encM → y.flat.length = 2 := fun y hy => flatM y l hy
          have hz1 : ∀ y, y ∈ List.take (i - 0) (l.map encM) → y.flat.length = 2 := fun y hy => hz y (List.mem_of_mem_take hy)
          have hz2 : ∀ y, y ∈ List.take (l.length - i) (List.drop i (l.map encM)) → y.flat.length = 2 := fun y hy => hz y (List.mem_of_mem_drop (List.mem_of_mem_take hy))
          have hl1 : (List.take (i - 0) (l.map encM)).length = i := by simp; omega
          have hl2 : (List.take (l.length - i) (List.drop i (l.map encM))).length = l.length - i := by simp
          refine ⟨Nat.zero_le _, by omega, own_full, by simp, hz1, by simp only [maxN]; omega, by simp only [maxN]; omega, own_new, hz1, by simp only [maxN]; omega, by simp only [maxN]; omega, by omega, by omega, own_new, fun y hy => ?_, hz2, by rw [List.length_append, hl1, hl2]; simp only [maxN, List.length_singleton]; omega, by rw [List.length_append, hl1, hl2]; simp only [maxN, List.length_singleton]; omega, RetT.now ?_⟩
          · rcases List.mem_append.1 hy with h | h
            · exact hz1 y h
            · rw [List.mem_singleton.1 h]; rfl
          · simp -implicitDefEqProofs only [vcx, tys, reduceIte, reduceCtorEq, Nat.reduceAdd, Nat.reduceLT, Nat.reduceEqDiff, Nat.reduceLeDiff, Nat.reduceSub, Nat.reduceMul, Int.reduceLE, Int.reduceNeg, Int.reduceLT, String.reduceBEq, splice, afill, Nat.reducePow, Nat.reduceBEq, eq_self, forall_exists_index, forall_apply_eq_imp_iff₂, exists_eq_left', ite_true, ite_false, if_true, if_false, ne_eq, forall_const, exists_eq_left, forall_eq, implies_true, id_eq, AV.weak, AV.weak.weakL, aun, isIface, Try.results55, hh]
            simp [hd, encM, AV.weak, ← List.map_take, ← List.map_drop]
            rw [List.take_of_length_le (by simp; omega)]
        · rw [if_neg (by omega)] at hh
          simp -implicitDefEqProofs only [vcx, tys, reduceIte, reduceCtorEq, Nat.reduceAdd, Nat.reduceLT, Nat.reduceEqDiff, Nat.reduceLeDiff, Nat.reduceSub, Nat.reduceMul, Int.reduceLE, Int.reduceNeg, Int.reduceLT, String.reduceBEq, splice, afill, Nat.reducePow, Nat.reduceBEq, eq_self, forall_exists_index, forall_apply_eq_imp_iff₂, exists_eq_left', ite_true, ite_false, if_true, if_false, ne_eq, forall_const, exists_eq_left, forall_eq, implies_true, id_eq, AV.weak, AV.weak.weakL, aun, isIface, vcd, Try.results55, e0, e3, e5, encI, encM, w1]
          refine ⟨m - 1, by omega, i + 1, by omega, ?_, _, rfl, ?_, ?_, ?_⟩
          · rw [hh, List.take_add_one, hx]; simp
          all_goals simp -implicitDefEqProofs only [vcx, tys, reduceIte, reduceCtorEq, Nat.reduceAdd, Nat.reduceLT, Nat.reduceEqDiff, Nat.reduceLeDiff, Nat.reduceSub, Nat.reduceMul, Int.reduceLE, Int.reduceNeg, Int.reduceLT, String.reduceBEq, splice, afill, Nat.reducePow, Nat.reduceBEq, eq_self, forall_exists_index, forall_apply_eq_imp_iff₂, exists_eq_left', ite_true, ite_false, if_true, if_false, ne_eq, forall_const, exists_eq_left, forall_eq, implies_true, id_eq, AV.weak, AV.weak.weakL, aun, isIface, e0, e3, e5, encI]
    · rw [List.drop_of_length_le (by omega), List.take_of_length_le (by omega)] at hh
      refine awp_gen [] mixed (by kernel_rfl) ?_
      simp -implicitDefEqProofs only [vcx, tys, reduceIte, reduceCtorEq, Nat.reduceAdd, Nat.reduceLT, Nat.reduceEqDiff, Nat.reduceLeDiff, Nat.reduceSub, Nat.reduceMul, Int.reduceLE, Int.reduceNeg, Int.reduceLT, String.reduceBEq, splice, afill, Nat.reducePow, Nat.reduceBEq, eq_self, forall_exists_index, forall_apply_eq_imp_iff₂, exists_eq_left', ite_true, ite_false, if_true, if_false, ne_eq, forall_const, exists_eq_left, forall_eq, implies_true, id_eq, AV.weak, AV.weak.weakL, aun, isIface, vcd, Try.results55, e0, e3, e5, encI, encM]
      refine ⟨own_full, by simp, by simp only [maxN]; omega, by simp only [maxN]; omega, own_new, by simp only [maxN]; omega, by simp only [maxN]; omega, RetT.now ?_⟩
      simp -implicitDefEqProofs only [vcx, tys, reduceIte, reduceCtorEq, Nat.reduceAdd, Nat.reduceLT, Nat.reduceEqDiff, Nat.reduceLeDiff, Nat.reduceSub, Nat.reduceMul, Int.reduceLE, Int.reduceNeg, Int.reduceLT, String.reduceBEq, splice, afill, Nat.reducePow, Nat.reduceBEq, eq_self, forall_exists_index, forall_apply_eq_imp_iff₂, exists_eq_left', ite_true, ite_false, if_true, if_false, ne_eq, forall_const, exists_eq_left, forall_eq, implies_true, id_eq, AV.weak, AV.weak.weakL, aun, isIface, Try.results55, hh]
      simp [memberR, encM, AV.weak]
def newC (x c : Cop) : Cop := if x.n < c.n ∨ c.n = x.n ∧ x.m < c.m then c else x
def copiesR : List Cop → Cop → List Cop
  | [], c => [c]
  | x :: l, c => if x.key = c.key then newC x c :: l else if slt c.key x.key = true then c :: x :: l else x :: copiesR l c
theorem sgt_eq {a b : ByteArray} (h : ¬ a = b) : (!(slt a b || a.toList == b.toList)) = slt b a := by
  rw [bytes_beq, decide_eq_false h, Bool.or_false]
  cases h1 : slt a b with
  | true => rw [slt_asymm h1]; rfl
  | false =>
    rcases slt_total h with h2 | h2
    · rw [h1] at h2; cases h2
    · rw [h2]; rfl
theorem copies_ok (l : List Cop) (t : Cop) (hb : (l.length + 1) * 32 ≤ maxN) : Abs.Pure Try.prog 56 [.sl .no (l.map encC), encC t] (.sl .no ((copiesR l t).map encC)) := by
  refine Pure.introB (fun d => d == 22) Try.func56 rfl rfl fun S0 w0 => vc_sound _ ?_
  simp only [maxN] at hb
  simp -implicitDefEqProofs only [vcx, tys, reduceIte, reduceCtorEq, Nat.reduceAdd, Nat.reduceLT, Nat.reduceEqDiff, Nat.reduceLeDiff, Nat.reduceSub, Nat.reduceMul, Int.reduceLE, Int.reduceNeg, Int.reduceLT, String.reduceBEq, splice, afill, Nat.reducePow, Nat.reduceBEq, eq_self, forall_exists_index, forall_apply_eq_imp_iff₂, exists_eq_left', ite_true, ite_false, if_true, if_false, ne_eq, forall_const, exists_eq_left, forall_eq, implies_true, id_eq, AV.weak, AV.weak.weakL, aun, isIface, Try.results56, Try.ntmps56, encC]
  refine awp_loop (fun m σ => ∃ i : Nat, m + i = l.length ∧ copiesR l t = l.take i ++ copiesR (l.drop i) t ∧ ∃ e, σ = Sta.mk e 80 [BoxC.mk [.lit (.string t.key), .lit (.int .u64 t.n), .lit (.int .u64 t.m)] true] [] [] false ∧ e 0 = .sl .no (l.map encC) ∧ e 3 = .bptr 0 0 ∧ e 5 = encI i) (m := l.length) ?_ ?_
  · refine ⟨0, rfl, rfl, _, rfl, ?_, ?_, ?_⟩ <;> simp -implicitDefEqProofs only [vcx, tys, reduceIte, reduceCtorEq, Nat.reduceAdd, Nat.reduceLT, Nat.reduceEqDiff, Nat.reduceLeDiff, Nat.reduceSub, Nat.reduceMul, Int.reduceLE, Int.reduceNeg, Int.reduceLT, String.reduceBEq, splice, afill, Nat.reducePow, Nat.reduceBEq, eq_self, forall_exists_index, forall_apply_eq_imp_iff₂, exists_eq_left', ite_true, ite_false, if_true, if_false, ne_eq, forall_const, exists_eq_left, forall_eq, implies_true, id_eq, AV.weak, AV.weak.weakL, aun, isIface] <;> rfl
  · rintro m σ ⟨i, hm, hh, e, rfl, e0, e3, e5⟩
    refine vc_sound _ ?_
    simp -implicitDefEqProofs only [vcx, tys, reduceIte, reduceCtorEq, Nat.reduceAdd, Nat.reduceLT, Nat.reduceEqDiff, Nat.reduceLeDiff, Nat.reduceSub, Nat.reduceMul, Int.reduceLE, Int.reduceNeg, Int.reduceLT, String.reduceBEq, splice, afill, Nat.reducePow, Nat.reduceBEq, eq_self, forall_exists_index, forall_apply_eq_imp_iff₂, exists_eq_left', ite_true, ite_false, if_true, if_false, ne_eq, forall_const, exists_eq_left, forall_eq, implies_true, id_eq, AV.weak, AV.weak.weakL, aun, isIface, Try.results56, e0, e3, e5, encI]
    intro hl
    have w1 : IntKind.i64.wrap ((i : Int) + 1) = ((i + 1 : Nat) : Int) := by rw [wrap_i64 (by omega) (by omega)]; omega
    refine ⟨fun hlt => ?_, fun hge => ?_⟩
    · refine awp_gen [] mixed (by kernel_rfl) ?_
      simp -implicitDefEqProofs only [vcx, tys, reduceIte, reduceCtorEq, Nat.reduceAdd, Nat.reduceLT, Nat.reduceEqDiff, Nat.reduceLeDiff, Nat.reduceSub, Nat.reduceMul, Int.reduceLE, Int.reduceNeg, Int.reduceLT, String.reduceBEq, splice, afill, Nat.reducePow, Nat.reduceBEq, eq_self, forall_exists_index, forall_apply_eq_imp_iff₂, exists_eq_left', ite_true, ite_false, if_true, if_false, ne_eq, forall_const, exists_eq_left, forall_eq, implies_true, id_eq, AV.weak, AV.weak.weakL, aun, isIface, vcd, Try.results56, e0, e3, e5, encI, encC, bytes_beq]
      refine ⟨by omega, hlt, fun x hx => ?_⟩
      have hd := drop_at hx
      rw [Int.toNat_natCast] at hx
      have hil : i < l.length := by omega
      rw [hd, copiesR] at hh
      refine ⟨fun heq => ?_, fun hne => ?_⟩
      · rw [if_pos heq] at hh
        have hz : ∀ y, y ∈ l.map encC → y.flat.length = 3 := fun y hy => flatC y l hy
        refine ⟨by simp, by simp only [maxN]; omega, by simp only [maxN]; omega, fun h0 => by omega, fun _ cap' k hc hk => ?_⟩
        have hxe : (l.map encC)[i]? = some (encC x) := by rw [List.getElem?_map, hx]; rfl
        have hfl := flats_len (l.map encC) hz
        rw [List.length_map] at hfl
        have hcl : (flats [] ++ flats (l.map encC) ++ List.replicate k AV.undef).length = cap' * 3 := by
          rw [List.length_append, List.length_append, hfl, List.length_replicate, hk]
          simp [flats]; omega
        have e0' : flats [] ++ flats (l.map encC) ++ List.replicate k AV.undef = flats (l.map encC) ++ List.replicate k AV.undef := rfl
        have fin : ∀ (w : Cop) (e : Nat → AV), newC x t = w → e 4 = .bsl 1 0 l.length cap' → RetT Try.prog (pureCtx Try.prog S0 w0 fun d => d == 22) Try.f56 (fun x => x = AV.sl Own.no (List.map encC (copiesR l t))) Exit.ret
            (Sta.mk e 80 [BoxC.mk [.lit (.string t.key), .lit (.int .u64 t.n), .lit (.int .u64 t.m)] true, BoxC.mk (flats ((l.set i w).map encC) ++ List.replicate k AV.undef) true] [] [] false) := by
          intro w e hw e4
          have hz2 : ∀ y, y ∈ (l.set i w).map encC → y.flat.length = 3 := fun y hy => flatC y _ hy
          refine RetT.sl 4 (z := 3) ((l.set i w).map encC) e4 rfl ?_ hz2 (by simp) ?_ (RetT.now ?_)
          · have := flats_take' hz2 (Nat.le_refl _) (List.replicate k AV.undef)
            rw [List.length_map, List.length_set] at this
            rw [List.drop_zero, this, List.take_of_length_le (by simp)]
          · rw [List.length_append, flats_len _ hz2]; simp
          · simp -implicitDefEqProofs only [vcx, tys, reduceIte, reduceCtorEq, Nat.reduceAdd, Nat.reduceLT, Nat.reduceEqDiff, Nat.reduceLeDiff, Nat.reduceSub, Nat.reduceMul, Int.reduceLE, Int.reduceNeg, Int.reduceLT, String.reduceBEq, splice, afill, Nat.reducePow, Nat.reduceBEq, eq_self, forall_exists_index, forall_apply_eq_imp_iff₂, exists_eq_left', ite_true, ite_false, if_true, if_false, ne_eq, forall_const, exists_eq_left, forall_eq, implies_true, id_eq, AV.weak, AV.weak.weakL, aun, isIface, Try.results56, hh, hw, List.map_map, wC]
            rw [List.set_eq_take_append_cons_drop, if_pos hil]
            simp
        have same : flats [] ++ flats (l.map encC) ++ List.replicate k AV.undef = flats ((l.set i x).map encC) ++ List.replicate k AV.undef := by
          rw [e0', List.set_eq_take_append_cons_drop, if_pos hil, ← hd, List.take_append_drop]
        refine awp_gen [] mixed (by kernel_rfl) ?_
        simp -implicitDefEqProofs only [vcx, tys, reduceIte, reduceCtorEq, Nat.reduceAdd, Nat.reduceLT, Nat.reduceEqDiff, Nat.reduceLeDiff, Nat.reduceSub, Nat.reduceMul, Int.reduceLE, Int.reduceNeg, Int.reduceLT, String.reduceBEq, splice, afill, Nat.reducePow, Nat.reduceBEq, eq_self, forall_exists_index, forall_apply_eq_imp_iff₂, exists_eq_left', ite_true, ite_false, if_true, if_false, ne_eq, forall_const, exists_eq_left, forall_eq, implies_true, id_eq, AV.weak, AV.weak.weakL, aun, isIface, vcd, Try.results56, e0, e3, e5, encI, encC, Nat.zero_add, Int.toNat_natCast]
        refine ⟨by omega, by omega, fun y hy => ?_⟩
        rw [hx] at hy; cases hy
        have hbd : i * 3 + 3 ≤ (flats [] ++ flats (l.map encC) ++ List.replicate k AV.undef).length := by rw [hcl]; omega
        have stc := flats_set' hz (by rw [List.length_map]; exact hil) (encC t) (z := 3) rfl (List.replicate k AV.undef) (i * 3) (i * 3 + 3) rfl rfl
        rw [← List.map_set] at stc
        rw [show (encC t).flat = [.lit (.string t.key), .lit (.int .u64 t.n), .lit (.int .u64 t.m)] from rfl] at stc
        cases h1 : decide (x.n < t.n)
        rotate_left
        · have hw : newC x t = t := by rw [newC, if_pos (.inl (by simpa using h1))]
          simp -implicitDefEqProofs only [vcx, tys, reduceIte, reduceCtorEq, Nat.reduceAdd, Nat.reduceLT, Nat.reduceEqDiff, Nat.reduceLeDiff, Nat.reduceSub, Nat.reduceMul, Int.reduceLE, Int.reduceNeg, Int.reduceLT, String.reduceBEq, splice, afill, Nat.reducePow, Nat.reduceBEq, eq_self, forall_exists_index, forall_apply_eq_imp_iff₂, exists_eq_left', ite_true, ite_false, if_true, if_false, ne_eq, forall_const, exists_eq_left, forall_eq, implies_true, id_eq, AV.weak, AV.weak.weakL, aun, isIface, vcd, Try.results56, e0, e3, e5, encI, encC, Nat.zero_add, Int.toNat_natCast]
          refine ⟨by omega, by omega, hbd, ?_⟩
          rw [e0', stc]
          exact fin t _ hw (by simp -implicitDefEqProofs only [vcx, tys, reduceIte, reduceCtorEq, Nat.reduceAdd, Nat.reduceLT, Nat.reduceEqDiff, Nat.reduceLeDiff, Nat.reduceSub, Nat.reduceMul, Int.reduceLE, Int.reduceNeg, Int.reduceLT, String.reduceBEq, splice, afill, Nat.reducePow, Nat.reduceBEq, eq_self, forall_exists_index, forall_apply_eq_imp_iff₂, exists_eq_left', ite_true, ite_false, if_true, if_false, ne_eq, forall_const, exists_eq_left, forall_eq, implies_true, id_eq, AV.weak, AV.weak.weakL, aun, isIface] <;> rfl)
        simp -implicitDefEqProofs only [vcx, tys, reduceIte, reduceCtorEq, Nat.reduceAdd, Nat.reduceLT, Nat.reduceEqDiff, Nat.reduceLeDiff, Nat.reduceSub, Nat.reduceMul, Int.reduceLE, Int.reduceNeg, Int.reduceLT, String.reduceBEq, splice, afill, Nat.reducePow, Nat.reduceBEq, eq_self, forall_exists_index, forall_apply_eq_imp_iff₂, exists_eq_left', ite_true, ite_false, if_true, if_false, ne_eq, forall_const, exists_eq_left, forall_eq, implies_true, id_eq, AV.weak, AV.weak.weakL, aun, isIface, vcd, Try.results56, e0, e3, e5, encI, encC, Nat.zero_add, Int.toNat_natCast]
        refine ⟨by omega, by omega, fun y hy => ?_⟩
        rw [hx] at hy; cases hy
        cases h2 : decide (t.n = x.n)
        · have hw : newC x t = x := by
            simp only [decide_eq_false_iff_not] at h1 h2
            rw [newC, if_neg (by omega)]
          simp -implicitDefEqProofs only [vcx, tys, reduceIte, reduceCtorEq, Nat.reduceAdd, Nat.reduceLT, Nat.reduceEqDiff, Nat.reduceLeDiff, Nat.reduceSub, Nat.reduceMul, Int.reduceLE, Int.reduceNeg, Int.reduceLT, String.reduceBEq, splice, afill, Nat.reducePow, Nat.reduceBEq, eq_self, forall_exists_index, forall_apply_eq_imp_iff₂, exists_eq_left', ite_true, ite_false, if_true, if_false, ne_eq, forall_const, exists_eq_left, forall_eq, implies_true, id_eq, AV.weak, AV.weak.weakL, aun, isIface, vcd, Try.results56, e0, e3, e5, encI, encC, Nat.zero_add, Int.toNat_natCast]
          rw [same]
          exact fin x _ hw (by simp -implicitDefEqProofs only [vcx, tys, reduceIte, reduceCtorEq, Nat.reduceAdd, Nat.reduceLT, Nat.reduceEqDiff, Nat.reduceLeDiff, Nat.reduceSub, Nat.reduceMul, Int.reduceLE, Int.reduceNeg, Int.reduceLT, String.reduceBEq, splice, afill, Nat.reducePow, Nat.reduceBEq, eq_self, forall_exists_index, forall_apply_eq_imp_iff₂, exists_eq_left', ite_true, ite_false, if_true, if_false, ne_eq, forall_const, exists_eq_left, forall_eq, implies_true, id_eq, AV.weak, AV.weak.weakL, aun, isIface] <;> rfl)
        simp -implicitDefEqProofs only [vcx, tys, reduceIte, reduceCtorEq, Nat.reduceAdd, Nat.reduceLT, Nat.reduceEqDiff, Nat.reduceLeDiff, Nat.reduceSub, Nat.reduceMul, Int.reduceLE, Int.reduceNeg, Int.reduceLT, String.reduceBEq, splice, afill, Nat.reducePow, Nat.reduceBEq, eq_self, forall_exists_index, forall_apply_eq_imp_iff₂, exists_eq_left', ite_true, ite_false, if_true, if_false, ne_eq, forall_const, exists_eq_left, forall_eq, implies_true, id_eq, AV.weak, AV.weak.weakL, aun, isIface, vcd, Try.results56, e0, e3, e5, encI, encC, Nat.zero_add, Int.toNat_natCast]
        refine ⟨by omega, by omega, fun y hy => ?_⟩
        rw [hx] at hy; cases hy
        refine ⟨fun h3 => ?_, fun h3 => ?_⟩
        · have hw : newC x t = t := by rw [newC, if_pos (.inr ⟨by simpa using h2, h3⟩)]
          refine ⟨by omega, by omega, hbd, ?_⟩
          rw [e0', stc]
          exact fin t _ hw (by simp -implicitDefEqProofs only [vcx, tys, reduceIte, reduceCtorEq, Nat.reduceAdd, Nat.reduceLT, Nat.reduceEqDiff, Nat.reduceLeDiff, Nat.reduceSub, Nat.reduceMul, Int.reduceLE, Int.reduceNeg, Int.reduceLT, String.reduceBEq, splice, afill, Nat.reducePow, Nat.reduceBEq, eq_self, forall_exists_index, forall_apply_eq_imp_iff₂, exists_eq_left', ite_true, ite_false, if_true, if_false, ne_eq, forall_const, exists_eq_left, forall_eq, implies_true, id_eq, AV.weak, AV.weak.weakL, aun, isIface] <;> rfl)
        · have hw : newC x t = x := by
            simp only [decide_eq_false_iff_not, decide_eq_true_eq] at h1 h2
            rw [newC, if_neg (by omega)]
          rw [same]
          exact fin x _ hw (by simp -implicitDefEqProofs only [vcx, tys, reduceIte, reduceCtorEq, Nat.reduceAdd, Nat.reduceLT, Nat.reduceEqDiff, Nat.reduceLeDiff, Nat.reduceSub, Nat.reduceMul, Int.reduceLE, Int.reduceNeg, Int.reduceLT, String.reduceBEq, splice, afill, Nat.reducePow, Nat.reduceBEq, eq_self, forall_exists_index, forall_apply_eq_imp_iff₂, exists_eq_left', ite_true, ite_false, if_true, if_false, ne_eq, forall_const, exists_eq_left, forall_eq, implies_true, id_eq, AV.weak, AV.weak.weakL, aun, isIface] <;> rfl)
      · rw [if_neg hne] at hh
        refine awp_gen [] mixed (by kernel_rfl) ?_
        simp -implicitDefEqProofs only [vcx, tys, reduceIte, reduceCtorEq, Nat.reduceAdd, Nat.reduceLT, Nat.reduceEqDiff, Nat.reduceLeDiff, Nat.reduceSub, Nat.reduceMul, Int.reduceLE, Int.reduceNeg, Int.reduceLT, String.reduceBEq, splice, afill, Nat.reducePow, Nat.reduceBEq, eq_self, forall_exists_index, forall_apply_eq_imp_iff₂, exists_eq_left', ite_true, ite_false, if_true, if_false, ne_eq, forall_const, exists_eq_left, forall_eq, implies_true, id_eq, AV.weak, AV.weak.weakL, aun, isIface, vcd, Try.results56, e0, e3, e5, encI, encC]
        refine ⟨by omega, hlt, fun y hy => ?_⟩
        rw [Int.toNat_natCast, hx] at hy; cases hy
        rw [sgt_eq hne]
        refine ⟨fun hgt => ?_, fun hle => ?_⟩
        · rw [if_pos hgt] at hh
          refine awp_gen [] mixed (by kernel_rfl) ?_
          simp -implicitDefEqProofs only [vcx, tys, reduceIte, reduceCtorEq, Nat.reduceAdd, Nat.reduceLT, Nat.reduceEqDiff, Nat.reduceLeDiff, Nat.reduceSub, Nat.reduceMul, Int.reduceLE, Int.reduceNeg, Int.reduceLT, String.reduceBEq, splice, afill, Nat.reducePow, Nat.reduceBEq, eq_self, forall_exists_index, forall_apply_eq_imp_iff₂, exists_eq_left', ite_true, ite_false, if_true, if_false, ne_eq, forall_const, exists_eq_left, forall_eq, implies_true, id_eq, AV.weak, AV.weak.weakL, aun, isIface, vcd, Try.results56, e0, e3, e5, encI, encC, bound, bnd1]
          have hz : ∀ y, y ∈ l.map encC → y.flat.length = 3 := fun y hy => flatC y l hy
          have hz1 : ∀ y, y ∈ List.take (i - 0) (l.map encC) → y.flat.length = 3 := fun y hy => hz y (List.mem_of_mem_take hy)
          have hz2 : ∀ y, y ∈ List.take (l.length - i) (List.drop i (l.map encC)) → y.flat.length = 3 := fun y hy => hz y (List.mem_of_mem_drop (List.mem_of_mem_take hy))
          have hl1 : (List.take (i - 0) (l.map encC)).length = i := by simp; omega
          have hl2 : (List.take (l.length - i) (List.drop i (l.map encC))).length = l.length - i := by simp
          refine ⟨Nat.zero_le _, by omega, own_full, by simp, hz1, by simp only [maxN]; omega, by simp only [maxN]; omega, own_new, hz1, by simp only [maxN]; omega, by simp only [maxN]; omega, by omega, by omega, own_new, fun y hy => ?_, hz2, by rw [List.length_append, hl1, hl2]; simp only [maxN, List.length_singleton]; omega, by rw [List.length_append, hl1, hl2]; simp only [maxN, List.length_singleton]; omega, RetT.now ?_⟩
          · rcases List.mem_append.1 hy with h | h
            · exact hz1 y h
            · rw [List.mem_singleton.1 h]; rfl
          · simp -implicitDefEqProofs only [vcx, tys, reduceIte, reduceCtorEq, Nat.reduceAdd, Nat.reduceLT, Nat.reduceEqDiff, Nat.reduceLeDiff, Nat.reduceSub, Nat.reduceMul, Int.reduceLE, Int.reduceNeg, Int.reduceLT, String.reduceBEq, splice, afill, Nat.reducePow, Nat.reduceBEq, eq_self, forall_exists_index, forall_apply_eq_imp_iff₂, exists_eq_left', ite_true, ite_false, if_true, if_false, ne_eq, forall_const, exists_eq_left, forall_eq, implies_true, id_eq, AV.weak, AV.weak.weakL, aun, isIface, Try.results56, hh]
            simp [hd, encC, AV.weak, ← List.map_take, ← List.map_drop]
            rw [List.take_of_length_le (by simp; omega)]
        · rw [if_neg (by rw [hle]; simp)] at hh
          simp -implicitDefEqProofs only [vcx, tys, reduceIte, reduceCtorEq, Nat.reduceAdd, Nat.reduceLT, Nat.reduceEqDiff, Nat.reduceLeDiff, Nat.reduceSub, Nat.reduceMul, Int.reduceLE, Int.reduceNeg, Int.reduceLT, String.reduceBEq, splice, afill, Nat.reducePow, Nat.reduceBEq, eq_self, forall_exists_index, forall_apply_eq_imp_iff₂, exists_eq_left', ite_true, ite_false, if_true, if_false, ne_eq, forall_const, exists_eq_left, forall_eq, implies_true, id_eq, AV.weak, AV.weak.weakL, aun, isIface, vcd, Try.results56, e0, e3, e5, encI, encC, w1]
          refine ⟨m - 1, by omega, i + 1, by omega, ?_, _, rfl, ?_, ?_, ?_⟩
          · rw [hh, List.take_add_one, hx]; simp
          all_goals simp -implicitDefEqProofs only [vcx, tys, reduceIte, reduceCtorEq, Nat.reduceAdd, Nat.reduceLT, Nat.reduceEqDiff, Nat.reduceLeDiff, Nat.reduceSub, Nat.reduceMul, Int.reduceLE, Int.reduceNeg, Int.reduceLT, String.reduceBEq, splice, afill, Nat.reducePow, Nat.reduceBEq, eq_self, forall_exists_index, forall_apply_eq_imp_iff₂, exists_eq_left', ite_true, ite_false, if_true, if_false, ne_eq, forall_const, exists_eq_left, forall_eq, implies_true, id_eq, AV.weak, AV.weak.weakL, aun, isIface, e0, e3, e5, encI]
    · rw [List.drop_of_length_le (by omega), List.take_of_length_le (by omega)] at hh
      refine awp_gen [] mixed (by kernel_rfl) ?_
      simp -implicitDefEqProofs only [vcx, tys, reduceIte, reduceCtorEq, Nat.reduceAdd, Nat.reduceLT, Nat.reduceEqDiff, Nat.reduceLeDiff, Nat.reduceSub, Nat.reduceMul, Int.reduceLE, Int.reduceNeg, Int.reduceLT, String.reduceBEq, splice, afill, Nat.reducePow, Nat.reduceBEq, eq_self, forall_exists_index, forall_apply_eq_imp_iff₂, exists_eq_left', ite_true, ite_false, if_true, if_false, ne_eq, forall_const, exists_eq_left, forall_eq, implies_true, id_eq, AV.weak, AV.weak.weakL, aun, isIface, vcd, Try.results56, e0, e3, e5, encI, encC]
      refine ⟨own_full, by simp, by simp only [maxN]; omega, by simp only [maxN]; omega, own_new, by simp only [maxN]; omega, by simp only [maxN]; omega, RetT.now ?_⟩
      simp -implicitDefEqProofs only [vcx, tys, reduceIte, reduceCtorEq, Nat.reduceAdd, Nat.reduceLT, Nat.reduceEqDiff, Nat.reduceLeDiff, Nat.reduceSub, Nat.reduceMul, Int.reduceLE, Int.reduceNeg, Int.reduceLT, String.reduceBEq, splice, afill, Nat.reducePow, Nat.reduceBEq, eq_self, forall_exists_index, forall_apply_eq_imp_iff₂, exists_eq_left', ite_true, ite_false, if_true, if_false, ne_eq, forall_const, exists_eq_left, forall_eq, implies_true, id_eq, AV.weak, AV.weak.weakL, aun, isIface, Try.results56, hh]
      simp [copiesR, encC, AV.weak]
end Go.Proofs.Ytlcajocjiehplaa
