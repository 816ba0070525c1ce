/- view.merge. -/
import Derived.Test.YtlcajocjiehplaaZzV9
set_option linter.unusedVariables false
set_option linter.unusedSimpArgs false
set_option maxRecDepth 10000
namespace Go.Proofs.Ytlcajocjiehplaa
open Go Go.Abs
def mStep {α : Type} (cmp : α → α → Int) (both : α → α → α) (out : List α) (x : α) : List α :=
  match out[bsPos out (cmp · x)]? with
  | some y => if cmp y x = 0 then out.set (bsPos out (cmp · x)) (both y x) else insAt out (bsPos out (cmp · x)) x
  | none => insAt out (bsPos out (cmp · x)) x
def mergeF {α : Type} (cmp : α → α → Int) (both : α → α → α) (a b : List α) : List α := b.foldl (mStep cmp both) a
theorem bsGo_le (p : Nat → Bool) : ∀ (k i j : Nat), i ≤ j → bsGo p k i j ≤ j
  | 0, i, j, h => h
  | k + 1, i, j, h => by
    rw [bsGo]
    split
    · split
      · exact bsGo_le p k _ _ (by omega)
      · exact Nat.le_trans (bsGo_le p k _ _ (by omega)) (by omega)
    · exact h
theorem bsPos_le {α : Type} (l : List α) (c : α → Int) : bsPos l c ≤ l.length := bsGo_le _ _ _ _ (Nat.zero_le _)
theorem mStep_length {α : Type} (cmp : α → α → Int) (both : α → α → α) (out : List α) (x : α) : (mStep cmp both out x).length ≤ out.length + 1 := by
  unfold mStep
  split
  · split
    · simp
    · rw [insAt_length (bsPos_le _ _)]; exact Nat.le_refl _
  · rw [insAt_length (bsPos_le _ _)]; exact Nat.le_refl _
theorem map_insAt {α β : Type} (f : α → β) (l : List α) (i : Nat) (x : α) : insAt (l.map f) i (f x) = (insAt l i x).map f := by simp [insAt]
theorem flats_get' {z : Nat} {xs : List AV} (h : ∀ x, x ∈ xs → x.flat.length = z) {p : Nat} {y : AV} (hp : xs[p]? = some y) (sp : List AV) : List.take z (List.drop (p * z) (flats xs ++ sp)) = y.flat := by
  have hlt : p < xs.length := (List.getElem?_eq_some_iff.1 hp).1
  rw [flats_drop' h (Nat.le_of_lt hlt), List.drop_eq_getElem_cons hlt, flats_cons', List.append_assoc, List.take_left']
  · rw [(List.getElem?_eq_some_iff.1 hp).2]
  · exact h _ (List.getElem_mem hlt)
theorem flats_set' {z : Nat} {xs : List AV} (h : ∀ x, x ∈ xs → x.flat.length = z) {p : Nat} (hlt : p < xs.length) (w : AV) (hw : w.flat.length = z) (sp : List AV) (n m : Nat) (hn : n = p * z) (hm : m = p * z + w.flat.length) :
    List.take n (flats xs ++ sp) ++ w.flat ++ List.drop m (flats xs ++ sp) = flats (xs.set p w) ++ sp := by
  subst hn hm
  rw [flats_take' h (Nat.le_of_lt hlt), hw]
  have e : p * z + z = (p + 1) * z := by rw [Nat.add_mul]; omega
  rw [e, flats_drop' h (show p + 1 ≤ xs.length from hlt), List.set_eq_take_append_cons_drop, if_pos hlt, flats_app, flats_cons']
  simp
theorem weakM (y : AV) (l : List Mem) (h : y ∈ l.map encM) : y.weak = y := by
  obtain ⟨x, _, rfl⟩ := List.mem_map.1 h; rfl
theorem weakC (y : AV) (l : List Cop) (h : y ∈ l.map encC) : y.weak = y := by
  obtain ⟨x, _, rfl⟩ := List.mem_map.1 h; rfl
theorem flatM (y : AV) (l : List Mem) (h : y ∈ l.map encM) : y.flat.length = 2 := by
  obtain ⟨x, _, rfl⟩ := List.mem_map.1 h; rfl
theorem flatC (y : AV) (l : List Cop) (h : y ∈ l.map encC) : y.flat.length = 3 := by
  obtain ⟨x, _, rfl⟩ := List.mem_map.1 h; rfl

theorem ins0C_mut (x : AV) (hx : x.flat.length = 3) (hxw : x.weak = x) : Mut Try.prog 75 [] [.sl .full [], encI 0, .sl .no [x]] fun H' r => H'.length = 1 ∧ OwnB 3 0 [x] H' r := by
  refine Mut.intro Try.func75 rfl rfl fun S0 w0 bs => vc_sound _ ?_
  have c1 : (((1 : Nat) : Int)) = 1 := rfl
  have c0 : (((0 : Nat) : Int)) = 0 := rfl
  simp -implicitDefEqProofs only [vcx, tys, reduceIte, reduceCtorEq, Nat.reduceAdd, Nat.reduceLT, Nat.reduceEqDiff, Nat.reduceLeDiff, Nat.reduceSub, Nat.reduceMul, Int.reduceLE, Int.reduceNeg, Int.reduceLT, String.reduceBEq, splice, afill, Nat.reducePow, Nat.reduceBEq, eq_self, forall_exists_index, forall_apply_eq_imp_iff₂, exists_eq_left', ite_true, ite_false, if_true, if_false, ne_eq, forall_const, exists_eq_left, forall_eq, implies_true, id_eq, AV.weak, AV.weak.weakL, aun, isIface, Try.results75, Try.ntmps75, encI, bound, c1, c0, Int.reduceEq, Nat.sub_zero, Nat.zero_add, Int.toNat_zero]
  simp
  intro _
  refine ⟨hx, by decide, by decide, fun cap' hc => ⟨[0], by simp, [_], .cons ⟨_, rfl, rfl, rfl⟩ .nil, rfl, (List.replicate ((cap' - 1) * 3) AV.undef).map AV.weak, cap', ?_, ?_, hc, ?_⟩⟩
  · have hwx : x.flat.map AV.weak = x.flat := by rw [← weak_flat, hxw]
    simp only [List.getElem?_cons_zero, List.map_append, flats_one, hwx]; rfl
  · rfl
  · simp
theorem ins0M_mut (x : AV) (hx : x.flat.length = 2) (hxw : x.weak = x) : Mut Try.prog 79 [] [.sl .full [], encI 0, .sl .no [x]] fun H' r => H'.length = 1 ∧ OwnB 2 0 [x] H' r := by
  refine Mut.intro Try.func79 rfl rfl fun S0 w0 bs => vc_sound _ ?_
  have c1 : (((1 : Nat) : Int)) = 1 := rfl
  have c0 : (((0 : Nat) : Int)) = 0 := rfl
  simp -implicitDefEqProofs only [vcx, tys, reduceIte, reduceCtorEq, Nat.reduceAdd, Nat.reduceLT, Nat.reduceEqDiff, Nat.reduceLeDiff, Nat.reduceSub, Nat.reduceMul, Int.reduceLE, Int.reduceNeg, Int.reduceLT, String.reduceBEq, splice, afill, Nat.reducePow, Nat.reduceBEq, eq_self, forall_exists_index, forall_apply_eq_imp_iff₂, exists_eq_left', ite_true, ite_false, if_true, if_false, ne_eq, forall_const, exists_eq_left, forall_eq, implies_true, id_eq, AV.weak, AV.weak.weakL, aun, isIface, Try.results79, Try.ntmps79, encI, bound, c1, c0, Int.reduceEq, Nat.sub_zero, Nat.zero_add, Int.toNat_zero]
  simp
  intro _
  refine ⟨hx, by decide, by decide, fun cap' hc => ⟨[0], by simp, [_], .cons ⟨_, rfl, rfl, rfl⟩ .nil, rfl, (List.replicate ((cap' - 1) * 2) AV.undef).map AV.weak, cap', ?_, ?_, hc, ?_⟩⟩
  · have hwx : x.flat.map AV.weak = x.flat := by rw [← weak_flat, hxw]
    simp only [List.getElem?_cons_zero, List.map_append, flats_one, hwx]; rfl
  · rfl
  · simp
def OutC (H : List BoxC) (o : AV) (ys : List Cop) : Prop := (ys = [] ∧ o = .sl .full []) ∨
  ∃ k sp cap, H[k]? = some ⟨flats (ys.map encC) ++ sp, true⟩ ∧ o = .bsl k 0 ys.length cap ∧ ys.length ≤ cap ∧ sp.length = (cap - ys.length) * 3
theorem mergeC_ok (f g : FuncId) (cmp : Cop → Cop → Int) (both : Cop → Cop → Cop) (hf : ∀ x y, Abs.Pure Try.prog f [encC x, encC y] (encI (cmp x y))) (hg : ∀ x y, Abs.Pure Try.prog g [encC x, encC y] (encC (both x y)))
    (a b : List Cop) (hb : (a.length + b.length) * 32 ≤ maxN) : Abs.Pure Try.prog 48 [.sl .no (a.map encC), .sl .no (b.map encC), .clo f [], .clo g []] (.sl .no ((mergeF cmp both a b).map encC)) := by
  refine Pure.introB (fun _ => false) Try.func48 rfl rfl fun S0 w0 => vc_sound _ ?_
  simp only [maxN] at hb
  simp -implicitDefEqProofs only [vcx, tys, reduceIte, reduceCtorEq, Nat.reduceAdd, Nat.reduceLT, Nat.reduceEqDiff, Nat.reduceLeDiff, Nat.reduceSub, Nat.reduceMul, Int.reduceLE, Int.reduceNeg, Int.reduceLT, String.reduceBEq, splice, afill, Nat.reducePow, Nat.reduceBEq, eq_self, forall_exists_index, forall_apply_eq_imp_iff₂, exists_eq_left', ite_true, ite_false, if_true, if_false, ne_eq, forall_const, exists_eq_left, forall_eq, implies_true, id_eq, AV.weak, AV.weak.weakL, aun, isIface, Try.results48, Try.ntmps48]
  refine call_m [] (cloneC_mut a (by simp only [maxN]; omega)) List.nodup_nil .nil (.cons (.inr rfl) .nil) fun H' r hR _ => ?_
  have hO : OutC (H'.map fun cs => BoxC.mk cs true) (r.ren (backOf [] 0)) a := by
    rcases hR with ⟨rfl, rfl, rfl⟩ | ⟨hl, ⟨he, rfl⟩ | ⟨sp, cap, h1, rfl, h2, h3⟩⟩
    · exact .inl ⟨rfl, rfl⟩
    · exact .inl ⟨by simpa using he, rfl⟩
    · simp only [List.length_map] at h2 h3
      exact .inr ⟨0, sp, cap, by rw [List.getElem?_map, h1]; rfl, by rw [List.length_map]; rfl, h2, h3⟩
  simp -implicitDefEqProofs only [vcx, tys, reduceIte, reduceCtorEq, Nat.reduceAdd, Nat.reduceLT, Nat.reduceEqDiff, Nat.reduceLeDiff, Nat.reduceSub, Nat.reduceMul, Int.reduceLE, Int.reduceNeg, Int.reduceLT, String.reduceBEq, splice, afill, Nat.reducePow, Nat.reduceBEq, eq_self, forall_exists_index, forall_apply_eq_imp_iff₂, exists_eq_left', ite_true, ite_false, if_true, if_false, ne_eq, forall_const, exists_eq_left, forall_eq, implies_true, id_eq, AV.weak, AV.weak.weakL, aun, isIface, Try.results48, Try.ntmps48]
  intro hbl
  refine awp_loop (fun m σ => ∃ (i : Nat) (ys : List Cop) (H : List BoxC), m + i = b.length ∧ ys.length ≤ a.length + i ∧ mergeF cmp both a b = mergeF cmp both ys (b.drop i) ∧ ∃ e, σ = Sta.mk e 47 H [] [] false ∧
    e 2 = .clo f [] ∧ e 3 = .clo g [] ∧ e 16 = .sl .no (b.map encC) ∧ e 17 = encI b.length ∧ e 18 = encI i ∧ OutC H (e 9) ys) (m := b.length) ?_ ?_
  · refine ⟨0, a, _, rfl, Nat.le_refl _, rfl, _, rfl, ?_, ?_, ?_, ?_, ?_, ?_⟩ <;> simp -implicitDefEqProofs only [vcx, tys, reduceIte, reduceCtorEq, Nat.reduceAdd, Nat.reduceLT, Nat.reduceEqDiff, Nat.reduceLeDiff, Nat.reduceSub, Nat.reduceMul, Int.reduceLE, Int.reduceNeg, Int.reduceLT, String.reduceBEq, splice, afill, Nat.reducePow, Nat.reduceBEq, eq_self, forall_exists_index, forall_apply_eq_imp_iff₂, exists_eq_left', ite_true, ite_false, if_true, if_false, ne_eq, forall_const, exists_eq_left, forall_eq, implies_true, id_eq, AV.weak, AV.weak.weakL, aun, isIface] <;> first | rfl | exact hO
  · rintro m σ ⟨i, ys, H, hm, hys, hh, e, rfl, e2, e3, e16, e17, e18, hO⟩
    refine vc_sound _ ?_
    simp -implicitDefEqProofs only [vcx, tys, reduceIte, reduceCtorEq, Nat.reduceAdd, Nat.reduceLT, Nat.reduceEqDiff, Nat.reduceLeDiff, Nat.reduceSub, Nat.reduceMul, Int.reduceLE, Int.reduceNeg, Int.reduceLT, String.reduceBEq, splice, afill, Nat.reducePow, Nat.reduceBEq, eq_self, forall_exists_index, forall_apply_eq_imp_iff₂, exists_eq_left', ite_true, ite_false, if_true, if_false, ne_eq, forall_const, exists_eq_left, forall_eq, implies_true, id_eq, AV.weak, AV.weak.weakL, aun, isIface, Try.results48, e2, e3, e16, e17, e18, encI, encC, set_concat]
    refine ⟨fun hlt => ⟨by omega, hlt, fun x hx => ?_⟩, fun hge => ?_⟩
    · have hd := drop_at hx
      rw [hd] at hh
      have hst : mergeF cmp both ys (x :: b.drop (i + 1)) = mergeF cmp both (mStep cmp both ys x) (b.drop (i + 1)) := rfl
      rw [hst] at hh
      have hln := mStep_length cmp both ys x
      have w1 : IntKind.i64.wrap ((i : Int) + 1) = ((i + 1 : Nat) : Int) := by rw [wrap_i64 (by omega) (by omega)]; omega
      rcases hO with ⟨rfl, hO⟩ | ⟨k, sp, cap, hk, hO, hc, hsp⟩
      · refine call_p (bsearchC_ok f [] x (cmp · x) (fun y => hf y x)) (by rw [hO]; rfl) ?_
        have h1 : (bsHit ([] : List Cop) fun y => cmp y x) = false := rfl
        have h2 : (bsPos ([] : List Cop) fun y => cmp y x) = 0 := rfl
        simp -implicitDefEqProofs only [vcx, tys, reduceIte, reduceCtorEq, Nat.reduceAdd, Nat.reduceLT, Nat.reduceEqDiff, Nat.reduceLeDiff, Nat.reduceSub, Nat.reduceMul, Int.reduceLE, Int.reduceNeg, Int.reduceLT, String.reduceBEq, splice, afill, Nat.reducePow, Nat.reduceBEq, eq_self, forall_exists_index, forall_apply_eq_imp_iff₂, exists_eq_left', ite_true, ite_false, if_true, if_false, ne_eq, forall_const, exists_eq_left, forall_eq, implies_true, id_eq, AV.weak, AV.weak.weakL, aun, isIface, Try.results48, e2, e3, e16, e17, e18, hO, encI, encB, encC, set_concat, h1, h2]
        refine call_m [] (ins0C_mut (encC x) rfl rfl) List.nodup_nil .nil (.cons (.inl rfl) (.cons (.inr rfl) (.cons (.inr rfl) .nil))) fun H' r hR _ => ?_
        obtain ⟨hl1, sp, cap, hk, rfl, hc, hsp⟩ := hR
        obtain ⟨c0, rfl⟩ : ∃ c0, H' = [c0] := by
          match H', hl1 with
          | [c0], _ => exact ⟨c0, rfl⟩
        simp only [List.getElem?_cons_zero, Option.some.injEq] at hk
        subst hk
        simp -implicitDefEqProofs only [vcx, tys, reduceIte, reduceCtorEq, Nat.reduceAdd, Nat.reduceLT, Nat.reduceEqDiff, Nat.reduceLeDiff, Nat.reduceSub, Nat.reduceMul, Int.reduceLE, Int.reduceNeg, Int.reduceLT, String.reduceBEq, splice, afill, Nat.reducePow, Nat.reduceBEq, eq_self, forall_exists_index, forall_apply_eq_imp_iff₂, exists_eq_left', ite_true, ite_false, if_true, if_false, ne_eq, forall_const, exists_eq_left, forall_eq, implies_true, id_eq, AV.weak, AV.weak.weakL, aun, isIface, Try.results48, e2, e3, e16, e17, e18, w1, encI]
        refine ⟨m - 1, by omega, i + 1, mStep cmp both [] x, _, by omega, by omega, hh, _, rfl, ?_, ?_, ?_, ?_, ?_, ?_⟩ <;> simp -implicitDefEqProofs only [vcx, tys, reduceIte, reduceCtorEq, Nat.reduceAdd, Nat.reduceLT, Nat.reduceEqDiff, Nat.reduceLeDiff, Nat.reduceSub, Nat.reduceMul, Int.reduceLE, Int.reduceNeg, Int.reduceLT, String.reduceBEq, splice, afill, Nat.reducePow, Nat.reduceBEq, eq_self, forall_exists_index, forall_apply_eq_imp_iff₂, exists_eq_left', ite_true, ite_false, if_true, if_false, ne_eq, forall_const, exists_eq_left, forall_eq, implies_true, id_eq, AV.weak, AV.weak.weakL, aun, isIface, e2, e3, e16, e17, e18, encI]
        refine .inr ⟨?k, sp, cap, ?h1, ?h2, hc, hsp⟩
        case h2 => exact rfl
        case h1 => exact List.getElem?_concat_length
      · have hkl : k < H.length := by
          rcases Nat.lt_or_ge k H.length with h | h
          · exact h
          · rw [List.getElem?_eq_none h] at hk; cases hk
        have hz : ∀ y, y ∈ ys.map encC → y.flat.length = 3 := fun y hy => flatC y ys hy
        have hw : ∀ y, y ∈ ys.map encC → y.weak = y := fun y hy => weakC y ys hy
        have hwm : (ys.map encC).map AV.weak = ys.map encC := by
          conv => rhs; rw [← List.map_id (ys.map encC)]
          exact List.map_congr_left fun x hx => hw x hx
        have hfl : (flats (ys.map encC) ++ sp).length = cap * 3 := by
          rw [List.length_append, flats_len _ hz, List.length_map, hsp, ← Nat.add_mul]; congr 1; omega
        have hk' : ∀ bx : BoxC, (H ++ [bx])[k]? = some ⟨flats (ys.map encC) ++ sp, true⟩ := fun bx => by rw [List.getElem?_append_left hkl]; exact hk
        refine call_l (bsearchC_ok f ys x (cmp · x) (fun y => hf y x)) (.cons (.inr ⟨k, 0, ys.length, cap, ⟨flats (ys.map encC) ++ sp, true⟩, ys.map encC, 3, hO, hk' _, by rw [hwm], ?_, hz, by rw [List.length_map], ?_⟩) (.cons (.inl rfl) (.cons (.inl rfl) .nil))) rfl ?_
        · show flats (ys.map encC) = ((flats (ys.map encC) ++ sp).drop 0).take (ys.length * 3)
          have := flats_take' hz (Nat.le_refl _) sp
          rw [List.length_map] at this
          rw [List.drop_zero, this, List.take_of_length_le (by rw [List.length_map]; exact Nat.le_refl _)]
        · show 0 + ys.length * 3 ≤ (flats (ys.map encC) ++ sp).length
          rw [hfl]; have := Nat.mul_le_mul_right 3 hc; omega
        simp -implicitDefEqProofs only [vcx, tys, reduceIte, reduceCtorEq, Nat.reduceAdd, Nat.reduceLT, Nat.reduceEqDiff, Nat.reduceLeDiff, Nat.reduceSub, Nat.reduceMul, Int.reduceLE, Int.reduceNeg, Int.reduceLT, String.reduceBEq, splice, afill, Nat.reducePow, Nat.reduceBEq, eq_self, forall_exists_index, forall_apply_eq_imp_iff₂, exists_eq_left', ite_true, ite_false, if_true, if_false, ne_eq, forall_const, exists_eq_left, forall_eq, implies_true, id_eq, AV.weak, AV.weak.weakL, aun, isIface, Try.results48, e2, e3, e16, e17, e18, hO, encI, encB, encC, set_concat]
        have hpl := bsPos_le ys fun y => cmp y x
        refine ⟨fun hit => ?_, fun miss => ?_⟩
        · obtain ⟨y, hy, hcy⟩ : ∃ y, ys[bsPos ys fun y => cmp y x]? = some y ∧ cmp y x = 0 := by
            simp only [bsHit, atB] at hit
            split at hit
            · rename_i y hy; exact ⟨y, hy, by simpa using hit⟩
            · cases hit
          have hpl2 : (bsPos ys fun y => cmp y x) < ys.length := by
            rcases Nat.lt_or_ge (bsPos ys fun y => cmp y x) ys.length with h | h
            · exact h
            · rw [List.getElem?_eq_none h] at hy; cases hy
          refine awp_gen [] mixed (by kernel_rfl) ?_
          have hms : mStep cmp both ys x = ys.set (bsPos ys fun y => cmp y x) (both y x) := by simp only [mStep, hy, if_pos hcy]
          rw [hms] at hh hln
          have hyz : (ys.map encC)[bsPos ys fun y => cmp y x]? = some (encC y) := by rw [List.getElem?_map, hy]; rfl
          have hrd : ∀ q, q = 0 → List.take 3 (List.drop (q + (bsPos ys fun y => cmp y x) * 3) (flats (ys.map encC) ++ sp)) = (encC y).flat := fun q hq => by
            rw [hq, Nat.zero_add]; exact flats_get' hz hyz sp
          have hrd := hrd 0 rfl
          have hbnd : 0 + (bsPos ys fun y => cmp y x) * 3 + 3 ≤ (flats (ys.map encC) ++ sp).length := by
            rw [hfl]; have := Nat.mul_le_mul_right 3 (show (bsPos ys fun y => cmp y x) + 1 ≤ cap by omega); omega
          simp -implicitDefEqProofs only [vcx, tys, reduceIte, reduceCtorEq, Nat.reduceAdd, Nat.reduceLT, Nat.reduceEqDiff, Nat.reduceLeDiff, Nat.reduceSub, Nat.reduceMul, Int.reduceLE, Int.reduceNeg, Int.reduceLT, String.reduceBEq, splice, afill, Nat.reducePow, Nat.reduceBEq, eq_self, forall_exists_index, forall_apply_eq_imp_iff₂, exists_eq_left', ite_true, ite_false, if_true, if_false, ne_eq, forall_const, exists_eq_left, forall_eq, implies_true, id_eq, AV.weak, AV.weak.weakL, aun, isIface, vcd, Try.results48, e2, e3, e16, e17, e18, hO, encI, set_concat, hk', hrd, Int.toNat_natCast]
          refine ⟨by omega, by omega, hbnd, dcall_p (hg y x) rfl ?_⟩
          simp -implicitDefEqProofs only [vcx, tys, reduceIte, reduceCtorEq, Nat.reduceAdd, Nat.reduceLT, Nat.reduceEqDiff, Nat.reduceLeDiff, Nat.reduceSub, Nat.reduceMul, Int.reduceLE, Int.reduceNeg, Int.reduceLT, String.reduceBEq, splice, afill, Nat.reducePow, Nat.reduceBEq, eq_self, forall_exists_index, forall_apply_eq_imp_iff₂, exists_eq_left', ite_true, ite_false, if_true, if_false, ne_eq, forall_const, exists_eq_left, forall_eq, implies_true, id_eq, AV.weak, AV.weak.weakL, aun, isIface, vcd, Try.results48, e2, e3, e16, e17, e18, hO, encI, set_concat, hk', hrd, w1, Int.toNat_natCast]
          refine ⟨by omega, by omega, rfl, rfl, hbnd, m - 1, by omega, i + 1, _, _, by omega, by omega, hh, _, rfl, ?_, ?_, ?_, ?_, ?_, ?_⟩ <;> simp -implicitDefEqProofs only [vcx, tys, reduceIte, reduceCtorEq, Nat.reduceAdd, Nat.reduceLT, Nat.reduceEqDiff, Nat.reduceLeDiff, Nat.reduceSub, Nat.reduceMul, Int.reduceLE, Int.reduceNeg, Int.reduceLT, String.reduceBEq, splice, afill, Nat.reducePow, Nat.reduceBEq, eq_self, forall_exists_index, forall_apply_eq_imp_iff₂, exists_eq_left', ite_true, ite_false, if_true, if_false, ne_eq, forall_const, exists_eq_left, forall_eq, implies_true, id_eq, AV.weak, AV.weak.weakL, aun, isIface, e2, e3, e16, e17, e18, encI]
          rw [flats_set' hz (by rw [List.length_map]; exact hpl2) (encC (both y x)) rfl sp _ _ (by omega) (by omega), ← List.map_set]
          refine .inr ⟨k, sp, cap, ?_, ?_, ?_, ?_⟩
          · rw [List.getElem?_set_self (by simp; omega)]
          · rw [List.length_set]; exact hO
          · rw [List.length_set]; exact hc
          · rw [List.length_set]; exact hsp
        · have hms : mStep cmp both ys x = insAt ys (bsPos ys fun y => cmp y x) x := by
            simp only [bsHit, atB] at miss
            simp only [mStep]
            split
            · rename_i y hy
              rw [hy] at miss
              rw [if_neg (by simpa using miss)]
            · rfl
          rw [hms] at hh hln
          have hil := insAt_length (x := x) hpl
          have hcw : (flats (ys.map encC) ++ sp).map AV.weak = flats (ys.map encC) ++ sp.map AV.weak := by rw [List.map_append, weak_id_flats hw]
          refine call_m [k] (insC_mut (ys.map encC) (encC x) (sp.map AV.weak) cap (bsPos ys fun y => cmp y x) hz rfl hw rfl (by rw [List.length_map]; exact hpl) (by rw [List.length_map]; exact hc) (by rw [List.length_map, List.length_map]; exact hsp) (by rw [List.length_map]; simp only [maxN]; omega))
            (by simp) (.cons ⟨_, hk' _, rfl, hcw.symm⟩ .nil) (.cons (.inl (by simp [AV.ren, ixOf, hO])) (.cons (.inr rfl) (.cons (.inr rfl) .nil))) fun H' r hR _ => ?_
          obtain ⟨k', hk1, sp', cap', hk2, rfl, hc', hsp'⟩ := hR
          rw [map_insAt, List.length_map] at hc' hsp'
          rw [map_insAt] at hk2
          rcases hk1 with ⟨rfl, hl1⟩ | ⟨rfl, hl1⟩
          · obtain ⟨c0, rfl⟩ : ∃ c0, H' = [c0] := by
              match H', hl1 with
              | [c0], _ => exact ⟨c0, rfl⟩
            simp only [List.getElem?_cons_zero, Option.some.injEq] at hk2
            subst hk2
            simp -implicitDefEqProofs only [vcx, tys, reduceIte, reduceCtorEq, Nat.reduceAdd, Nat.reduceLT, Nat.reduceEqDiff, Nat.reduceLeDiff, Nat.reduceSub, Nat.reduceMul, Int.reduceLE, Int.reduceNeg, Int.reduceLT, String.reduceBEq, splice, afill, Nat.reducePow, Nat.reduceBEq, eq_self, forall_exists_index, forall_apply_eq_imp_iff₂, exists_eq_left', ite_true, ite_false, if_true, if_false, ne_eq, forall_const, exists_eq_left, forall_eq, implies_true, id_eq, AV.weak, AV.weak.weakL, aun, isIface, Try.results48, e2, e3, e16, e17, e18, w1, encI]
            refine ⟨m - 1, by omega, i + 1, _, _, by omega, by omega, hh, _, rfl, ?_, ?_, ?_, ?_, ?_, ?_⟩ <;> simp -implicitDefEqProofs only [vcx, tys, reduceIte, reduceCtorEq, Nat.reduceAdd, Nat.reduceLT, Nat.reduceEqDiff, Nat.reduceLeDiff, Nat.reduceSub, Nat.reduceMul, Int.reduceLE, Int.reduceNeg, Int.reduceLT, String.reduceBEq, splice, afill, Nat.reducePow, Nat.reduceBEq, eq_self, forall_exists_index, forall_apply_eq_imp_iff₂, exists_eq_left', ite_true, ite_false, if_true, if_false, ne_eq, forall_const, exists_eq_left, forall_eq, implies_true, id_eq, AV.weak, AV.weak.weakL, aun, isIface, e2, e3, e16, e17, e18, encI]
            refine .inr ⟨k, sp', cap', ?_, ?_, hc', hsp'⟩
            · simp only [setMany]
              rw [List.getElem?_set_self (by simp; omega)]
            · simp [map_insAt, AV.ren, backOf]
          · obtain ⟨c0, c1, rfl⟩ : ∃ c0 c1, H' = [c0, c1] := by
              match H', hl1 with
              | [c0, c1], _ => exact ⟨c0, c1, rfl⟩
            simp only [List.getElem?_cons_succ, List.getElem?_cons_zero, Option.some.injEq] at hk2
            subst hk2
            simp -implicitDefEqProofs only [vcx, tys, reduceIte, reduceCtorEq, Nat.reduceAdd, Nat.reduceLT, Nat.reduceEqDiff, Nat.reduceLeDiff, Nat.reduceSub, Nat.reduceMul, Int.reduceLE, Int.reduceNeg, Int.reduceLT, String.reduceBEq, splice, afill, Nat.reducePow, Nat.reduceBEq, eq_self, forall_exists_index, forall_apply_eq_imp_iff₂, exists_eq_left', ite_true, ite_false, if_true, if_false, ne_eq, forall_const, exists_eq_left, forall_eq, implies_true, id_eq, AV.weak, AV.weak.weakL, aun, isIface, Try.results48, e2, e3, e16, e17, e18, w1, encI]
            refine ⟨m - 1, by omega, i + 1, _, _, by omega, by omega, hh, _, rfl, ?_, ?_, ?_, ?_, ?_, ?_⟩ <;> simp -implicitDefEqProofs only [vcx, tys, reduceIte, reduceCtorEq, Nat.reduceAdd, Nat.reduceLT, Nat.reduceEqDiff, Nat.reduceLeDiff, Nat.reduceSub, Nat.reduceMul, Int.reduceLE, Int.reduceNeg, Int.reduceLT, String.reduceBEq, splice, afill, Nat.reducePow, Nat.reduceBEq, eq_self, forall_exists_index, forall_apply_eq_imp_iff₂, exists_eq_left', ite_true, ite_false, if_true, if_false, ne_eq, forall_const, exists_eq_left, forall_eq, implies_true, id_eq, AV.weak, AV.weak.weakL, aun, isIface, e2, e3, e16, e17, e18, encI]
            refine .inr ⟨H.length + 1, sp', cap', ?_, ?_, hc', hsp'⟩
            · simp only [setMany]
              rw [List.getElem?_append_right (by simp)]
              simp
            · simp [map_insAt, AV.ren, backOf]
    · have hd : b.drop i = [] := List.drop_of_length_le (by omega)
      rw [hd] at hh
      have hh : mergeF cmp both a b = ys := hh
      rcases hO with ⟨rfl, hO⟩ | ⟨k, sp, cap, hk, hO, hc, hsp⟩
      · refine RetT.now ?_
        simp -implicitDefEqProofs only [vcx, tys, reduceIte, reduceCtorEq, Nat.reduceAdd, Nat.reduceLT, Nat.reduceEqDiff, Nat.reduceLeDiff, Nat.reduceSub, Nat.reduceMul, Int.reduceLE, Int.reduceNeg, Int.reduceLT, String.reduceBEq, splice, afill, Nat.reducePow, Nat.reduceBEq, eq_self, forall_exists_index, forall_apply_eq_imp_iff₂, exists_eq_left', ite_true, ite_false, if_true, if_false, ne_eq, forall_const, exists_eq_left, forall_eq, implies_true, id_eq, AV.weak, AV.weak.weakL, aun, isIface, Try.results48, hO, hh]
      · have hz : ∀ y, y ∈ ys.map encC → y.flat.length = 3 := fun y hy => flatC y ys hy
        have hwm : (ys.map encC).map AV.weak = ys.map encC := by
          conv => rhs; rw [← List.map_id (ys.map encC)]
          exact List.map_congr_left fun x hx => weakC x ys hx
        refine RetT.sl 8 (z := 3) (ys.map encC) (by simp -implicitDefEqProofs only [vcx, tys, reduceIte, reduceCtorEq, Nat.reduceAdd, Nat.reduceLT, Nat.reduceEqDiff, Nat.reduceLeDiff, Nat.reduceSub, Nat.reduceMul, Int.reduceLE, Int.reduceNeg, Int.reduceLT, String.reduceBEq, splice, afill, Nat.reducePow, Nat.reduceBEq, eq_self, forall_exists_index, forall_apply_eq_imp_iff₂, exists_eq_left', ite_true, ite_false, if_true, if_false, ne_eq, forall_const, exists_eq_left, forall_eq, implies_true, id_eq, AV.weak, AV.weak.weakL, aun, isIface, hO]; rfl) hk ?_ hz (by rw [List.length_map]) ?_ (RetT.now ?_)
        · have := flats_take' hz (Nat.le_refl _) sp
          rw [List.length_map] at this
          rw [List.drop_zero, this, List.take_of_length_le (by rw [List.length_map]; exact Nat.le_refl _)]
        · rw [List.length_append, flats_len _ hz, List.length_map]; omega
        · simp -implicitDefEqProofs only [vcx, tys, reduceIte, reduceCtorEq, Nat.reduceAdd, Nat.reduceLT, Nat.reduceEqDiff, Nat.reduceLeDiff, Nat.reduceSub, Nat.reduceMul, Int.reduceLE, Int.reduceNeg, Int.reduceLT, String.reduceBEq, splice, afill, Nat.reducePow, Nat.reduceBEq, eq_self, forall_exists_index, forall_apply_eq_imp_iff₂, exists_eq_left', ite_true, ite_false, if_true, if_false, ne_eq, forall_const, exists_eq_left, forall_eq, implies_true, id_eq, AV.weak, AV.weak.weakL, aun, isIface, Try.results48, hO, hh, hwm]
def OutM (H : List BoxC) (o : AV) (ys : List Mem) : Prop := (ys = [] ∧ o = .sl .full []) ∨
  ∃ k sp cap, H[k]? = some ⟨flats (ys.map encM) ++ sp, true⟩ ∧ o = .bsl k 0 ys.length cap ∧ ys.length ≤ cap ∧ sp.length = (cap - ys.length) * 2
theorem mergeM_ok (f g : FuncId) (cmp : Mem → Mem → Int) (both : Mem → Mem → Mem) (hf : ∀ x y, Abs.Pure Try.prog f [encM x, encM y] (encI (cmp x y))) (hg : ∀ x y, Abs.Pure Try.prog g [encM x, encM y] (encM (both x y)))
    (a b : List Mem) (hb : (a.length + b.length) * 16 ≤ maxN) : Abs.Pure Try.prog 53 [.sl .no (a.map encM), .sl .no (b.map encM), .clo f [], .clo g []] (.sl .no ((mergeF cmp both a b).map encM)) := by
  refine Pure.introB (fun _ => false) Try.func53 rfl rfl fun S0 w0 => vc_sound _ ?_
  simp only [maxN] at hb
  simp -implicitDefEqProofs only [vcx, tys, reduceIte, reduceCtorEq, Nat.reduceAdd, Nat.reduceLT, Nat.reduceEqDiff, Nat.reduceLeDiff, Nat.reduceSub, Nat.reduceMul, Int.reduceLE, Int.reduceNeg, Int.reduceLT, String.reduceBEq, splice, afill, Nat.reducePow, Nat.reduceBEq, eq_self, forall_exists_index, forall_apply_eq_imp_iff₂, exists_eq_left', ite_true, ite_false, if_true, if_false, ne_eq, forall_const, exists_eq_left, forall_eq, implies_true, id_eq, AV.weak, AV.weak.weakL, aun, isIface, Try.results53, Try.ntmps53]
  refine call_m [] (cloneM_mut a (by simp only [maxN]; omega)) List.nodup_nil .nil (.cons (.inr rfl) .nil) fun H' r hR _ => ?_
  have hO : OutM (H'.map fun cs => BoxC.mk cs true) (r.ren (backOf [] 0)) a := by
    rcases hR with ⟨rfl, rfl, rfl⟩ | ⟨hl, ⟨he, rfl⟩ | ⟨sp, cap, h1, rfl, h2, h3⟩⟩
    · exact .inl ⟨rfl, rfl⟩
    · exact .inl ⟨by simpa using he, rfl⟩
    · simp only [List.length_map] at h2 h3
      exact .inr ⟨0, sp, cap, by rw [List.getElem?_map, h1]; rfl, by rw [List.length_map]; rfl, h2, h3⟩
  simp -implicitDefEqProofs only [vcx, tys, reduceIte, reduceCtorEq, Nat.reduceAdd, Nat.reduceLT, Nat.reduceEqDiff, Nat.reduceLeDiff, Nat.reduceSub, Nat.reduceMul, Int.reduceLE, Int.reduceNeg, Int.reduceLT, String.reduceBEq, splice, afill, Nat.reducePow, Nat.reduceBEq, eq_self, forall_exists_index, forall_apply_eq_imp_iff₂, exists_eq_left', ite_true, ite_false, if_true, if_false, ne_eq, forall_const, exists_eq_left, forall_eq, implies_true, id_eq, AV.weak, AV.weak.weakL, aun, isIface, Try.results53, Try.ntmps53]
  intro hbl
  refine awp_loop (fun m σ => ∃ (i : Nat) (ys : List Mem) (H : List BoxC), m + i = b.length ∧ ys.length ≤ a.length + i ∧ mergeF cmp both a b = mergeF cmp both ys (b.drop i) ∧ ∃ e, σ = Sta.mk e 47 H [] [] false ∧
    e 2 = .clo f [] ∧ e 3 = .clo g [] ∧ e 16 = .sl .no (b.map encM) ∧ e 17 = encI b.length ∧ e 18 = encI i ∧ OutM H (e 9) ys) (m := b.length) ?_ ?_
  · refine ⟨0, a, _, rfl, Nat.le_refl _, rfl, _, rfl, ?_, ?_, ?_, ?_, ?_, ?_⟩ <;> simp -implicitDefEqProofs only [vcx, tys, reduceIte, reduceCtorEq, Nat.reduceAdd, Nat.reduceLT, Nat.reduceEqDiff, Nat.reduceLeDiff, Nat.reduceSub, Nat.reduceMul, Int.reduceLE, Int.reduceNeg, Int.reduceLT, String.reduceBEq, splice, afill, Nat.reducePow, Nat.reduceBEq, eq_self, forall_exists_index, forall_apply_eq_imp_iff₂, exists_eq_left', ite_true, ite_false, if_true, if_false, ne_eq, forall_const, exists_eq_left, forall_eq, implies_true, id_eq, AV.weak, AV.weak.weakL, aun, isIface] <;> first | rfl | exact hO
  · rintro m σ ⟨i, ys, H, hm, hys, hh, e, rfl, e2, e3, e16, e17, e18, hO⟩
    refine vc_sound _ ?_
    simp -implicitDefEqProofs only [vcx, tys, reduceIte, reduceCtorEq, Nat.reduceAdd, Nat.reduceLT, Nat.reduceEqDiff, Nat.reduceLeDiff, Nat.reduceSub, Nat.reduceMul, Int.reduceLE, Int.reduceNeg, Int.reduceLT, String.reduceBEq, splice, afill, Nat.reducePow, Nat.reduceBEq, eq_self, forall_exists_index, forall_apply_eq_imp_iff₂, exists_eq_left', ite_true, ite_false, if_true, if_false, ne_eq, forall_const, exists_eq_left, forall_eq, implies_true, id_eq, AV.weak, AV.weak.weakL, aun, isIface, Try.results53, e2, e3, e16, e17, e18, encI, encM, set_concat]
    refine ⟨fun hlt => ⟨by omega, hlt, fun x hx => ?_⟩, fun hge => ?_⟩
    · have hd := drop_at hx
      rw [hd] at hh
      have hst : mergeF cmp both ys (x :: b.drop (i + 1)) = mergeF cmp both (mStep cmp both ys x) (b.drop (i + 1)) := rfl
      rw [hst] at hh
      have hln := mStep_length cmp both ys x
      have w1 : IntKind.i64.wrap ((i : Int) + 1) = ((i + 1 : Nat) : Int) := by rw [wrap_i64 (by omega) (by omega)]; omega
      rcases hO with ⟨rfl, hO⟩ | ⟨k, sp, cap, hk, hO, hc, hsp⟩
      · refine call_p (bsearchM_ok f [] x (cmp · x) (fun y => hf y x)) (by rw [hO]; rfl) ?_
        have h1 : (bsHit ([] : List Mem) fun y => cmp y x) = false := rfl
        have h2 : (bsPos ([] : List Mem) fun y => cmp y x) = 0 := rfl
        simp -implicitDefEqProofs only [vcx, tys, reduceIte, reduceCtorEq, Nat.reduceAdd, Nat.reduceLT, Nat.reduceEqDiff, Nat.reduceLeDiff, Nat.reduceSub, Nat.reduceMul, Int.reduceLE, Int.reduceNeg, Int.reduceLT, String.reduceBEq, splice, afill, Nat.reducePow, Nat.reduceBEq, eq_self, forall_exists_index, forall_apply_eq_imp_iff₂, exists_eq_left', ite_true, ite_false, if_true, if_false, ne_eq, forall_const, exists_eq_left, forall_eq, implies_true, id_eq, AV.weak, AV.weak.weakL, aun, isIface, Try.results53, e2, e3, e16, e17, e18, hO, encI, encB, encM, set_concat, h1, h2]
        refine call_m [] (ins0M_mut (encM x) rfl rfl) List.nodup_nil .nil (.cons (.inl rfl) (.cons (.inr rfl) (.cons (.inr rfl) .nil))) fun H' r hR _ => ?_
        obtain ⟨hl1, sp, cap, hk, rfl, hc, hsp⟩ := hR
        obtain ⟨c0, rfl⟩ : ∃ c0, H' = [c0] := by
          match H', hl1 with
          | [c0], _ => exact ⟨c0, rfl⟩
        simp only [List.getElem?_cons_zero, Option.some.injEq] at hk
        subst hk
        simp -implicitDefEqProofs only [vcx, tys, reduceIte, reduceCtorEq, Nat.reduceAdd, Nat.reduceLT, Nat.reduceEqDiff, Nat.reduceLeDiff, Nat.reduceSub, Nat.reduceMul, Int.reduceLE, Int.reduceNeg, Int.reduceLT, String.reduceBEq, splice, afill, Nat.reducePow, Nat.reduceBEq, eq_self, forall_exists_index, forall_apply_eq_imp_iff₂, exists_eq_left', ite_true, ite_false, if_true, if_false, ne_eq, forall_const, exists_eq_left, forall_eq, implies_true, id_eq, AV.weak, AV.weak.weakL, aun, isIface, Try.results53, e2, e3, e16, e17, e18, w1, encI]
        refine ⟨m - 1, by omega, i + 1, mStep cmp both [] x, _, by omega, by omega, hh, _, rfl, ?_, ?_, ?_, ?_, ?_, ?_⟩ <;> simp -implicitDefEqProofs only [vcx, tys, reduceIte, reduceCtorEq, Nat.reduceAdd, Nat.reduceLT, Nat.reduceEqDiff, Nat.reduceLeDiff, Nat.reduceSub, Nat.reduceMul, Int.reduceLE, Int.reduceNeg, Int.reduceLT, String.reduceBEq, splice, afill, Nat.reducePow, Nat.reduceBEq, eq_self, forall_exists_index, forall_apply_eq_imp_iff₂, exists_eq_left', ite_true, ite_false, if_true, if_false, ne_eq, forall_const, exists_eq_left, forall_eq, implies_true, id_eq, AV.weak, AV.weak.weakL, aun, isIface, e2, e3, e16, e17, e18, encI]
        refine .inr ⟨?k, sp, cap, ?h1, ?h2, hc, hsp⟩
        case h2 => exact rfl
        case h1 => exact List.getElem?_concat_length
      · have hkl : k < H.length := by
          rcases Nat.lt_or_ge k H.length with h | h
          · exact h
          · rw [List.getElem?_eq_none h] at hk; cases hk
        have hz : ∀ y, y ∈ ys.map encM → y.flat.length = 2 := fun y hy => flatM y ys hy
        have hw : ∀ y, y ∈ ys.map encM → y.weak = y := fun y hy => weakM y ys hy
        have hwm : (ys.map encM).map AV.weak = ys.map encM := by
          conv => rhs; rw [← List.map_id (ys.map encM)]
          exact List.map_congr_left fun x hx => hw x hx
        have hfl : (flats (ys.map encM) ++ sp).length = cap * 2 := by
          rw [List.length_append, flats_len _ hz, List.length_map, hsp, ← Nat.add_mul]; congr 1; omega
        have hk' : ∀ bx : BoxC, (H ++ [bx])[k]? = some ⟨flats (ys.map encM) ++ sp, true⟩ := fun bx => by rw [List.getElem?_append_left hkl]; exact hk
        refine call_l (bsearchM_ok f ys x (cmp · x) (fun y => hf y x)) (.cons (.inr ⟨k, 0, ys.length, cap, ⟨flats (ys.map encM) ++ sp, true⟩, ys.map encM, 2, hO, hk' _, by rw [hwm], ?_, hz, by rw [List.length_map], ?_⟩) (.cons (.inl rfl) (.cons (.inl rfl) .nil))) rfl ?_
        · show flats (ys.map encM) = ((flats (ys.map encM) ++ sp).drop 0).take (ys.length * 2)
          have := flats_take' hz (Nat.le_refl _) sp
          rw [List.length_map] at this
          rw [List.drop_zero, this, List.take_of_length_le (by rw [List.length_map]; exact Nat.le_refl _)]
        · show 0 + ys.length * 2 ≤ (flats (ys.map encM) ++ sp).length
          rw [hfl]; have := Nat.mul_le_mul_right 2 hc; omega
        simp -implicitDefEqProofs only [vcx, tys, reduceIte, reduceCtorEq, Nat.reduceAdd, Nat.reduceLT, Nat.reduceEqDiff, Nat.reduceLeDiff, Nat.reduceSub, Nat.reduceMul, Int.reduceLE, Int.reduceNeg, Int.reduceLT, String.reduceBEq, splice, afill, Nat.reducePow, Nat.reduceBEq, eq_self, forall_exists_index, forall_apply_eq_imp_iff₂, exists_eq_left', ite_true, ite_false, if_true, if_false, ne_eq, forall_const, exists_eq_left, forall_eq, implies_true, id_eq, AV.weak, AV.weak.weakL, aun, isIface, Try.results53, e2, e3, e16, e17, e18, hO, encI, encB, encM, set_concat]
        have hpl := bsPos_le ys fun y => cmp y x
        refine ⟨fun hit => ?_, fun miss => ?_⟩
        · obtain ⟨y, hy, hcy⟩ : ∃ y, ys[bsPos ys fun y => cmp y x]? = some y ∧ cmp y x = 0 := by
            simp only [bsHit, atB] at hit
            split at hit
            · rename_i y hy; exact ⟨y, hy, by simpa using hit⟩
            · cases hit
          have hpl2 : (bsPos ys fun y => cmp y x) < ys.length := by
            rcases Nat.lt_or_ge (bsPos ys fun y => cmp y x) ys.length with h | h
            · exact h
            · rw [List.getElem?_eq_none h] at hy; cases hy
          refine awp_gen [] mixed (by kernel_rfl) ?_
          have hms : mStep cmp both ys x = ys.set (bsPos ys fun y => cmp y x) (both y x) := by simp only [mStep, hy, if_pos hcy]
          rw [hms] at hh hln
          have hyz : (ys.map encM)[bsPos ys fun y => cmp y x]? = some (encM y) := by rw [List.getElem?_map, hy]; rfl
          have hrd : ∀ q, q = 0 → List.take 2 (List.drop (q + (bsPos ys fun y => cmp y x) * 2) (flats (ys.map encM) ++ sp)) = (encM y).flat := fun q hq => by
            rw [hq, Nat.zero_add]; exact flats_get' hz hyz sp
          have hrd := hrd 0 rfl
          have hbnd : 0 + (bsPos ys fun y => cmp y x) * 2 + 2 ≤ (flats (ys.map encM) ++ sp).length := by
            rw [hfl]; have := Nat.mul_le_mul_right 2 (show (bsPos ys fun y => cmp y x) + 1 ≤ cap by omega); omega
          simp -implicitDefEqProofs only [vcx, tys, reduceIte, reduceCtorEq, Nat.reduceAdd, Nat.reduceLT, Nat.reduceEqDiff, Nat.reduceLeDiff, Nat.reduceSub, Nat.reduceMul, Int.reduceLE, Int.reduceNeg, Int.reduceLT, String.reduceBEq, splice, afill, Nat.reducePow, Nat.reduceBEq, eq_self, forall_exists_index, forall_apply_eq_imp_iff₂, exists_eq_left', ite_true, ite_false, if_true, if_false, ne_eq, forall_const, exists_eq_left, forall_eq, implies_true, id_eq, AV.weak, AV.weak.weakL, aun, isIface, vcd, Try.results53, e2, e3, e16, e17, e18, hO, encI, set_concat, hk', hrd, Int.toNat_natCast]
          refine ⟨by omega, by omega, hbnd, dcall_p (hg y x) rfl ?_⟩
          simp -implicitDefEqProofs only [vcx, tys, reduceIte, reduceCtorEq, Nat.reduceAdd, Nat.reduceLT, Nat.reduceEqDiff, Nat.reduceLeDiff, Nat.reduceSub, Nat.reduceMul, Int.reduceLE, Int.reduceNeg, Int.reduceLT, String.reduceBEq, splice, afill, Nat.reducePow, Nat.reduceBEq, eq_self, forall_exists_index, forall_apply_eq_imp_iff₂, exists_eq_left', ite_true, ite_false, if_true, if_false, ne_eq, forall_const, exists_eq_left, forall_eq, implies_true, id_eq, AV.weak, AV.weak.weakL, aun, isIface, vcd, Try.results53, e2, e3, e16, e17, e18, hO, encI, set_concat, hk', hrd, w1, Int.toNat_natCast]
          refine ⟨by omega, by omega, rfl, rfl, hbnd, m - 1, by omega, i + 1, _, _, by omega, by omega, hh, _, rfl, ?_, ?_, ?_, ?_, ?_, ?_⟩ <;> simp -implicitDefEqProofs only [vcx, tys, reduceIte, reduceCtorEq, Nat.reduceAdd, Nat.reduceLT, Nat.reduceEqDiff, Nat.reduceLeDiff, Nat.reduceSub, Nat.reduceMul, Int.reduceLE, Int.reduceNeg, Int.reduceLT, String.reduceBEq, splice, afill, Nat.reducePow, Nat.reduceBEq, eq_self, forall_exists_index, forall_apply_eq_imp_iff₂, exists_eq_left', ite_true, ite_false, if_true, if_false, ne_eq, forall_const, exists_eq_left, forall_eq, implies_true, id_eq, AV.weak, AV.weak.weakL, aun, isIface, e2, e3, e16, e17, e18, encI]
          rw [flats_set' hz (by rw [List.length_map]; exact hpl2) (encM (both y x)) rfl sp _ _ (by omega) (by omega), ← List.map_set]
          refine .inr ⟨k, sp, cap, ?_, ?_, ?_, ?_⟩
          · rw [List.getElem?_set_self (by simp; omega)]
          · rw [List.length_set]; exact hO
          · rw [List.length_set]; exact hc
          · rw [List.length_set]; exact hsp
        · have hms : mStep cmp both ys x = insAt ys (bsPos ys fun y => cmp y x) x := by
            simp only [bsHit, atB] at miss
            simp only [mStep]
            split
            · rename_i y hy
              rw [hy] at miss
              rw [if_neg (by simpa using miss)]
            · rfl
          rw [hms] at hh hln
          have hil := insAt_length (x := x) hpl
          have hcw : (flats (ys.map encM) ++ sp).map AV.weak = flats (ys.map encM) ++ sp.map AV.weak := by rw [List.map_append, weak_id_flats hw]
          refine call_m [k] (insM_mut (ys.map encM) (encM x) (sp.map AV.weak) cap (bsPos ys fun y => cmp y x) hz rfl hw rfl (by rw [List.length_map]; exact hpl) (by rw [List.length_map]; exact hc) (by rw [List.length_map, List.length_map]; exact hsp) (by rw [List.length_map]; simp only [maxN]; omega))
            (by simp) (.cons ⟨_, hk' _, rfl, hcw.symm⟩ .nil) (.cons (.inl (by simp [AV.ren, ixOf, hO])) (.cons (.inr rfl) (.cons (.inr rfl) .nil))) fun H' r hR _ => ?_
          obtain ⟨k', hk1, sp', cap', hk2, rfl, hc', hsp'⟩ := hR
          rw [map_insAt, List.length_map] at hc' hsp'
          rw [map_insAt] at hk2
          rcases hk1 with ⟨rfl, hl1⟩ | ⟨rfl, hl1⟩
          · obtain ⟨c0, rfl⟩ : ∃ c0, H' = [c0] := by
              match H', hl1 with
              | [c0], _ => exact ⟨c0, rfl⟩
            simp only [List.getElem?_cons_zero, Option.some.injEq] at hk2
            subst hk2
            simp -implicitDefEqProofs only [vcx, tys, reduceIte, reduceCtorEq, Nat.reduceAdd, Nat.reduceLT, Nat.reduceEqDiff, Nat.reduceLeDiff, Nat.reduceSub, Nat.reduceMul, Int.reduceLE, Int.reduceNeg, Int.reduceLT, String.reduceBEq, splice, afill, Nat.reducePow, Nat.reduceBEq, eq_self, forall_exists_index, forall_apply_eq_imp_iff₂, exists_eq_left', ite_true, ite_false, if_true, if_false, ne_eq, forall_const, exists_eq_left, forall_eq, implies_true, id_eq, AV.weak, AV.weak.weakL, aun, isIface, Try.results53, e2, e3, e16, e17, e18, w1, encI]
            refine ⟨m - 1, by omega, i + 1, _, _, by omega, by omega, hh, _, rfl, ?_, ?_, ?_, ?_, ?_, ?_⟩ <;> simp -implicitDefEqProofs only [vcx, tys, reduceIte, reduceCtorEq, Nat.reduceAdd, Nat.reduceLT, Nat.reduceEqDiff, Nat.reduceLeDiff, Nat.reduceSub, Nat.reduceMul, Int.reduceLE, Int.reduceNeg, Int.reduceLT, String.reduceBEq, splice, afill, Nat.reducePow, Nat.reduceBEq, eq_self, forall_exists_index, forall_apply_eq_imp_iff₂, exists_eq_left', ite_true, ite_false, if_true, if_false, ne_eq, forall_const, exists_eq_left, forall_eq, implies_true, id_eq, AV.weak, AV.weak.weakL, aun, isIface, e2, e3, e16, e17, e18, encI]
            refine .inr ⟨k, sp', cap', ?_, ?_, hc', hsp'⟩
            · simp only [setMany]
              rw [List.getElem?_set_self (by simp; omega)]
            · simp [map_insAt, AV.ren, backOf]
          · obtain ⟨c0, c1, rfl⟩ : ∃ c0 c1, H' = [c0, c1] := by
              match H', hl1 with
              | [c0, c1], _ => exact ⟨c0, c1, rfl⟩
            simp only [List.getElem?_cons_succ, List.getElem?_cons_zero, Option.some.injEq] at hk2
            subst hk2
            simp -implicitDefEqProofs only [vcx, tys, reduceIte, reduceCtorEq, Nat.reduceAdd, Nat.reduceLT, Nat.reduceEqDiff, Nat.reduceLeDiff, Nat.reduceSub, Nat.reduceMul, Int.reduceLE, Int.reduceNeg, Int.reduceLT, String.reduceBEq, splice, afill, Nat.reducePow, Nat.reduceBEq, eq_self, forall_exists_index, forall_apply_eq_imp_iff₂, exists_eq_left', ite_true, ite_false, if_true, if_false, ne_eq, forall_const, exists_eq_left, forall_eq, implies_true, id_eq, AV.weak, AV.weak.weakL, aun, isIface, Try.results53, e2, e3, e16, e17, e18, w1, encI]
            refine ⟨m - 1, by omega, i + 1, _, _, by omega, by omega, hh, _, rfl, ?_, ?_, ?_, ?_, ?_, ?_⟩ <;> simp -implicitDefEqProofs only [vcx, tys, reduceIte, reduceCtorEq, Nat.reduceAdd, Nat.reduceLT, Nat.reduceEqDiff, Nat.reduceLeDiff, Nat.reduceSub, Nat.reduceMul, Int.reduceLE, Int.reduceNeg, Int.reduceLT, String.reduceBEq, splice, afill, Nat.reducePow, Nat.reduceBEq, eq_self, forall_exists_index, forall_apply_eq_imp_iff₂, exists_eq_left', ite_true, ite_false, if_true, if_false, ne_eq, forall_const, exists_eq_left, forall_eq, implies_true, id_eq, AV.weak, AV.weak.weakL, aun, isIface, e2, e3, e16, e17, e18, encI]
            refine .inr ⟨H.length + 1, sp', cap', ?_, ?_, hc', hsp'⟩
            · simp only [setMany]
              rw [List.getElem?_append_right (by simp)]
              simp
            · simp [map_insAt, AV.ren, backOf]
    · have hd : b.drop i = [] := List.drop_of_length_le (by omega)
      rw [hd] at hh
      have hh : mergeF cmp both a b = ys := hh
      rcases hO with ⟨rfl, hO⟩ | ⟨k, sp, cap, hk, hO, hc, hsp⟩
      · refine RetT.now ?_
        simp -implicitDefEqProofs only [vcx, tys, reduceIte, reduceCtorEq, Nat.reduceAdd, Nat.reduceLT, Nat.reduceEqDiff, Nat.reduceLeDiff, Nat.reduceSub, Nat.reduceMul, Int.reduceLE, Int.reduceNeg, Int.reduceLT, String.reduceBEq, splice, afill, Nat.reducePow, Nat.reduceBEq, eq_self, forall_exists_index, forall_apply_eq_imp_iff₂, exists_eq_left', ite_true, ite_false, if_true, if_false, ne_eq, forall_const, exists_eq_left, forall_eq, implies_true, id_eq, AV.weak, AV.weak.weakL, aun, isIface, Try.results53, hO, hh]
      · have hz : ∀ y, y ∈ ys.map encM → y.flat.length = 2 := fun y hy => flatM y ys hy
        have hwm : (ys.map encM).map AV.weak = ys.map encM := by
          conv => rhs; rw [← List.map_id (ys.map encM)]
          exact List.map_congr_left fun x hx => weakM x ys hx
        refine RetT.sl 8 (z := 2) (ys.map encM) (by simp -implicitDefEqProofs only [vcx, tys, reduceIte, reduceCtorEq, Nat.reduceAdd, Nat.reduceLT, Nat.reduceEqDiff, Nat.reduceLeDiff, Nat.reduceSub, Nat.reduceMul, Int.reduceLE, Int.reduceNeg, Int.reduceLT, String.reduceBEq, splice, afill, Nat.reducePow, Nat.reduceBEq, eq_self, forall_exists_index, forall_apply_eq_imp_iff₂, exists_eq_left', ite_true, ite_false, if_true, if_false, ne_eq, forall_const, exists_eq_left, forall_eq, implies_true, id_eq, AV.weak, AV.weak.weakL, aun, isIface, hO]; rfl) hk ?_ hz (by rw [List.length_map]) ?_ (RetT.now ?_)
        · have := flats_take' hz (Nat.le_refl _) sp
          rw [List.length_map] at this
          rw [List.drop_zero, this, List.take_of_length_le (by rw [List.length_map]; exact Nat.le_refl _)]
        · rw [List.length_append, flats_len _ hz, List.length_map]; omega
        · simp -implicitDefEqProofs only [vcx, tys, reduceIte, reduceCtorEq, Nat.reduceAdd, Nat.reduceLT, Nat.reduceEqDiff, Nat.reduceLeDiff, Nat.reduceSub, Nat.reduceMul, Int.reduceLE, Int.reduceNeg, Int.reduceLT, String.reduceBEq, splice, afill, Nat.reducePow, Nat.reduceBEq, eq_self, forall_exists_index, forall_apply_eq_imp_iff₂, exists_eq_left', ite_true, ite_false, if_true, if_false, ne_eq, forall_const, exists_eq_left, forall_eq, implies_true, id_eq, AV.weak, AV.weak.weakL, aun, isIface, Try.results53, hO, hh, hwm]
end Go.Proofs.Ytlcajocjiehplaa
