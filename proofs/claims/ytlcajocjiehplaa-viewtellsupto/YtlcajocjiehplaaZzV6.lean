/- slices.Clone, as a slice of one's own. -/
import Derived.Test.YtlcajocjiehplaaZzV5
set_option linter.unusedVariables false
set_option linter.unusedSimpArgs false
set_option maxRecDepth 10000
namespace Go.Proofs.Ytlcajocjiehplaa
open Go Go.Abs
/-- What a function hands back: a slice of the caller's own, over the variable k; or an empty one. -/
def OwnR (z k : Nat) (xs : List AV) (H' : List (List AV)) (r : AV) : Prop :=
  (xs = [] ∧ r = .sl .full []) ∨ ∃ sp cap, H'[k]? = some (flats xs ++ sp) ∧ r = .bsl k 0 xs.length cap ∧ xs.length ≤ cap ∧ sp.length = (cap - xs.length) * z
theorem cloneC_mut (l : List Cop) (hb : l.length * 32 ≤ maxN) : Mut Try.prog 58 [] [.sl .no (l.map encC)] fun H' r => (l = [] ∧ H' = [] ∧ r = .sl .full []) ∨ (H'.length = 1 ∧ OwnR 3 0 (l.map encC) H' r) := by
  refine Mut.intro Try.func58 rfl rfl fun S0 w0 bs => vc_sound _ ?_
  rcases l with _ | ⟨c, l⟩
  · simp -implicitDefEqProofs only [vcx, tys, reduceIte, reduceCtorEq, Nat.reduceAdd, Nat.reduceLT, Nat.reduceEqDiff, Nat.reduceLeDiff, Nat.reduceSub, Nat.reduceMul, Int.reduceLE, Int.reduceNeg, Int.reduceLT, String.reduceBEq, splice, afill, Nat.reducePow, Nat.reduceBEq, eq_self, forall_exists_index, forall_apply_eq_imp_iff₂, exists_eq_left', ite_true, ite_false, if_true, if_false, ne_eq, forall_const, exists_eq_left, forall_eq, implies_true, id_eq, AV.weak, AV.weak.weakL, aun, isIface, Try.results58, Try.ntmps58]
    intro b
    refine ⟨fun h => ?_, fun h => ?_⟩
    · exact ⟨_, [], [], rfl, List.nodup_nil, by simp, .nil, .inl ⟨rfl, rfl⟩⟩
    · exact ⟨by simp, Nat.zero_le _, by simp, Nat.zero_le _, Nat.zero_le _, _, [0], [[]], rfl, by simp, by simp, .cons ⟨_, rfl, rfl, rfl⟩ .nil, .inr ⟨rfl, .inr ⟨[], 0, rfl, rfl, Nat.le_refl _, rfl⟩⟩⟩
  · simp -implicitDefEqProofs only [vcx, tys, reduceIte, reduceCtorEq, Nat.reduceAdd, Nat.reduceLT, Nat.reduceEqDiff, Nat.reduceLeDiff, Nat.reduceSub, Nat.reduceMul, Int.reduceLE, Int.reduceNeg, Int.reduceLT, String.reduceBEq, splice, afill, Nat.reducePow, Nat.reduceBEq, eq_self, forall_exists_index, forall_apply_eq_imp_iff₂, exists_eq_left', ite_true, ite_false, if_true, if_false, ne_eq, forall_const, exists_eq_left, forall_eq, implies_true, id_eq, AV.weak, AV.weak.weakL, aun, isIface, Try.results58, Try.ntmps58]
    simp only [List.length_cons] at hb
    have hz : ∀ x, x ∈ encC c :: List.map encC l → x.flat.length = 3 := fun x hx => by
      rcases List.mem_cons.1 hx with rfl | hx
      · rfl
      · obtain ⟨y, _, rfl⟩ := List.mem_map.1 hx; rfl
    refine ⟨by simp, Nat.zero_le _, hz, by simp only [maxN] at hb ⊢; omega, by simp only [maxN] at hb ⊢; omega, fun _ i off cap he hc => by cases he; omega, fun _ _ cap' k hc hk => ?_⟩
    refine ⟨_, [1], [(flats (encC c :: List.map encC l) ++ List.replicate k AV.undef).map AV.weak], rfl, by simp, by simp, .cons ⟨_, rfl, rfl, rfl⟩ .nil, .inr ⟨rfl, .inr ⟨List.replicate k AV.undef, cap', ?_, ?_, ?_, ?_⟩⟩⟩
    · have hw : ∀ m : List Cop, (flats (m.map encC)).map AV.weak = flats (m.map encC) := fun m => by
        rw [← weak_flats, List.map_map]; congr 1
      have := hw (c :: l)
      simp only [List.map_cons] at this
      simp [this, AV.weak]
    · simp only [List.length_cons, List.length_map, Nat.zero_add]; rfl
    · simpa using hc
    · simp [hk]
theorem cloneM_mut (l : List Mem) (hb : l.length * 16 ≤ maxN) : Mut Try.prog 60 [] [.sl .no (l.map encM)] fun H' r => (l = [] ∧ H' = [] ∧ r = .sl .full []) ∨ (H'.length = 1 ∧ OwnR 2 0 (l.map encM) H' r) := by
  refine Mut.intro Try.func60 rfl rfl fun S0 w0 bs => vc_sound _ ?_
  rcases l with _ | ⟨c, l⟩
  · simp -implicitDefEqProofs only [vcx, tys, reduceIte, reduceCtorEq, Nat.reduceAdd, Nat.reduceLT, Nat.reduceEqDiff, Nat.reduceLeDiff, Nat.reduceSub, Nat.reduceMul, Int.reduceLE, Int.reduceNeg, Int.reduceLT, String.reduceBEq, splice, afill, Nat.reducePow, Nat.reduceBEq, eq_self, forall_exists_index, forall_apply_eq_imp_iff₂, exists_eq_left', ite_true, ite_false, if_true, if_false, ne_eq, forall_const, exists_eq_left, forall_eq, implies_true, id_eq, AV.weak, AV.weak.weakL, aun, isIface, Try.results60, Try.ntmps60]
    intro b
    refine ⟨fun h => ?_, fun h => ?_⟩
    · exact ⟨_, [], [], rfl, List.nodup_nil, by simp, .nil, .inl ⟨rfl, rfl⟩⟩
    · exact ⟨by simp, Nat.zero_le _, by simp, Nat.zero_le _, Nat.zero_le _, _, [0], [[]], rfl, by simp, by simp, .cons ⟨_, rfl, rfl, rfl⟩ .nil, .inr ⟨rfl, .inr ⟨[], 0, rfl, rfl, Nat.le_refl _, rfl⟩⟩⟩
  · simp -implicitDefEqProofs only [vcx, tys, reduceIte, reduceCtorEq, Nat.reduceAdd, Nat.reduceLT, Nat.reduceEqDiff, Nat.reduceLeDiff, Nat.reduceSub, Nat.reduceMul, Int.reduceLE, Int.reduceNeg, Int.reduceLT, String.reduceBEq, splice, afill, Nat.reducePow, Nat.reduceBEq, eq_self, forall_exists_index, forall_apply_eq_imp_iff₂, exists_eq_left', ite_true, ite_false, if_true, if_false, ne_eq, forall_const, exists_eq_left, forall_eq, implies_true, id_eq, AV.weak, AV.weak.weakL, aun, isIface, Try.results60, Try.ntmps60]
    simp only [List.length_cons] at hb
    have hz : ∀ x, x ∈ encM c :: List.map encM l → x.flat.length = 2 := fun x hx => by
      rcases List.mem_cons.1 hx with rfl | hx
      · rfl
      · obtain ⟨y, _, rfl⟩ := List.mem_map.1 hx; rfl
    refine ⟨by simp, Nat.zero_le _, hz, by simp only [maxN] at hb ⊢; omega, by simp only [maxN] at hb ⊢; omega, fun _ i off cap he hc => by cases he; omega, fun _ _ cap' k hc hk => ?_⟩
    refine ⟨_, [1], [(flats (encM c :: List.map encM l) ++ List.replicate k AV.undef).map AV.weak], rfl, by simp, by simp, .cons ⟨_, rfl, rfl, rfl⟩ .nil, .inr ⟨rfl, .inr ⟨List.replicate k AV.undef, cap', ?_, ?_, ?_, ?_⟩⟩⟩
    · have hw : ∀ m : List Mem, (flats (m.map encM)).map AV.weak = flats (m.map encM) := fun m => by
        rw [← weak_flats, List.map_map]; congr 1
      have := hw (c :: l)
      simp only [List.map_cons] at this
      simp [this, AV.weak]
    · simp only [List.length_cons, List.length_map, Nat.zero_add]; rfl
    · simpa using hc
    · simp [hk]
end Go.Proofs.Ytlcajocjiehplaa
