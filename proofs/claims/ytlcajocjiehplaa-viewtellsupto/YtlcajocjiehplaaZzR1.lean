/- ViewTells: the row. -/
import Derived.Test.YtlcajocjiehplaaZzOpen
import Derived.Test.YtlcajocjiehplaaZzV18
import Derived.Test.YtlcajocjiehplaaZzV19
import Derived.Test.YtlcajocjiehplaaZzW2
set_option linter.unusedVariables false
set_option linter.unusedSimpArgs false
set_option maxRecDepth 10000
namespace Go.Proofs.Ytlcajocjiehplaa
open Go Go.Abs Go.ChangeShapes Go.WideShapes Go.RowKit
theorem memT : FlatT Try.prog 53 2 encM okM where
  cells := by kernel_rfl
  pos := by decide
  dec := by
    intro H enc w base sp held n cs x h hb
    obtain ⟨xs, k, _, hx, hl, hxl, hf⟩ := DataW.trod_struct Try.underlying53 h
    have c53 : Try.prog.cellsOf 53 = 2 := by kernel_rfl
    have c3 : Try.prog.cellsOf 3 = 1 := by kernel_rfl
    have c38 : Try.prog.cellsOf 38 = 1 := by kernel_rfl
    rw [c53] at hl
    match cs, hl with
    | [v0, v1], _ =>
      have g0 := hf 0 _ rfl
      have g1 := hf 1 _ rfl
      simp [c3, c38] at g0 g1
      match xs, hxl with
      | [y0, y1], _ =>
        simp at g0 g1
        obtain ⟨a, ha, _, wa⟩ := DataW.trod_int Try.underlying3 g0
        obtain ⟨b, hb', _, wb⟩ := DataW.trod_int Try.underlying38 g1
        simp at ha hb'
        subst ha hb'
        have ra := lit_ok wa
        have rb := lit_ok wb
        have rb' := bounds_u64 wb
        refine ⟨⟨a, b⟩, rb', rfl, fun v hv => ?_⟩
        simp at hv
        rcases hv with rfl | rfl
        · exact ⟨ra, rfl⟩
        · exact ⟨rb, rfl⟩
theorem copT : FlatT Try.prog 57 3 encC okC where
  cells := by kernel_rfl
  pos := by decide
  dec := by
    intro H enc w base sp held n cs x h hb
    obtain ⟨xs, k, _, hx, hl, hxl, hf⟩ := DataW.trod_struct Try.underlying57 h
    have c57 : Try.prog.cellsOf 57 = 3 := by kernel_rfl
    have c9 : Try.prog.cellsOf 9 = 1 := by kernel_rfl
    have c38 : Try.prog.cellsOf 38 = 1 := by kernel_rfl
    rw [c57] at hl
    match cs, hl with
    | [v0, v1, v2], _ =>
      have g0 := hf 0 _ rfl
      have g1 := hf 1 _ rfl
      have g2 := hf 2 _ rfl
      simp [c9, c38] at g0 g1 g2
      match xs, hxl with
      | [y0, y1, y2], _ =>
        simp at g0 g1 g2
        obtain ⟨s, ha, hy0, _⟩ := DataW.trod_string Try.underlying9 g0
        obtain ⟨b, hb', _, wb⟩ := DataW.trod_int Try.underlying38 g1
        obtain ⟨c, hc', _, wc⟩ := DataW.trod_int Try.underlying38 g2
        simp at ha hb' hc'
        subst ha hb' hc'
        have rb := lit_ok wb
        have rb' := bounds_u64 wb
        have rc := lit_ok wc
        subst hx hy0
        simp [Rows.uptoBulk, Rows.uptoBulkAll] at hb
        refine ⟨⟨s, b, c⟩, rb', rfl, fun v hv => ?_⟩
        simp at hv
        rcases hv with rfl | rfl | rfl
        · refine ⟨?_, rfl⟩
          show s.size ≤ maxN
          have : s.size = s.data.size := rfl
          simp only [maxN]; simp only [big] at hb; omega
        · exact ⟨rb, rfl⟩
        · exact ⟨rc, rfl⟩
variable {H : Type} {enc : TypeId × Value → H} {w : World}
theorem open_view {b0 : Nat} {v : Value} {d : DataW H} {p : List MemPlace} (hval : Value.okWide Try.prog w .any b0 25 v) (h : DataW.Trod enc Try.prog w 0 (fun _ => true) true 25 v d p) (hb : Rows.uptoBulk d ≤ big) :
    ∃ x : View, (∀ m, m ∈ x.ms → okM m) ∧ (∀ c, c ∈ x.cs → okC c) ∧ Rep (gp (shad w)) v (encV x) ∧ x.ms.length ≤ big ∧ x.cs.length ≤ big := by
  simp only [Value.okWide, Try.underlying25] at hval
  obtain ⟨cs, rfl, hsz, hrow⟩ := hval
  have c25 : Try.prog.cellsOf 25 = 2 := by kernel_rfl
  have c22 : Try.prog.cellsOf 22 = 1 := by kernel_rfl
  have c23 : Try.prog.cellsOf 23 = 1 := by kernel_rfl
  have ct : Try.prog.cellTypes Try.prog.depth 25 = some [22, 23] := by kernel_rfl
  obtain ⟨ts, e1, _, e3⟩ := hrow
  rw [ct] at e1
  cases e1
  rw [c25] at hsz
  obtain ⟨n, hn⟩ := h
  obtain ⟨l⟩ := cs
  match l, hsz with
  | [v0, v1], _ =>
    obtain ⟨u0, f0, g0⟩ := e3 0 v0 rfl
    obtain ⟨u1, f1, g1⟩ := e3 1 v1 rfl
    simp at f0 f1
    subst f0 f1
    obtain ⟨xs, k, _, hx, hl, hxl, hf⟩ := DataW.trod_struct Try.underlying25 hn
    have q0 := hf 0 _ rfl
    have q1 := hf 1 _ rfl
    simp [c22, c23, Value.cells] at q0 q1
    match xs, hxl with
    | [y0, y1], _ =>
      simp at q0 q1
      simp at hx
      obtain ⟨rfl, rfl⟩ := hx
      simp [Rows.uptoBulk, Rows.uptoBulkAll] at hb
      obtain ⟨ms, m1, m2, m3, m4⟩ := open_sl memT Try.underlying22 q0 (by omega) (spot_of Try.underlying22 g0)
      obtain ⟨cps, n1, n2, n3, n4⟩ := open_sl copT Try.underlying23 q1 (by omega) (spot_of Try.underlying23 g1)
      refine ⟨⟨ms, cps⟩, m1, n1, ?_, Nat.le_trans m3 (by omega), Nat.le_trans n3 (by omega)⟩
      refine .agg #[v0, v1] _ rfl (fun j => ?_) (fun v hv => ?_)
      · match j with
        | 0 => exact m2
        | 1 => exact n2
        | j + 2 => exact .undef
      · simp at hv
        rcases hv with rfl | rfl
        · exact m4
        · exact n4
theorem laid : laidOutB Try.prog = true := by kernel_rfl
theorem own : ownKnob Try.prog.godebug = none := by kernel_rfl
theorem tells (a b : View) (p n : Int) (key : ByteArray) (h1 : ∀ m, m ∈ a.ms → okM m) (h2 : ∀ c, c ∈ a.cs → okC c) (h3 : a.ms.length ≤ big) (h4 : a.cs.length ≤ big) (h5 : b.ms.length ≤ big) (h6 : b.cs.length ≤ big) :
    Abs.Pure Try.prog 3 [encV a, encV b, encI p, encI n, encS key] (encB true) := by
  simp only [big] at h3 h4 h5 h6
  exact tells_ok a b p n key known_ok (by omega) (by omega) (by omega) (by omega) is_law (fun g _ => join_law g) (fun g t => turn_law g t h1 p) (fun g => of_law g key) (fun g t => set_law g t h2 key n)
theorem contract (enc : TypeId × Value → H) (W : World) (base : Nat) (args : Array Value) (ds gs : List (DataW H)) (before : List MemPlace)
    (hval : ∀ (j : Nat) t v, Try.f3.params[j]? = some t → args[j]? = some v → Value.okWide Try.prog W .any base t v)
    (hW : DataW.Whole enc Try.prog Try.f3.params.toList Rows.viewTellsSpec.vars false W args.toList ds gs before) (hk : Rows.uptoSmall H (ds ++ gs) = true) :
    Calls Try.prog 3 args W fun e W' => ∃ v, e = .returned v ∧ Rows.viewTellsSpec.post enc Try.prog Try.f3 false true false false W args v W' := by
  have hW' := hW
  obtain ⟨p, q, hA0, hV, rfl, hfz, hnd⟩ := hW
  have hA : DataW.TrodAll enc Try.prog W 0 (fun _ => true) true Try.f3.params.toList args.toList ds p := hA0
  have hbulk : Rows.uptoBulkAll (ds ++ gs) ≤ 1048576 := of_decide_eq_true hk
  obtain ⟨rfl, rfl⟩ := trodVars_none hV
  rw [List.append_nil] at hbulk
  rw [Try.params3] at hA hval
  obtain ⟨v0, vs0, d0, ds0, p0, q0, hargs, rfl, rfl, t0, r0⟩ := trodAll_cons hA
  obtain ⟨v1, vs1, d1, ds1, p1, q1, rfl, rfl, rfl, t1, r1⟩ := trodAll_cons r0
  obtain ⟨v2, vs2, d2, ds2, p2, q2, rfl, rfl, rfl, t2, r2⟩ := trodAll_cons r1
  obtain ⟨v3, vs3, d3, ds3, p3, q3, rfl, rfl, rfl, t3, r3⟩ := trodAll_cons r2
  obtain ⟨v4, vs4, d4, ds4, p4, q4, rfl, rfl, rfl, t4, r4⟩ := trodAll_cons r3
  obtain ⟨rfl, rfl, rfl⟩ := trodAll_nil r4
  obtain rfl : args = #[v0, v1, v2, v3, v4] := by cases args; simp_all
  simp only [Rows.uptoBulkAll] at hbulk
  obtain ⟨a, a1, a2, a3, a4, a5⟩ := open_view (hval 0 25 v0 rfl rfl) t0 (by simp only [big]; omega)
  obtain ⟨b, b1, b2, b3, b4, b5⟩ := open_view (hval 1 25 v1 rfl rfl) t1 (by simp only [big]; omega)
  obtain ⟨x2, rfl, rfl, rfl, w2⟩ := open_int Try.underlying3 (hval 2 3 v2 rfl rfl) t2
  obtain ⟨x3, rfl, rfl, rfl, w3⟩ := open_int Try.underlying3 (hval 3 3 v3 rfl rfl) t3
  obtain ⟨s, rfl, rfl, rfl, w4⟩ := _root_.Go.ChangeMaps.open_string Try.underlying9 (hval 4 9 v4 rfl rfl) t4
  simp only [Rows.uptoBulk] at hbulk
  have hs : s.size ≤ maxN := by
    have : s.size = s.data.toList.length := by simp
    simp only [maxN]; omega
  have hr := (tells a b x2 x3 s a1 a2 a4 a5 b4 b5).2 0 (shad W) W [v0, v1, .int .i64 x2, .int .i64 x3, .string s] (shad_holds W) ⟨rfl, fun j => ?_⟩
  · refine (callsIn_wide.1 hr).mono fun e W' ⟨v, S', he, hst, hrep⟩ => ?_
    obtain ⟨rfl, _⟩ := hrep.lit_eq
    exact ⟨_, he, post_true laid hW' rfl Try.underlying4 rfl rfl (by
      intro t ht
      have hp : Try.f3.params.toList = [25, 25, 3, 3, 9] := rfl
      rw [hp] at ht
      simp at ht
      rcases ht with rfl | rfl | rfl <;> exact ⟨by kernel_rfl, of_decide_eq_true (by kernel_rfl)⟩) hst⟩
  · match j with
    | 0 => exact a3
    | 1 => exact b3
    | 2 => exact .lit (lit_ok w2)
    | 3 => exact .lit (lit_ok w3)
    | 4 => exact .lit hs
    | j + 5 => exact .undef
set_option maxRecDepth 100000 in
theorem lifted (os : Os) (started : os.Started) (H : Type) (enc : TypeId × Value → H) (F : Stop.Interp) :
    ReturnsInHanded {} Try.checked os 3 .any ((Rows.OpenSpec.upto Rows.viewTellsSpec).pre6 enc Try.prog Try.f3 Rows.viewTellsUptoRow.domain false) (((Rows.OpenSpec.upto Rows.viewTellsSpec).at F).post enc Try.prog Try.f3 false true false false) := by
  refine returnsInHanded_of_cond (C := Try.checked) (s := Rows.OpenSpec.upto Rows.viewTellsSpec) (k := Rows.uptoSmall) rfl own started (by kernel_rfl) Try.func3
    (OpenSpec.witness (enc := enc) (C := Try.checked) (s := Rows.OpenSpec.upto Rows.viewTellsSpec) (k := Rows.uptoSmall) rfl false ⟨#[], #[.agg #[.slice none 0 0, .slice none 0 0], .agg #[.slice none 0 0, .slice none 0 0], .int .i64 0, .int .i64 0, .string ⟨#[]⟩], []⟩ 8 (by kernel_rfl) (by kernel_rfl) (by kernel_rfl)
      (x := ([.agg [.nil, .nil], .agg [.nil, .nil], .lit (.int .i64 0), .lit (.int .i64 0), .lit (.string [])], [], [])) (by kernel_rfl) rfl (by kernel_rfl)) ?_
  intro W base args ds gs before hval hW _ hk _
  exact contract enc W base args ds gs before hval hW hk
theorem viewTells_over : Rows.viewTellsUptoRow.holds Try.pinned (Rows.OpenSpec.upto Rows.viewTellsSpec) :=
  OpenClaim.holds_of_cond 3 Try.f3 rfl rfl rfl rfl rfl rfl rfl ⟨rfl, rfl, rfl, rfl, rfl⟩ rfl rfl rfl rfl rfl (by kernel_rfl) Try.func3 (by kernel_rfl)
    (of_decide_eq_true (by kernel_rfl)) (by unfold Func.isWrapper; first | (rw [if_pos (by decide +kernel)]; kernel_rfl) | (rw [if_neg (by decide +kernel)]; exact ⟨rfl, rfl⟩))
    (fun os started H enc _ F => lifted os started H enc F)
theorem viewTells_holds : Rows.ViewTellsUptoSaid := viewTells_over
end Go.Proofs.Ytlcajocjiehplaa
