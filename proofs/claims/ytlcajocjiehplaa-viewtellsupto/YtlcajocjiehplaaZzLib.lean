/- Small facts for the walks. -/
import Derived.Test.YtlcajocjiehplaaZzSeq
set_option linter.unusedVariables false
set_option linter.unusedSimpArgs false
namespace Go.Abs
open Go Go.RowKit
theorem fl_agg (cs : List AV) : (AV.agg cs).flat = cs := rfl
theorem fl_lit (v : Value) : (AV.lit v).flat = [.lit v] := rfl
theorem fl_sl (o : Own) (xs : List AV) : (AV.sl o xs).flat = [.sl o xs] := rfl
theorem fl_undef : AV.undef.flat = [.undef] := rfl
theorem fl_cptr (cs : List AV) : (AV.cptr cs).flat = [.cptr cs] := rfl
theorem fl_bptr (i off : Nat) : (AV.bptr i off).flat = [.bptr i off] := rfl
theorem fl_bsl (i off len cap : Nat) : (AV.bsl i off len cap).flat = [.bsl i off len cap] := rfl
theorem fl_clo (f : FuncId) (cs : List AV) : (AV.clo f cs).flat = [.clo f cs] := rfl
theorem fl_iface (t : TypeId) (a : AV) : (AV.iface t a).flat = [.iface t a] := rfl
theorem so_agg (cs : List AV) : storable (.agg cs) = true := rfl
theorem so_lit (v : Value) : storable (.lit v) = v.oneCell' := rfl
theorem so_sl (o : Own) (xs : List AV) : storable (.sl o xs) = true := rfl
theorem so_cptr (cs : List AV) : storable (.cptr cs) = true := rfl
theorem so_bptr (i off : Nat) : storable (.bptr i off) = true := rfl
theorem so_bsl (i off len cap : Nat) : storable (.bsl i off len cap) = true := rfl
theorem so_clo (f : FuncId) (cs : List AV) : storable (.clo f cs) = true := rfl
theorem so_iface (t : TypeId) (a : AV) : storable (.iface t a) = true := rfl
theorem cav_s0 : cav (.string ⟨#[]⟩) = .lit (.string ⟨#[]⟩) := rfl
theorem cav_s1 (a : UInt8) : cav (.string ⟨#[a]⟩) = .lit (.string ⟨#[a]⟩) := rfl
theorem cav_s2 (a b : UInt8) : cav (.string ⟨#[a, b]⟩) = .lit (.string ⟨#[a, b]⟩) := rfl
theorem cav_s3 (a b c : UInt8) : cav (.string ⟨#[a, b, c]⟩) = .lit (.string ⟨#[a, b, c]⟩) := rfl
theorem cav_s4 (a b c d : UInt8) : cav (.string ⟨#[a, b, c, d]⟩) = .lit (.string ⟨#[a, b, c, d]⟩) := rfl
theorem cav_s5 (a b c d e : UInt8) : cav (.string ⟨#[a, b, c, d, e]⟩) = .lit (.string ⟨#[a, b, c, d, e]⟩) := rfl
theorem cav_s6 (a b c d e f : UInt8) : cav (.string ⟨#[a, b, c, d, e, f]⟩) = .lit (.string ⟨#[a, b, c, d, e, f]⟩) := rfl
theorem cav_s7 (a b c d e f g : UInt8) : cav (.string ⟨#[a, b, c, d, e, f, g]⟩) = .lit (.string ⟨#[a, b, c, d, e, f, g]⟩) := rfl
theorem cav_s8 (a b c d e f g h : UInt8) : cav (.string ⟨#[a, b, c, d, e, f, g, h]⟩) = .lit (.string ⟨#[a, b, c, d, e, f, g, h]⟩) := rfl
section
variable (e : Nat → AV) (n : Nat) (H : List BoxC) (L : List Bool) (tr : List (List AV)) (st : Bool) (σ : Sta)
theorem zf_nil : freezeAll σ [] = σ := rfl
theorem zf_b (i off : Nat) (l : List AV) : freezeAll (Sta.mk e n H L tr st) (.bptr i off :: l) = match H[i]? with
    | some bc => freezeAll (Sta.mk e n (H.set i ⟨bc.cells.map AV.weak, false⟩) L tr st) l
    | none => freezeAll (Sta.mk e n H L tr st) l := rfl
theorem zf_sl (o : Own) (xs l : List AV) : freezeAll σ (.sl o xs :: l) = freezeAll σ l := rfl
theorem zf_lit (v : Value) (l : List AV) : freezeAll σ (.lit v :: l) = freezeAll σ l := rfl
theorem zf_cptr (cs l : List AV) : freezeAll σ (.cptr cs :: l) = freezeAll σ l := rfl
theorem zf_clo (f : FuncId) (cs l : List AV) : freezeAll σ (.clo f cs :: l) = freezeAll σ l := rfl
theorem zf_agg (cs l : List AV) : freezeAll σ (.agg cs :: l) = freezeAll σ l := rfl
theorem zk_b (i off : Nat) : capt (Sta.mk e n H L tr st) (.bptr i off) = match H[i]? with
    | some ⟨cells, false⟩ => .cptr (cells.drop off)
    | _ => .bptr i off := rfl
theorem zk_sl (o : Own) (xs : List AV) : capt σ (.sl o xs) = .sl o xs := rfl
theorem zk_lit (v : Value) : capt σ (.lit v) = .lit v := rfl
theorem zk_cptr (cs : List AV) : capt σ (.cptr cs) = .cptr cs := rfl
theorem zk_clo (f : FuncId) (cs : List AV) : capt σ (.clo f cs) = .clo f cs := rfl
theorem zk_agg (cs : List AV) : capt σ (.agg cs) = .agg cs := rfl
end
theorem of_one (x : AV) : oneOf [x] = x := rfl
theorem of_nil : oneOf [] = .tup [] := rfl
theorem of_two (x y : AV) (l : List AV) : oneOf (x :: y :: l) = .tup (x :: y :: l) := rfl
theorem drop_at {α : Type} {l : List α} {i : Nat} {a : α} (h : l[((i : Int)).toNat]? = some a) : l.drop i = a :: l.drop (i + 1) := by
  rw [Int.toNat_natCast] at h
  have hi : i < l.length := by
    rcases Nat.lt_or_ge i l.length with h' | h'
    · exact h'
    · rw [List.getElem?_eq_none h'] at h; cases h
  rw [List.drop_eq_getElem_cons hi]
  rw [List.getElem?_eq_getElem hi] at h
  cases h; rfl
theorem wrap_i64 {n : Int} (h1 : -9223372036854775808 ≤ n) (h2 : n ≤ 9223372036854775807) : IntKind.i64.wrap n = n :=
  wrap_id (by
    have e1 : IntKind.i64.min = -9223372036854775808 := by decide
    have e2 : IntKind.i64.max = 9223372036854775807 := by decide
    exact ⟨by rw [e1]; exact h1, by rw [e2]; exact h2⟩)
theorem wrap_u64 {n : Int} (h1 : 0 ≤ n) (h2 : n ≤ 18446744073709551615) : IntKind.u64.wrap n = n :=
  wrap_id (by
    have e1 : IntKind.u64.min = 0 := by decide
    have e2 : IntKind.u64.max = 18446744073709551615 := by decide
    exact ⟨by rw [e1]; exact h1, by rw [e2]; exact h2⟩)
theorem set_concat {α : Type} (l : List α) (a b : α) : (l ++ [a]).set l.length b = l ++ [b] := by
  induction l with
  | nil => rfl
  | cons x l ih => simp [ih]
theorem own_full {L : List Bool} {z : Nat} : OwnLive L z .full := .inl rfl
theorem sta_eq {e : Nat → AV} {n : Nat} {H H' : List BoxC} {L : List Bool} {tr : List (List AV)} {st : Bool} (h : H = H') : Sta.mk e n H L tr st = Sta.mk e n H' L tr st := by rw [h]
theorem own_new {L : List Bool} {o : Option Nat} {z : Nat} : OwnLive (kill L o ++ [true]) z (.st L.length z) := .inr ⟨_, rfl, by rw [← kill_length L o]; simp⟩
def encI (n : Int) : AV := .lit (.int .i64 n)
def encU (n : Int) : AV := .lit (.int .u64 n)
def encB (b : Bool) : AV := .lit (.bool b)
def encS (s : ByteArray) : AV := .lit (.string s)
def cmpI (x y : Int) : Int := if x < y then -1 else if y < x then 1 else 0
theorem bytes_ext {a b : ByteArray} (h : a.toList = b.toList) : a = b := by
  rw [ByteArray.toList_eq, ByteArray.toList_eq] at h
  obtain ⟨⟨x⟩⟩ := a
  obtain ⟨⟨y⟩⟩ := b
  simp at h; rw [h]
theorem bytes_beq (a b : ByteArray) : (a.toList == b.toList) = decide (a = b) := by
  by_cases h : a = b
  · subst h; simp
  · have : ¬ a.toList = b.toList := fun e => h (bytes_ext e)
    simp [h, this]
end Go.Abs
