/- Package fifo at large: a queue's write and read; bad, closes. -/
import Derived.Test.YtpojophpbggkcaaGf2
import Derived.RangeFuncOwn
namespace Go.Proofs.Ytpojophpbggkcaa
open Go.ChangeShapes Go.WideShapes Go.ChangeAt Go.RowKit
set_option linter.unusedVariables false

set_option maxRecDepth 100000 in
theorem gbad_no (a s : Nat) (h1 : a < 2) (h2 : s < 256) (w : World) : Calls Try.prog 31 #[.int .i64 (a : Int), .int .i64 (s : Int)] w fun e w' => e = .returned (.bool false) ∧ w = w' := by
  have d1 : decide ((a : Int) < 0) = false := by rw [decide_eq_false_iff_not]; omega
  have d2 : decide ((1 : Int) < (a : Int)) = false := by rw [decide_eq_false_iff_not]; omega
  have d3 : decide ((s : Int) < 0) = false := by rw [decide_eq_false_iff_not]; omega
  have d4 : decide ((256 : Int) ≤ (s : Int)) = false := by rw [decide_eq_false_iff_not]; omega
  go_enter Try.func31, Try.ntmps31
  go_wp2
  go_ret
  exact ⟨ret_bool (by simp), rfl⟩
set_option maxRecDepth 100000 in
theorem gbad_yes (a s : Int) (h : a < 0 ∨ 1 < a ∨ s < 0 ∨ 255 < s) (w : World) : Calls Try.prog 31 #[.int .i64 a, .int .i64 s] w fun e w' => e = .returned (.bool true) ∧ w = w' := by
  have hd : (decide (a < 0) || decide (1 < a) || decide (s < 0) || decide (256 ≤ s)) = true := by simp; omega
  by_cases h1 : a < 0
  · go_enter Try.func31, Try.ntmps31
    go_wp2
    go_ret
    exact ⟨ret_bool (by first | rfl | (simp; omega)), rfl⟩
  · by_cases h2 : 1 < a
    · go_enter Try.func31, Try.ntmps31
      go_wp2
      go_ret
      exact ⟨ret_bool (by first | rfl | (simp; omega)), rfl⟩
    · by_cases h3 : s < 0
      · go_enter Try.func31, Try.ntmps31
        go_wp2
        go_ret
        exact ⟨ret_bool (by first | rfl | (simp; omega)), rfl⟩
      · have h4 : 256 ≤ s := by omega
        go_enter Try.func31, Try.ntmps31
        go_wp2
        go_ret
        exact ⟨ret_bool (by first | rfl | (simp; omega)), rfl⟩
def closesB (e : Int) : Bool := e == 0 || e == 11 || e == 12
set_option maxRecDepth 100000 in
theorem gcloses (e : Int) (w : World) : Calls Try.prog 32 #[.int .i64 e] w fun r w' => r = .returned (.bool (closesB e)) ∧ w = w' := by
  unfold closesB
  cases h0 : (e == 0) with
  | true =>
    go_enter Try.func32, Try.ntmps32
    go_wp2
    go_ret
    exact ⟨ret_bool (by first | rfl | simp_all), rfl⟩
  | false =>
    cases h1 : (e == 11) with
    | true =>
      go_enter Try.func32, Try.ntmps32
      go_wp2
      go_ret
      exact ⟨ret_bool (by first | rfl | simp_all), rfl⟩
    | false =>
      go_enter Try.func32, Try.ntmps32
      go_wp2
      go_ret
      exact ⟨ret_bool (by first | rfl | simp_all), rfl⟩
set_option maxRecDepth 100000 in
theorem gwrite_long (q : Nat) (s : ByteArray) (c : Bool) (K S N0 an : Int) (body ab : ByteArray) (er : Int) (h1 : an < 0 ∨ (body.size : Int) < an) (w : World) (h : Blk w q #[.string s, .bool c] 73) :
    Calls Try.prog 34 #[.pointer (some ⟨q, 0, none⟩), .agg #[.int .i64 K, .int .i64 S, .int .i64 N0, .string body], .agg #[.int .i64 an, .string ab, .int .i64 er]] w (QPost w q s c 3) := by
  have hlt := h.lt
  have H := Lib.hid h
  clear h
  by_cases h2 : an < 0
  · go_enter Try.func34, Try.ntmps34
    go_wp2
    go_ret
    exact ⟨rfl, (H.out.alloc _).alloc _, ((Kept.refl _ _).alloc _).alloc _⟩
  · have h3 : (body.size : Int) < an := by omega
    clear h1
    go_enter Try.func34, Try.ntmps34
    go_wp2
    go_ret
    exact ⟨rfl, (H.out.alloc _).alloc _, ((Kept.refl _ _).alloc _).alloc _⟩
set_option maxRecDepth 100000 in
theorem gwrite_zero (q : Nat) (s : ByteArray) (K S N0 : Int) (body ab : ByteArray) (er : Int) (hb : body.size ≤ 1000000) (hs : s.size ≤ 1000000) (w : World) (h : Blk w q #[.string s, .bool true] 73) :
    Calls Try.prog 34 #[.pointer (some ⟨q, 0, none⟩), .agg #[.int .i64 K, .int .i64 S, .int .i64 N0, .string body], .agg #[.int .i64 0, .string ab, .int .i64 er]] w (QPost w q (s ++ body.extract 0 0) true 0) := by
  have hlt := h.lt
  have x0 := h.cell 0
  have x1 := h.cell 1
  have f0 := h.free 0
  simp at x0 x1
  have d2 : decide ((body.size : Int) < 0) = false := by rw [decide_eq_false_iff_not]; omega
  have hi : (0 : Int) ≤ (body.size : Int) := by omega
  have hadd : ¬ 9223372036854775807 < s.size := by omega
  have H := Lib.hid h
  clear h
  have HT : Hid (s ++ body.extract 0 0 = s) := Lib.hid (by simp)
  go_enter Try.func34, Try.ntmps34
  go_wp2
  go_region
  go_wp2
  go_ret
  rw [HT.out]
  refine ⟨rfl, ?_, ?_⟩
  · exact (((H.out.set 0 (.string s)).alloc _).alloc _).drew
  · exact ((((Kept.refl _ _).set _ (.inl (by simp)) _).alloc _).alloc _).drew
/-- what a write says, and leaves -/
def wrK (v : ByteArray × Bool) (body : ByteArray) (an : Int) : Int := if an < 0 ∨ (body.size : Int) < an then 3 else if v.2 = true ∧ an ≠ 0 then 11 else 0
def wrS (v : ByteArray × Bool) (body : ByteArray) (an : Int) : ByteArray × Bool := if wrK v body an = 0 then (v.1 ++ body.extract 0 an.toNat, v.2) else v
theorem gwrite (q : Nat) (v : ByteArray × Bool) (K S N0 an : Int) (body ab : ByteArray) (er : Int) (hb : body.size ≤ 1000000) (hs : v.1.size ≤ 1000000) (w : World) (h : Blk w q #[.string v.1, .bool v.2] 73) :
    Calls Try.prog 34 #[.pointer (some ⟨q, 0, none⟩), .agg #[.int .i64 K, .int .i64 S, .int .i64 N0, .string body], .agg #[.int .i64 an, .string ab, .int .i64 er]] w (QPost w q (wrS v body an).1 (wrS v body an).2 (wrK v body an)) := by
  obtain ⟨s, c⟩ := v
  dsimp only at hs h
  by_cases h1 : an < 0 ∨ (body.size : Int) < an
  · have e : wrK (s, c) body an = 3 := by unfold wrK; rw [if_pos h1]
    have e2 : wrS (s, c) body an = (s, c) := by unfold wrS; rw [e, if_neg (by decide)]
    rw [e, e2]
    exact gwrite_long q s c K S N0 an body ab er h1 w h
  · obtain ⟨N, rfl⟩ : ∃ N : Nat, an = (N : Int) := ⟨an.toNat, by omega⟩
    cases c with
    | false =>
      have e : wrK (s, false) body N = 0 := by unfold wrK; rw [if_neg h1, if_neg (by simp)]
      have e2 : wrS (s, false) body N = (s ++ body.extract 0 N, false) := by unfold wrS; rw [e, if_pos rfl]; simp
      rw [e, e2]
      exact qwrite_ok q s K S N0 body ab N er (by omega) hb hs w h
    | true =>
      by_cases h0 : N = 0
      · subst h0
        have e : wrK (s, true) body ((0 : Nat) : Int) = 0 := by unfold wrK; rw [if_neg h1, if_neg (by simp)]
        have e2 : wrS (s, true) body ((0 : Nat) : Int) = (s ++ body.extract 0 0, true) := by unfold wrS; rw [e, if_pos rfl]; simp
        rw [e, e2]
        exact gwrite_zero q s K S N0 body ab er hb hs w h
      · have e : wrK (s, true) body N = 11 := by unfold wrK; rw [if_neg h1, if_pos ⟨rfl, by omega⟩]
        have e2 : wrS (s, true) body N = (s, true) := by unfold wrS; rw [e, if_neg (by decide)]
        rw [e, e2]
        exact qwrite_closed q s K S N0 body ab N er (by omega) h0 hb w h
/-- the end, told to a reader -/
def enK (v : ByteArray × Bool) (br : Bool) : Int := if v.1.size = 0 ∧ (v.2 || br) = true then 0 else 10
set_option maxRecDepth 100000 in
set_option maxHeartbeats 2000000 in
theorem geof (q : Nat) (v : ByteArray × Bool) (br : Bool) (K S n : Int) (cb body : ByteArray) (N : Int) (w : World) (h : Blk w q #[.string v.1, .bool v.2] 73) :
    Calls Try.prog 35 #[.pointer (some ⟨q, 0, none⟩), .agg #[.int .i64 K, .int .i64 S, .int .i64 n, .string cb], .agg #[.int .i64 N, .string body, .int .i64 13], .bool br] w (QPost w q v.1 v.2 (enK v br)) := by
  obtain ⟨s, c⟩ := v
  dsimp only at h ⊢
  have hlt := h.lt
  have x0 := h.cell 0
  have x1 := h.cell 1
  simp at x0 x1
  have H := Lib.hid h
  clear h
  by_cases hz : s.size = 0
  · obtain rfl := str_empty s hz
    cases c with
    | true =>
      go_enter Try.func35, Try.ntmps35
      go_wp2
      go_ret
      exact ⟨rfl, (H.out.alloc _).alloc _, ((Kept.refl _ _).alloc _).alloc _⟩
    | false =>
      cases br with
      | true =>
        go_enter Try.func35, Try.ntmps35
        go_wp2
        go_ret
        exact ⟨rfl, (H.out.alloc _).alloc _, ((Kept.refl _ _).alloc _).alloc _⟩
      | false =>
        go_enter Try.func35, Try.ntmps35
        go_wp2
        go_ret
        exact ⟨rfl, (H.out.alloc _).alloc _, ((Kept.refl _ _).alloc _).alloc _⟩
  · have hne := str_full s hz
    have e : enK (s, c) br = 10 := by unfold enK; rw [if_neg (fun h => hz h.1)]
    rw [e]
    go_enter Try.func35, Try.ntmps35
    go_wp2
    go_ret
    exact ⟨rfl, (H.out.alloc _).alloc _, ((Kept.refl _ _).alloc _).alloc _⟩
end Go.Proofs.Ytpojophpbggkcaa
