/- The walks of SerialReckons and SerialMoves: the law's text returns true at every input. -/
import Derived.Test.YteelpmmmehffaaaSerial
import Derived.Outline
namespace Go.Proofs.Yteelpmmmehffaaa
open Go.ChangeShapes Go.WideShapes Go.ChangeAt Go.RowKit
set_option linter.unusedVariables false

theorem awake_true (w : World) : Calls Try.prog 13 #[] w fun e w' => e = .returned (.bool true) ∧ w = w' := by
  have a1 : ahead 4294967295 1 = 2 := by decide
  have a2 : ahead 1 4294967295 = -2 := by decide
  have a3 : ahead 0 2147483648 = -2147483648 := by decide
  have l1 : lessB 4294967295 0 = true := by decide
  have l2 : lessB 0 0 = false := by decide
  have i1 : withinB 1 4294967295 3 = true := by decide
  have i2 : withinB 2 4294967295 3 = false := by decide
  have m1 : maxI 5 3 = 5 := by decide
  go_enter Try.func13, Try.ntmps13
  go_wp2_with (first | (go_at_call 5; refine (serialAhead _ _ (by omega) (by omega) (by omega) (by omega) _).mono ?_; rintro e w' ⟨rfl, rfl⟩) | (go_at_call 7; refine (serialLess _ _ (by omega) (by omega) (by omega) (by omega) _).mono ?_; rintro e w' ⟨rfl, rfl⟩)  | (go_at_call 9; refine (serialWithin _ _ _ (by omega) (by omega) (by omega) (by omega) _).mono ?_; rintro e w' ⟨rfl, rfl⟩) | (go_at_call 11; refine (serialMax _ _ (by omega) (by omega) (by omega) (by omega) _).mono ?_; rintro e w' ⟨rfl, rfl⟩))
  go_ret
  exact ⟨rfl, rfl⟩

theorem reckons_true (a b n : Int) (ha0 : 0 ≤ a) (ha1 : a < 4294967296) (hb0 : 0 ≤ b) (hb1 : b < 4294967296) (w : World) :
    Calls Try.prog 3 #[.int .u32 a, .int .u32 b, .int .i64 n] w fun e w' => e = .returned (.bool true) ∧ w = w' := by
  go_enter Try.func3, Try.ntmps3
  go_wp2_with (first | (go_at_call 5; refine (serialAhead a b ha0 ha1 hb0 hb1 _).mono ?_; rintro e w' ⟨rfl, rfl⟩) | (go_at_call 7; refine (serialLess a b ha0 ha1 hb0 hb1 _).mono ?_; rintro e w' ⟨rfl, rfl⟩) | (go_at_call 9; refine (serialWithin a b n ha0 ha1 hb0 hb1 _).mono ?_; rintro e w' ⟨rfl, rfl⟩) | (go_at_call 11; refine (serialMax a b ha0 ha1 hb0 hb1 _).mono ?_; rintro e w' ⟨rfl, rfl⟩)  | (go_at_call 6; refine (refAhead a b ha0 ha1 hb0 hb1 _).mono ?_; rintro e w' ⟨rfl, rfl⟩) | (go_at_call 8; refine (refLess a b ha0 ha1 hb0 hb1 _).mono ?_; rintro e w' ⟨rfl, rfl⟩) | (go_at_call 10; refine (refWithin a b n ha0 ha1 hb0 hb1 _).mono ?_; rintro e w' ⟨rfl, rfl⟩) | (go_at_call 12; refine (refMax a b ha0 ha1 hb0 hb1 _).mono ?_; rintro e w' ⟨rfl, rfl⟩)  | (go_at_call 13; refine (awake_true _).mono ?_; rintro e w' ⟨rfl, rfl⟩))
  go_ret
  exact ⟨rfl, rfl⟩

theorem ahead_add (a b : Int) (ha0 : 0 ≤ a) (ha1 : a < 4294967296) (hb0 : 0 ≤ b) (hb1 : b < 4294967296) : (a + ahead a b % 4294967296) % 4294967296 = b := by
  unfold ahead; omega
theorem ahead_shift (a b c : Int) : ahead ((a + c) % 4294967296) ((b + c) % 4294967296) = ahead a b := by unfold ahead; omega
theorem ahead_neg (a b : Int) (h : ¬ ahead a b = -2147483648) : ahead b a = - ahead a b := by revert h; unfold ahead; omega
theorem less_asym (a b : Int) (h : lessB a b = true) : lessB b a = false := by revert h; unfold lessB ahead; simp; omega

set_option maxHeartbeats 400000 in
theorem moves_true (a b c : Int) (ha0 : 0 ≤ a) (ha1 : a < 4294967296) (hb0 : 0 ≤ b) (hb1 : b < 4294967296) (hc0 : 0 ≤ c) (hc1 : c < 4294967296) (w : World) :
    Calls Try.prog 4 #[.int .u32 a, .int .u32 b, .int .u32 c] w fun e w' => e = .returned (.bool true) ∧ w = w' := by
  have hd := ahead_bd a b
  have h1 := ahead_add a b ha0 ha1 hb0 hb1
  have h2 := ahead_shift a b c
  have k1 : 0 ≤ (a + c) % 4294967296 := by omega
  have k2 : (a + c) % 4294967296 < 4294967296 := by omega
  have k3 : 0 ≤ (b + c) % 4294967296 := by omega
  have k4 : (b + c) % 4294967296 < 4294967296 := by omega
  have h3 : ¬ ahead a b = -2147483648 → ahead b a = - ahead a b := ahead_neg a b
  have h4 := less_asym a b
  by_cases c1 : ahead a b = -2147483648
  all_goals by_cases c2 : lessB a b = true
  all_goals try have h5 := h4 c2
  all_goals try have h6 := h3 c1
  all_goals try have c2 : lessB a b = false := by simpa using c2
  all_goals
    clear h3 h4
    go_enter Try.func4, Try.ntmps4
    go_wp2_with (first | (go_at_call 5; refine (serialAhead _ _ (by assumption) (by assumption) (by assumption) (by assumption) _).mono ?_; rintro e w' ⟨rfl, rfl⟩) | (go_at_call 7; refine (serialLess _ _ (by assumption) (by assumption) (by assumption) (by assumption) _).mono ?_; rintro e w' ⟨rfl, rfl⟩)  | (go_at_call 13; refine (awake_true _).mono ?_; rintro e w' ⟨rfl, rfl⟩))
    go_ret
    exact ⟨rfl, rfl⟩
end Go.Proofs.Yteelpmmmehffaaa
