/- Contracts of package serial and of its reference lightshipref08, and the plain function 'ahead' that both compute. -/
import Derived.Test.YtdggnhgflfaffaaMem
import Derived.WalkKit
import Derived.ProofKit
import Derived.OpenShut
import Derived.Lib.Hide
set_option maxRecDepth 20000
namespace Go.Proofs.Ytdggnhgflfaffaa
open Go.ChangeShapes Go.WideShapes Go.ChangeAt Go.RowKit
set_option linter.unusedVariables false

/-- how far b is ahead of a, going round at 2^32 -/
def ahead (a b : Int) : Int := (b - a + 2147483648) % 4294967296 - 2147483648
def lessB (a b : Int) : Bool := decide (0 < ahead a b)
def maxI (a b : Int) : Int := if lessB a b then b else a

theorem ahead_bd (a b : Int) : -2147483648 ≤ ahead a b ∧ ahead a b ≤ 2147483647 := by unfold ahead; omega
theorem maxI_bd {a b : Int} (ha0 : 0 ≤ a) (ha1 : a < 4294967296) (hb0 : 0 ≤ b) (hb1 : b < 4294967296) : 0 ≤ maxI a b ∧ maxI a b < 4294967296 := by unfold maxI; split <;> omega
theorem ahead_wrap (a b : Int) : wrap64 (wrap32 ((b - a) % 4294967296)) = ahead a b := by
  unfold ahead wrap64 wrap32; omega
theorem serialAhead (a b : Int) (ha0 : 0 ≤ a) (ha1 : a < 4294967296) (hb0 : 0 ≤ b) (hb1 : b < 4294967296) (w : World) :
    Calls Try.prog 48 #[.int .u32 a, .int .u32 b] w fun e w' => e = .returned (.int .i64 (ahead a b)) ∧ w = w' := by
  go_enter Try.func48, Try.ntmps48
  go_wp2
  go_ret
  exact ⟨ret_int (ahead_wrap a b), rfl⟩
theorem refAhead (a b : Int) (ha0 : 0 ≤ a) (ha1 : a < 4294967296) (hb0 : 0 ≤ b) (hb1 : b < 4294967296) (w : World) :
    Calls Try.prog 40 #[.int .u32 a, .int .u32 b] w fun e w' => e = .returned (.int .i64 (ahead a b)) ∧ w = w' := by
  go_enter Try.func40, Try.ntmps40
  go_wp2
  all_goals go_ret
  all_goals exact ⟨ret_int (by unfold ahead; omega), rfl⟩
theorem serialLess (a b : Int) (ha0 : 0 ≤ a) (ha1 : a < 4294967296) (hb0 : 0 ≤ b) (hb1 : b < 4294967296) (w : World) :
    Calls Try.prog 38 #[.int .u32 a, .int .u32 b] w fun e w' => e = .returned (.bool (lessB a b)) ∧ w = w' := by
  have hb := ahead_bd a b
  go_enter Try.func38, Try.ntmps38
  go_wp2_with (go_at_call 48; refine (serialAhead a b ha0 ha1 hb0 hb1 _).mono ?_; rintro e w' ⟨rfl, rfl⟩)
  go_ret
  exact ⟨rfl, rfl⟩
theorem refLess (a b : Int) (ha0 : 0 ≤ a) (ha1 : a < 4294967296) (hb0 : 0 ≤ b) (hb1 : b < 4294967296) (w : World) :
    Calls Try.prog 56 #[.int .u32 a, .int .u32 b] w fun e w' => e = .returned (.bool (lessB a b)) ∧ w = w' := by
  have hb := ahead_bd a b
  go_enter Try.func56, Try.ntmps56
  go_wp2_with (go_at_call 40; refine (refAhead a b ha0 ha1 hb0 hb1 _).mono ?_; rintro e w' ⟨rfl, rfl⟩)
  go_ret
  exact ⟨rfl, rfl⟩
def withinB (x base n : Int) : Bool := decide (0 ≤ ahead base x) && decide (ahead base x < n)
theorem serialWithin (x base n : Int) (ha0 : 0 ≤ x) (ha1 : x < 4294967296) (hb0 : 0 ≤ base) (hb1 : base < 4294967296) (w : World) :
    Calls Try.prog 44 #[.int .u32 x, .int .u32 base, .int .i64 n] w fun e w' => e = .returned (.bool (withinB x base n)) ∧ w = w' := by
  unfold withinB
  by_cases hc : 0 ≤ ahead base x
  all_goals
    go_enter Try.func44, Try.ntmps44
    go_wp2_with (go_at_call 48; refine (serialAhead base x hb0 hb1 ha0 ha1 _).mono ?_; rintro e w' ⟨rfl, rfl⟩)
    go_ret
    exact ⟨ret_bool (by simp; omega), rfl⟩
theorem refWithin (x base n : Int) (ha0 : 0 ≤ x) (ha1 : x < 4294967296) (hb0 : 0 ≤ base) (hb1 : base < 4294967296) (w : World) :
    Calls Try.prog 57 #[.int .u32 x, .int .u32 base, .int .i64 n] w fun e w' => e = .returned (.bool (withinB x base n)) ∧ w = w' := by
  unfold withinB
  by_cases hc : 0 ≤ ahead base x
  all_goals
    go_enter Try.func57, Try.ntmps57
    go_wp2_with (go_at_call 40; refine (refAhead base x hb0 hb1 ha0 ha1 _).mono ?_; rintro e w' ⟨rfl, rfl⟩)
    go_ret
    exact ⟨ret_bool (by simp; omega), rfl⟩
end Go.Proofs.Ytdggnhgflfaffaa
