/- AimdPlays, the other inputs. -/
import Derived.Test.YtjmgopfeknlnnaaAimdPlays
namespace Go.Proofs.Ytjmgopfeknlnnaa
open Go.ChangeShapes Go.WideShapes Go.ChangeAt Go.RowKit
set_option linter.unusedVariables false

set_option maxRecDepth 100000 in
set_option maxHeartbeats 4000000 in
theorem plays_many (l h : Int) (a : Option Addr) (len cap : Nat) (hc : cap ≤ maxLen) (hlc : len ≤ cap) (c1 : 60 < len) (W : World) :
    Calls Try.prog 3 #[.int .i64 l, .int .i64 h, .slice a len cap] W (TruePost W) := by
  unfold maxLen at hc
  go_enter Try.func3, Try.ntmps3
  go_wp2_with (go_at_call 5; refine (awake_true _).mono ?_; rintro e w6 ⟨rfl, hb6⟩)
  go_ret
  exact ⟨rfl, hb6⟩
set_option maxRecDepth 100000 in
set_option maxHeartbeats 4000000 in
theorem plays_bad (l h : Int) (a : Option Addr) (len cap : Nat) (hlen : len ≤ 60) (hbad : l < 1 ∨ h < l ∨ 65535 < h) (W : World) :
    Calls Try.prog 3 #[.int .i64 l, .int .i64 h, .slice a len cap] W (TruePost W) := by
  by_cases c2 : l < 1
  · have q1 : decide (l < 1) = true := by simpa using c2
    go_enter Try.func3, Try.ntmps3
    go_wp2_with (first | (go_at_call 6; refine (new_bad l h hbad _).mono ?_; rintro e w' ⟨rfl, rfl⟩) | (go_at_call 5; refine (awake_true _).mono ?_; rintro e w6 ⟨rfl, hb6⟩))
    go_ret
    exact ⟨rfl, hb6⟩
  · have q1 : decide (l < 1) = false := by simpa using c2
    by_cases c3 : h < l
    · have q2 : decide (h < l) = true := by simpa using c3
      go_enter Try.func3, Try.ntmps3
      go_wp2_with (first | (go_at_call 6; refine (new_bad l h hbad _).mono ?_; rintro e w' ⟨rfl, rfl⟩) | (go_at_call 5; refine (awake_true _).mono ?_; rintro e w6 ⟨rfl, hb6⟩))
      go_ret
      exact ⟨rfl, hb6⟩
    · have q2 : decide (h < l) = false := by simpa using c3
      have q3 : decide (65535 < h) = true := by simp; omega
      go_enter Try.func3, Try.ntmps3
      go_wp2_with (first | (go_at_call 6; refine (new_bad l h hbad _).mono ?_; rintro e w' ⟨rfl, rfl⟩) | (go_at_call 5; refine (awake_true _).mono ?_; rintro e w6 ⟨rfl, hb6⟩))
      go_ret
      exact ⟨rfl, hb6⟩
end Go.Proofs.Ytjmgopfeknlnnaa
