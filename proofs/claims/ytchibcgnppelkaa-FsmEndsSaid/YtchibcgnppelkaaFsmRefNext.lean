/- lightshipref24.Next, walked. -/
import Derived.Test.YtchibcgnppelkaaFsm
namespace Go.Proofs.Ytchibcgnppelkaa
open Go.ChangeShapes Go.WideShapes Go.ChangeAt Go.RowKit
set_option linter.unusedVariables false

set_option maxHeartbeats 4000000 in
theorem refNext_any (s e : Int) (w : World) : Calls Try.prog 6 #[.int .i64 s, .int .i64 e] w (NextPost w (nx s e)) := by
  by_cases hs : inR s = true
  · by_cases he : inR e = true
    · rcases six hs with rfl | rfl | rfl | rfl | rfl | rfl
      all_goals rcases six he with rfl | rfl | rfl | rfl | rfl | rfl
      all_goals
        go_enter Try.func6, Try.ntmps6
        go_wp2
        go_ret2
        exact np_mk (by decide)
    · have h : nx s e = (0, 1) := by unfold nx; rw [if_pos (Or.inr (by simpa using he))]
      rw [h]
      have hb : e < 0 ∨ 5 < e := by simp [inR] at he; omega
      rcases six hs with rfl | rfl | rfl | rfl | rfl | rfl
      all_goals rcases hb with hb | hb
      all_goals
        go_enter Try.func6, Try.ntmps6
        go_wp2
        all_goals go_ret2
        all_goals exact np_mk rfl
  · have h : nx s e = (0, 1) := by unfold nx; rw [if_pos (Or.inl (by simpa using hs))]
    rw [h]
    have hb : s < 0 ∨ 5 < s := by simp [inR] at hs; omega
    rcases hb with hb | hb
    all_goals
      go_enter Try.func6, Try.ntmps6
      go_wp2
      all_goals go_ret2
      all_goals exact np_mk rfl
end Go.Proofs.Ytchibcgnppelkaa
