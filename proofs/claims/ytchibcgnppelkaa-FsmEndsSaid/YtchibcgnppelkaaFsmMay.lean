/- fsm.May and fsm.Done, walked. -/
import Derived.Test.YtchibcgnppelkaaFsm
namespace Go.Proofs.Ytchibcgnppelkaa
open Go.ChangeShapes Go.WideShapes Go.ChangeAt Go.RowKit
set_option linter.unusedVariables false

set_option maxHeartbeats 4000000 in
theorem may_any (s k : Int) (w : World) : Calls Try.prog 7 #[.int .i64 s, .int .i64 k] w (MayPost w (may s k)) := by
  by_cases hs : inR s = true
  · by_cases hk : k < 1 ∨ 5 < k
    · have h : may s k = 1 := by unfold may; rw [if_pos (Or.inr hk)]
      rw [h]
      rcases six hs with rfl | rfl | rfl | rfl | rfl | rfl
      all_goals rcases hk with hk | hk
      all_goals
        go_enter Try.func7, Try.ntmps7
        go_wp2
        all_goals go_ret
        all_goals exact mp_mk rfl
    · rcases six hs with rfl | rfl | rfl | rfl | rfl | rfl
      all_goals rcases five hk with rfl | rfl | rfl | rfl | rfl
      all_goals
        go_enter Try.func7, Try.ntmps7
        go_wp2
        go_ret
        exact mp_mk (by decide)
  · have h : may s k = 1 := by unfold may; rw [if_pos (Or.inl (by simpa using hs))]
    rw [h]
    have hb : s < 0 ∨ 5 < s := by simp [inR] at hs; omega
    by_cases hk : k = 2
    all_goals by_cases hk4 : k = 4
    all_goals try (exfalso; omega)
    all_goals rcases hb with hb | hb
    all_goals
      go_enter Try.func7, Try.ntmps7
      go_wp2
      all_goals go_ret
      all_goals exact mp_mk rfl
theorem done_any (s : Int) (w : World) : Calls Try.prog 9 #[.int .i64 s] w fun e w' => e = .returned (.bool (overB s)) ∧ w = w' := by
  by_cases hs : inR s = true
  · rcases six hs with rfl | rfl | rfl | rfl | rfl | rfl
    all_goals
      go_enter Try.func9, Try.ntmps9
      go_wp2
      go_ret
      exact ⟨ret_bool (by decide), rfl⟩
  · have hb : s < 0 ∨ 5 < s := by simp [inR] at hs; omega
    have ho : overB s = false := by unfold overB; simp; omega
    rw [ho]
    rcases hb with hb | hb
    all_goals
      go_enter Try.func9, Try.ntmps9
      go_wp2
      go_ret
      exact ⟨rfl, rfl⟩
end Go.Proofs.Ytchibcgnppelkaa
