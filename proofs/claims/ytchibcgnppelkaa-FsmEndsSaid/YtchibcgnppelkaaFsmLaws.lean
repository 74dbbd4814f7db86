/- The walks of lightshiplaw24: awake, FsmMoves and FsmEnds. -/
import Derived.Test.YtchibcgnppelkaaFsmNext
import Derived.Test.YtchibcgnppelkaaFsmRefNext
import Derived.Test.YtchibcgnppelkaaFsmMay
import Derived.Test.YtchibcgnppelkaaFsmRefMay
import Derived.Test.YtchibcgnppelkaaOpen
namespace Go.Proofs.Ytchibcgnppelkaa
open Go.ChangeShapes Go.WideShapes Go.ChangeAt Go.RowKit
set_option linter.unusedVariables false

theorem next_at (s e a b : Int) (h : nx s e = (a, b)) (w : World) : Calls Try.prog 5 #[.int .i64 s, .int .i64 e] w fun e w' => e = .returned (.tuple #[.int .i64 a, .int .i64 b]) ∧ w = w' :=
  (next_any s e w).mono fun e w' ⟨h1, h2⟩ => ⟨by rw [h1, h], h2⟩
theorem may_at (s k a : Int) (h : may s k = a) (w : World) : Calls Try.prog 7 #[.int .i64 s, .int .i64 k] w fun e w' => e = .returned (.int .i64 a) ∧ w = w' :=
  (may_any s k w).mono fun e w' ⟨h1, h2⟩ => ⟨by rw [h1, h], h2⟩
theorem done_at (s : Int) (b : Bool) (h : overB s = b) (w : World) : Calls Try.prog 9 #[.int .i64 s] w fun e w' => e = .returned (.bool b) ∧ w = w' := by
  subst h; exact done_any s w
set_option maxHeartbeats 1000000 in
theorem awake_true (w : World) : Calls Try.prog 10 #[] w fun e w' => e = .returned (.bool true) ∧ w = w' := by
  go_enter Try.func10, Try.ntmps10
  go_wp2_with fail
  refine (next_at 1 1 2 0 (by decide) _).mono ?_
  rintro e w' ⟨rfl, rfl⟩
  go_wp2_with fail
  refine (next_at 2 2 4 0 (by decide) _).mono ?_
  rintro e w' ⟨rfl, rfl⟩
  go_wp2_with fail
  refine (next_at 2 1 0 11 (by decide) _).mono ?_
  rintro e w' ⟨rfl, rfl⟩
  go_wp2_with fail
  refine (next_at 6 0 0 1 (by decide) _).mono ?_
  rintro e w' ⟨rfl, rfl⟩
  go_wp2_with fail
  refine (next_at 5 5 0 0 (by decide) _).mono ?_
  rintro e w' ⟨rfl, rfl⟩
  go_wp2_with fail
  refine (may_at 0 2 7 (by decide) _).mono ?_
  rintro e w' ⟨rfl, rfl⟩
  go_wp2_with fail
  refine (may_at 4 3 0 (by decide) _).mono ?_
  rintro e w' ⟨rfl, rfl⟩
  go_wp2_with fail
  refine (done_at 4 true (by decide) _).mono ?_
  rintro e w' ⟨rfl, rfl⟩
  go_wp2_with fail
  refine (done_at 2 false (by decide) _).mono ?_
  rintro e w' ⟨rfl, rfl⟩
  go_wp2_with fail
  go_ret
  exact ⟨rfl, rfl⟩

set_option maxHeartbeats 2000000 in
theorem moves_all (s e k : Int) (w : World) : Calls Try.prog 3 #[.int .i64 s, .int .i64 e, .int .i64 k] w fun e w' => e = .returned (.bool true) ∧ w = w' := by
  have ho : overB s = (decide (s = 4) || decide (s = 5)) := rfl
  by_cases h4 : s = 4
  · subst h4
    have ho : overB 4 = true := rfl
    go_enter Try.func3, Try.ntmps3
    go_wp2_with (first | (go_at_call 5; refine (next_any _ _ _).mono ?_; rintro e w' ⟨rfl, rfl⟩) | (go_at_call 6; refine (refNext_any _ _ _).mono ?_; rintro e w' ⟨rfl, rfl⟩) | (go_at_call 7; refine (may_any _ _ _).mono ?_; rintro e w' ⟨rfl, rfl⟩) | (go_at_call 8; refine (refMay_any _ _ _).mono ?_; rintro e w' ⟨rfl, rfl⟩) | (go_at_call 9; refine (done_any _ _).mono ?_; rintro e w' ⟨rfl, rfl⟩) | (go_at_call 10; refine (awake_true _).mono ?_; rintro e w' ⟨rfl, rfl⟩))
    go_ret
    exact ⟨rfl, rfl⟩
  · by_cases h5 : s = 5
    · subst h5
      have ho : overB 5 = true := rfl
      go_enter Try.func3, Try.ntmps3
      go_wp2_with (first | (go_at_call 5; refine (next_any _ _ _).mono ?_; rintro e w' ⟨rfl, rfl⟩) | (go_at_call 6; refine (refNext_any _ _ _).mono ?_; rintro e w' ⟨rfl, rfl⟩) | (go_at_call 7; refine (may_any _ _ _).mono ?_; rintro e w' ⟨rfl, rfl⟩) | (go_at_call 8; refine (refMay_any _ _ _).mono ?_; rintro e w' ⟨rfl, rfl⟩) | (go_at_call 9; refine (done_any _ _).mono ?_; rintro e w' ⟨rfl, rfl⟩) | (go_at_call 10; refine (awake_true _).mono ?_; rintro e w' ⟨rfl, rfl⟩))
      go_ret
      exact ⟨rfl, rfl⟩
    · have ho : overB s = false := by simp [ho, h4, h5]
      have q4 : (s == 4) = false := by simpa using h4
      have q5 : (s == 5) = false := by simpa using h5
      go_enter Try.func3, Try.ntmps3
      go_wp2_with (first | (go_at_call 5; refine (next_any _ _ _).mono ?_; rintro e w' ⟨rfl, rfl⟩) | (go_at_call 6; refine (refNext_any _ _ _).mono ?_; rintro e w' ⟨rfl, rfl⟩) | (go_at_call 7; refine (may_any _ _ _).mono ?_; rintro e w' ⟨rfl, rfl⟩) | (go_at_call 8; refine (refMay_any _ _ _).mono ?_; rintro e w' ⟨rfl, rfl⟩) | (go_at_call 9; refine (done_any _ _).mono ?_; rintro e w' ⟨rfl, rfl⟩) | (go_at_call 10; refine (awake_true _).mono ?_; rintro e w' ⟨rfl, rfl⟩))
      go_ret
      exact ⟨rfl, rfl⟩

/-- the states that can be, with what has been closed -/
def Inv (s : Int) (c f : Bool) : Prop := (s = 0 ∧ c = false ∧ f = false) ∨ (s = 1 ∧ c = false ∧ f = false) ∨ (s = 2 ∧ c = true ∧ f = false) ∨ (s = 3 ∧ c = false ∧ f = true) ∨ (s = 4 ∧ c = true ∧ f = true) ∨ s = 5
/-- one event: what the law's own bookkeeping comes to -/
def nS (s e : Int) : Int := if (nx s e).2 = 0 then (nx s e).1 else s
def nC (s e : Int) (c : Bool) : Bool := if (nx s e).2 = 0 then (if (nx s e).1 = 0 then false else c) || decide (e = 1) else c
def nF (s e : Int) (f : Bool) : Bool := if (nx s e).2 = 0 then (if (nx s e).1 = 0 then false else f) || decide (e = 2) else f
set_option maxRecDepth 100000 in
set_option maxHeartbeats 8000000 in
theorem ends_few (a : Option Addr) (len cap bl off : Nat) (X : Nat → Int) (hl : len ≤ 100) (W : World)
    (ha : 0 < len → a = some ⟨bl, off, none⟩) (hX : ∀ i, i < len → W.cell? ⟨bl, off + i, none⟩ = some (.int .u8 (X i))) (hX0 : ∀ i, i < len → 0 ≤ X i ∧ X i ≤ 255) :
    Calls Try.prog 4 #[.slice a len cap] W fun e w' => e = .returned (.bool true) ∧ W = w' := by
  go_enter Try.func4, Try.ntmps4
  go_wp2_with fail
  go_loop [3, 4, 5, 6] (fun sv cv fv iv => ∃ (k : Nat) (s : Int) (c f : Bool), k ≤ len ∧ iv = .int .i64 k ∧ Inv s c f ∧ sv = .int .i64 s ∧ cv = .bool c ∧ fv = .bool f) (fun _ _ _ iv => len - (intOf iv).toNat)
  case atStart => exact ⟨0, 0, false, false, Nat.zero_le _, rfl, Or.inl ⟨rfl, rfl, rfl⟩, rfl, rfl, rfl⟩
  case round =>
    obtain ⟨k, s, c, f, hk, rfl, hI, rfl, rfl, rfl⟩ := hrel
    by_cases hlk : k < len
    · have ha' := ha (by omega)
      subst ha'
      have hX1 := hX0 k hlk
      have hcX := hX k hlk
      have h6 : X k % 6 = 0 ∨ X k % 6 = 1 ∨ X k % 6 = 2 ∨ X k % 6 = 3 ∨ X k % 6 = 4 ∨ X k % 6 = 5 := by omega
      clear hX hX0 hl
      rcases hI with ⟨rfl, rfl, rfl⟩ | ⟨rfl, rfl, rfl⟩ | ⟨rfl, rfl, rfl⟩ | ⟨rfl, rfl, rfl⟩ | ⟨rfl, rfl, rfl⟩ | rfl
      · rcases h6 with h6 | h6 | h6 | h6 | h6 | h6
        · go_wp2_with fail
          refine (next_at 0 0 1 0 (by decide) _).mono ?_
          rintro e w' ⟨rfl, rfl⟩
          go_wp2_with fail
          refine (may_at 1 2 0 (by decide) _).mono ?_
          rintro e w' ⟨rfl, rfl⟩
          go_wp2_with fail
          go_round
          case rel => exact ⟨k + 1, 1, false, false, by omega, by go_num, by unfold Inv; simp, rfl, rfl, rfl⟩
          case measure => simp [intOf]; omega
        · go_wp2_with fail
          refine (next_at 0 1 0 7 (by decide) _).mono ?_
          rintro e w' ⟨rfl, rfl⟩
          go_wp2_with fail
          go_round
          case rel => exact ⟨k + 1, 0, false, false, by omega, by go_num, by unfold Inv; simp, rfl, rfl, rfl⟩
          case measure => simp [intOf]; omega
        · go_wp2_with fail
          refine (next_at 0 2 0 7 (by decide) _).mono ?_
          rintro e w' ⟨rfl, rfl⟩
          go_wp2_with fail
          go_round
          case rel => exact ⟨k + 1, 0, false, false, by omega, by go_num, by unfold Inv; simp, rfl, rfl, rfl⟩
          case measure => simp [intOf]; omega
        · go_wp2_with fail
          refine (next_at 0 3 0 7 (by decide) _).mono ?_
          rintro e w' ⟨rfl, rfl⟩
          go_wp2_with fail
          go_round
          case rel => exact ⟨k + 1, 0, false, false, by omega, by go_num, by unfold Inv; simp, rfl, rfl, rfl⟩
          case measure => simp [intOf]; omega
        · go_wp2_with fail
          refine (next_at 0 4 0 7 (by decide) _).mono ?_
          rintro e w' ⟨rfl, rfl⟩
          go_wp2_with fail
          go_round
          case rel => exact ⟨k + 1, 0, false, false, by omega, by go_num, by unfold Inv; simp, rfl, rfl, rfl⟩
          case measure => simp [intOf]; omega
        · go_wp2_with fail
          refine (next_at 0 5 0 10 (by decide) _).mono ?_
          rintro e w' ⟨rfl, rfl⟩
          go_wp2_with fail
          go_round
          case rel => exact ⟨k + 1, 0, false, false, by omega, by go_num, by unfold Inv; simp, rfl, rfl, rfl⟩
          case measure => simp [intOf]; omega
      · rcases h6 with h6 | h6 | h6 | h6 | h6 | h6
        · go_wp2_with fail
          refine (next_at 1 0 0 8 (by decide) _).mono ?_
          rintro e w' ⟨rfl, rfl⟩
          go_wp2_with fail
          go_round
          case rel => exact ⟨k + 1, 1, false, false, by omega, by go_num, by unfold Inv; simp, rfl, rfl, rfl⟩
          case measure => simp [intOf]; omega
        · go_wp2_with fail
          refine (next_at 1 1 2 0 (by decide) _).mono ?_
          rintro e w' ⟨rfl, rfl⟩
          go_wp2_with fail
          refine (may_at 2 2 11 (by decide) _).mono ?_
          rintro e w' ⟨rfl, rfl⟩
          go_wp2_with fail
          go_round
          case rel => exact ⟨k + 1, 2, true, false, by omega, by go_num, by unfold Inv; simp, rfl, rfl, rfl⟩
          case measure => simp [intOf]; omega
        · go_wp2_with fail
          refine (next_at 1 2 3 0 (by decide) _).mono ?_
          rintro e w' ⟨rfl, rfl⟩
          go_wp2_with fail
          refine (may_at 3 2 0 (by decide) _).mono ?_
          rintro e w' ⟨rfl, rfl⟩
          go_wp2_with fail
          go_round
          case rel => exact ⟨k + 1, 3, false, true, by omega, by go_num, by unfold Inv; simp, rfl, rfl, rfl⟩
          case measure => simp [intOf]; omega
        · go_wp2_with fail
          refine (next_at 1 3 5 0 (by decide) _).mono ?_
          rintro e w' ⟨rfl, rfl⟩
          go_wp2_with fail
          go_round
          case rel => exact ⟨k + 1, 5, false, false, by omega, by go_num, by unfold Inv; simp, rfl, rfl, rfl⟩
          case measure => simp [intOf]; omega
        · go_wp2_with fail
          refine (next_at 1 4 5 0 (by decide) _).mono ?_
          rintro e w' ⟨rfl, rfl⟩
          go_wp2_with fail
          go_round
          case rel => exact ⟨k + 1, 5, false, false, by omega, by go_num, by unfold Inv; simp, rfl, rfl, rfl⟩
          case measure => simp [intOf]; omega
        · go_wp2_with fail
          refine (next_at 1 5 0 10 (by decide) _).mono ?_
          rintro e w' ⟨rfl, rfl⟩
          go_wp2_with fail
          go_round
          case rel => exact ⟨k + 1, 1, false, false, by omega, by go_num, by unfold Inv; simp, rfl, rfl, rfl⟩
          case measure => simp [intOf]; omega
      · rcases h6 with h6 | h6 | h6 | h6 | h6 | h6
        · go_wp2_with fail
          refine (next_at 2 0 0 8 (by decide) _).mono ?_
          rintro e w' ⟨rfl, rfl⟩
          go_wp2_with fail
          go_round
          case rel => exact ⟨k + 1, 2, true, false, by omega, by go_num, by unfold Inv; simp, rfl, rfl, rfl⟩
          case measure => simp [intOf]; omega
        · go_wp2_with fail
          refine (next_at 2 1 0 11 (by decide) _).mono ?_
          rintro e w' ⟨rfl, rfl⟩
          go_wp2_with fail
          go_round
          case rel => exact ⟨k + 1, 2, true, false, by omega, by go_num, by unfold Inv; simp, rfl, rfl, rfl⟩
          case measure => simp [intOf]; omega
        · go_wp2_with fail
          refine (next_at 2 2 4 0 (by decide) _).mono ?_
          rintro e w' ⟨rfl, rfl⟩
          go_wp2_with fail
          refine (may_at 4 2 11 (by decide) _).mono ?_
          rintro e w' ⟨rfl, rfl⟩
          go_wp2_with fail
          go_round
          case rel => exact ⟨k + 1, 4, true, true, by omega, by go_num, by unfold Inv; simp, rfl, rfl, rfl⟩
          case measure => simp [intOf]; omega
        · go_wp2_with fail
          refine (next_at 2 3 5 0 (by decide) _).mono ?_
          rintro e w' ⟨rfl, rfl⟩
          go_wp2_with fail
          go_round
          case rel => exact ⟨k + 1, 5, true, false, by omega, by go_num, by unfold Inv; simp, rfl, rfl, rfl⟩
          case measure => simp [intOf]; omega
        · go_wp2_with fail
          refine (next_at 2 4 5 0 (by decide) _).mono ?_
          rintro e w' ⟨rfl, rfl⟩
          go_wp2_with fail
          go_round
          case rel => exact ⟨k + 1, 5, true, false, by omega, by go_num, by unfold Inv; simp, rfl, rfl, rfl⟩
          case measure => simp [intOf]; omega
        · go_wp2_with fail
          refine (next_at 2 5 0 10 (by decide) _).mono ?_
          rintro e w' ⟨rfl, rfl⟩
          go_wp2_with fail
          go_round
          case rel => exact ⟨k + 1, 2, true, false, by omega, by go_num, by unfold Inv; simp, rfl, rfl, rfl⟩
          case measure => simp [intOf]; omega
      · rcases h6 with h6 | h6 | h6 | h6 | h6 | h6
        · go_wp2_with fail
          refine (next_at 3 0 0 8 (by decide) _).mono ?_
          rintro e w' ⟨rfl, rfl⟩
          go_wp2_with fail
          go_round
          case rel => exact ⟨k + 1, 3, false, true, by omega, by go_num, by unfold Inv; simp, rfl, rfl, rfl⟩
          case measure => simp [intOf]; omega
        · go_wp2_with fail
          refine (next_at 3 1 4 0 (by decide) _).mono ?_
          rintro e w' ⟨rfl, rfl⟩
          go_wp2_with fail
          refine (may_at 4 2 11 (by decide) _).mono ?_
          rintro e w' ⟨rfl, rfl⟩
          go_wp2_with fail
          go_round
          case rel => exact ⟨k + 1, 4, true, true, by omega, by go_num, by unfold Inv; simp, rfl, rfl, rfl⟩
          case measure => simp [intOf]; omega
        · go_wp2_with fail
          refine (next_at 3 2 0 8 (by decide) _).mono ?_
          rintro e w' ⟨rfl, rfl⟩
          go_wp2_with fail
          go_round
          case rel => exact ⟨k + 1, 3, false, true, by omega, by go_num, by unfold Inv; simp, rfl, rfl, rfl⟩
          case measure => simp [intOf]; omega
        · go_wp2_with fail
          refine (next_at 3 3 5 0 (by decide) _).mono ?_
          rintro e w' ⟨rfl, rfl⟩
          go_wp2_with fail
          go_round
          case rel => exact ⟨k + 1, 5, false, true, by omega, by go_num, by unfold Inv; simp, rfl, rfl, rfl⟩
          case measure => simp [intOf]; omega
        · go_wp2_with fail
          refine (next_at 3 4 5 0 (by decide) _).mono ?_
          rintro e w' ⟨rfl, rfl⟩
          go_wp2_with fail
          go_round
          case rel => exact ⟨k + 1, 5, false, true, by omega, by go_num, by unfold Inv; simp, rfl, rfl, rfl⟩
          case measure => simp [intOf]; omega
        · go_wp2_with fail
          refine (next_at 3 5 0 10 (by decide) _).mono ?_
          rintro e w' ⟨rfl, rfl⟩
          go_wp2_with fail
          go_round
          case rel => exact ⟨k + 1, 3, false, true, by omega, by go_num, by unfold Inv; simp, rfl, rfl, rfl⟩
          case measure => simp [intOf]; omega
      · rcases h6 with h6 | h6 | h6 | h6 | h6 | h6
        · go_wp2_with fail
          refine (next_at 4 0 0 8 (by decide) _).mono ?_
          rintro e w' ⟨rfl, rfl⟩
          go_wp2_with fail
          go_round
          case rel => exact ⟨k + 1, 4, true, true, by omega, by go_num, by unfold Inv; simp, rfl, rfl, rfl⟩
          case measure => simp [intOf]; omega
        · go_wp2_with fail
          refine (next_at 4 1 0 11 (by decide) _).mono ?_
          rintro e w' ⟨rfl, rfl⟩
          go_wp2_with fail
          go_round
          case rel => exact ⟨k + 1, 4, true, true, by omega, by go_num, by unfold Inv; simp, rfl, rfl, rfl⟩
          case measure => simp [intOf]; omega
        · go_wp2_with fail
          refine (next_at 4 2 0 8 (by decide) _).mono ?_
          rintro e w' ⟨rfl, rfl⟩
          go_wp2_with fail
          go_round
          case rel => exact ⟨k + 1, 4, true, true, by omega, by go_num, by unfold Inv; simp, rfl, rfl, rfl⟩
          case measure => simp [intOf]; omega
        · go_wp2_with fail
          refine (next_at 4 3 0 10 (by decide) _).mono ?_
          rintro e w' ⟨rfl, rfl⟩
          go_wp2_with fail
          go_round
          case rel => exact ⟨k + 1, 4, true, true, by omega, by go_num, by unfold Inv; simp, rfl, rfl, rfl⟩
          case measure => simp [intOf]; omega
        · go_wp2_with fail
          refine (next_at 4 4 0 10 (by decide) _).mono ?_
          rintro e w' ⟨rfl, rfl⟩
          go_wp2_with fail
          go_round
          case rel => exact ⟨k + 1, 4, true, true, by omega, by go_num, by unfold Inv; simp, rfl, rfl, rfl⟩
          case measure => simp [intOf]; omega
        · go_wp2_with fail
          refine (next_at 4 5 0 0 (by decide) _).mono ?_
          rintro e w' ⟨rfl, rfl⟩
          go_wp2_with fail
          refine (may_at 0 2 7 (by decide) _).mono ?_
          rintro e w' ⟨rfl, rfl⟩
          go_wp2_with fail
          go_round
          case rel => exact ⟨k + 1, 0, false, false, by omega, by go_num, by unfold Inv; simp, rfl, rfl, rfl⟩
          case measure => simp [intOf]; omega
      · rcases h6 with h6 | h6 | h6 | h6 | h6 | h6
        · go_wp2_with fail
          refine (next_at 5 0 0 8 (by decide) _).mono ?_
          rintro e w' ⟨rfl, rfl⟩
          go_wp2_with fail
          go_round
          case rel => exact ⟨k + 1, 5, c, f, by omega, by go_num, by unfold Inv; simp, rfl, rfl, rfl⟩
          case measure => simp [intOf]; omega
        · go_wp2_with fail
          refine (next_at 5 1 0 12 (by decide) _).mono ?_
          rintro e w' ⟨rfl, rfl⟩
          go_wp2_with fail
          go_round
          case rel => exact ⟨k + 1, 5, c, f, by omega, by go_num, by unfold Inv; simp, rfl, rfl, rfl⟩
          case measure => simp [intOf]; omega
        · go_wp2_with fail
          refine (next_at 5 2 0 12 (by decide) _).mono ?_
          rintro e w' ⟨rfl, rfl⟩
          go_wp2_with fail
          go_round
          case rel => exact ⟨k + 1, 5, c, f, by omega, by go_num, by unfold Inv; simp, rfl, rfl, rfl⟩
          case measure => simp [intOf]; omega
        · go_wp2_with fail
          refine (next_at 5 3 0 10 (by decide) _).mono ?_
          rintro e w' ⟨rfl, rfl⟩
          go_wp2_with fail
          go_round
          case rel => exact ⟨k + 1, 5, c, f, by omega, by go_num, by unfold Inv; simp, rfl, rfl, rfl⟩
          case measure => simp [intOf]; omega
        · go_wp2_with fail
          refine (next_at 5 4 0 10 (by decide) _).mono ?_
          rintro e w' ⟨rfl, rfl⟩
          go_wp2_with fail
          go_round
          case rel => exact ⟨k + 1, 5, c, f, by omega, by go_num, by unfold Inv; simp, rfl, rfl, rfl⟩
          case measure => simp [intOf]; omega
        · go_wp2_with fail
          refine (next_at 5 5 0 0 (by decide) _).mono ?_
          rintro e w' ⟨rfl, rfl⟩
          go_wp2_with fail
          refine (may_at 0 2 7 (by decide) _).mono ?_
          rintro e w' ⟨rfl, rfl⟩
          go_wp2_with fail
          go_round
          case rel => exact ⟨k + 1, 0, false, false, by omega, by go_num, by unfold Inv; simp, rfl, rfl, rfl⟩
          case measure => simp [intOf]; omega
    · go_wp2_with (go_at_call 10; refine (awake_true _).mono ?_; rintro e w' ⟨rfl, rfl⟩)
      go_ret
      exact ⟨rfl, rfl⟩
theorem ends_all (a : Option Addr) (len cap bl off : Nat) (X : Nat → Int) (hl : len ≤ cap) (hm : cap ≤ maxLen) (W : World)
    (ha : 0 < len → a = some ⟨bl, off, none⟩) (hX : ∀ i, i < len → W.cell? ⟨bl, off + i, none⟩ = some (.int .u8 (X i))) (hX0 : ∀ i, i < len → 0 ≤ X i ∧ X i ≤ 255) :
    Calls Try.prog 4 #[.slice a len cap] W fun e w' => e = .returned (.bool true) ∧ W = w' := by
  by_cases h : len ≤ 100
  · exact ends_few a len cap bl off X h W ha hX hX0
  · unfold maxLen at hm
    go_enter Try.func4, Try.ntmps4
    go_wp2_with (go_at_call 10; refine (awake_true _).mono ?_; rintro e w' ⟨rfl, rfl⟩)
    go_ret
    exact ⟨rfl, rfl⟩
end Go.Proofs.Ytchibcgnppelkaa
