/- Contracts: Timeout and Backoff, of package rto and of its reference. -/
import Derived.Test.YtebhdefeggiihaaRtoRef
import Derived.LoopTactic
namespace Go.Proofs.Ytebhdefeggiihaa
open Go.ChangeShapes Go.WideShapes Go.ChangeAt Go.RowKit
set_option linter.unusedVariables false

def lst (n : Int) : Int := max 1 (min n 1048576)
theorem lst_bd (n : Int) : 1 ≤ lst n ∧ lst n ≤ 1048576 := by unfold lst; omega
theorem within_any (n : Int) (w : World) : Calls Try.prog 15 #[.int .i64 n] w fun e w' => e = .returned (.int .i64 (lst n)) ∧ w = w' := by
  go_enter Try.func15, Try.ntmps15
  go_wp2
  all_goals try go_ret
  all_goals exact ⟨ret_int (by unfold lst; omega), rfl⟩
theorem atLeast_any (n : Int) (w : World) : Calls Try.prog 16 #[.int .i64 n] w fun e w' => e = .returned (.int .i64 (lst n)) ∧ w = w' := by
  go_enter Try.func16, Try.ntmps16
  go_wp2
  all_goals try go_ret
  all_goals exact ⟨ret_int (by unfold lst; omega), rfl⟩
theorem by_any (a : Int) (h : 0 ≤ a) (h2 : a ≤ 9223372036854775807) (w : World) : Calls Try.prog 17 #[.int .i64 a, .int .i64 8] w fun e w' => e = .returned (.int .i64 (a / 8)) ∧ w = w' := by
  have c : ¬ (a < a / 8 * 8) := by omega
  go_enter Try.func17, Try.ntmps17
  go_wp2
  go_ret
  exact ⟨rfl, rfl⟩

def tmo (m v n least : Int) : Int := if n < 1 ∨ m < 0 ∨ v < 0 then lst least else max (lst least) (min (min (m / 8) 1048576 + min v 1048576) 1048576)
theorem tmo_bd (m v n least : Int) : lst least ≤ tmo m v n least ∧ tmo m v n least ≤ 1048576 := by
  have := lst_bd least
  unfold tmo; split <;> omega
def TimePost (W : World) (x : Int) (e : Ending) (w' : World) : Prop := e = .returned (.int .i64 x) ∧ Below W.heap.size W w'
set_option maxRecDepth 100000 in
set_option maxHeartbeats 2000000 in
theorem timeout_any (m v n least : Int) (hm : m ≤ 9223372036854775807) (hv : v ≤ 9223372036854775807) (w : World) :
    Calls Try.prog 8 #[.agg #[.int .i64 m, .int .i64 v, .int .i64 n], .int .i64 least] w (TimePost w (tmo m v n least)) := by
  have hl := lst_bd least
  by_cases c1 : n < 1
  all_goals by_cases c2 : m < 0
  all_goals by_cases c3 : v < 0
  all_goals
    go_enter Try.func8, Try.ntmps8
    go_wp2_with (go_at_call 15; refine (within_any least _).mono ?_; rintro e w' ⟨rfl, rfl⟩)
    all_goals try go_ret
    all_goals exact ⟨ret_int (by unfold tmo; split <;> omega), by go_grown⟩
set_option maxRecDepth 100000 in
set_option maxHeartbeats 2000000 in
theorem refTimeout_bad (m v n least : Int) (h : n < 1 ∨ m < 0 ∨ v < 0) (w : World) :
    Calls Try.prog 9 #[.agg #[.int .i64 m, .int .i64 v, .int .i64 n], .int .i64 least] w (TimePost w (tmo m v n least)) := by
  have hl := lst_bd least
  have HT := Lib.hid (show tmo m v n least = lst least from by unfold tmo; rw [if_pos h])
  have H := Lib.hid h
  clear h
  by_cases c1 : n < 1
  all_goals by_cases c2 : m < 0
  all_goals by_cases c3 : v < 0
  all_goals try (exfalso; have := H.out; omega)
  all_goals
    go_enter Try.func9, Try.ntmps9
    go_wp2_with (first | (go_at_call 16; refine (atLeast_any least _).mono ?_; rintro e w' ⟨rfl, rfl⟩) | (go_at_call 17; refine (by_any _ (by omega) (by omega) _).mono ?_; rintro e w' ⟨rfl, rfl⟩))
    all_goals try go_ret
    all_goals exact ⟨ret_int HT.out.symm, by go_grown⟩
set_option maxRecDepth 100000 in
set_option maxHeartbeats 2000000 in
theorem refTimeout_good (m v n least : Int) (hm : 0 ≤ m ∧ m ≤ 9223372036854775807) (hv : 0 ≤ v ∧ v ≤ 9223372036854775807) (hn : 1 ≤ n) (w : World) :
    Calls Try.prog 9 #[.agg #[.int .i64 m, .int .i64 v, .int .i64 n], .int .i64 least] w (TimePost w (tmo m v n least)) := by
  have hl := lst_bd least
  have HT := Lib.hid (show tmo m v n least = min (max (min (m / 8) 1073741824 + min v 1073741824) (lst least)) 1048576 from by unfold tmo; rw [if_neg (by omega)]; omega)
  have hq : 0 ≤ m / 8 := by omega
  by_cases c4 : m / 8 ≤ 1073741824
  all_goals by_cases c5 : v ≤ 1073741824
  all_goals
    go_enter Try.func9, Try.ntmps9
    go_wp2_with (first | (go_at_call 16; refine (atLeast_any least _).mono ?_; rintro e w' ⟨rfl, rfl⟩) | (go_at_call 17; refine (by_any _ (by omega) (by omega) _).mono ?_; rintro e w' ⟨rfl, rfl⟩))
    go_quiet ((go_at_call 17; exact Calls.quiet_of_same ((by_any _ (by omega) (by omega) _).mono fun e w' h => ⟨h.1, h.2.symm⟩)))
    go_wp2_with (go_at_call 16; refine (atLeast_any least _).mono ?_; rintro e w' ⟨rfl, rfl⟩)
    all_goals try go_ret
    all_goals exact ⟨ret_int (by rw [HT.out]; omega), by refine bdrewN ?_ _; go_grown⟩
/-- doubled, so many times, to 2^20 at most -/
def bk (n : Int) : Nat → Int
  | 0 => n
  | k + 1 => if n < 1048576 then bk (min (2 * n) 1048576) k else n
theorem bk_top (n : Int) (h : ¬ n < 1048576) (k : Nat) : bk n k = n := by cases k <;> simp [bk, h]
theorem bk_bd (k : Nat) : ∀ n : Int, 1 ≤ n → n ≤ 1048576 → n ≤ bk n k ∧ bk n k ≤ 1048576 := by
  induction k with
  | zero => intro n h1 h2; simp [bk]; omega
  | succ k ih =>
    intro n h1 h2
    unfold bk
    split
    · have := ih (min (2 * n) 1048576) (by omega) (by omega); omega
    · omega
theorem bk_step (n : Int) (t : Int) (ht : 0 < t) (h : n < 1048576) : bk n t.toNat = bk (min (2 * n) 1048576) (t - 1).toNat := by
  obtain ⟨k, rfl⟩ : ∃ k : Nat, t = k + 1 := ⟨(t - 1).toNat, by omega⟩
  rw [show ((k : Int) + 1).toNat = k + 1 by omega, show ((k : Int) + 1 - 1).toNat = k by omega, bk, if_pos h]
def bko (least tries : Int) : Int := bk (lst least) tries.toNat
def BkIs (n k x : Int) : Prop := bk n k.toNat = x
theorem backoff_any (least tries : Int) (ht : tries ≤ 9223372036854775807) (hb : -9223372036854775808 ≤ tries) (w : World) :
    Calls Try.prog 11 #[.int .i64 least, .int .i64 tries] w fun e w' => e = .returned (.int .i64 (bko least tries)) ∧ w = w' := by
  have hl := lst_bd least
  go_enter Try.func11, Try.ntmps11
  go_wp2_with (go_at_call 15; refine (within_any least _).mono ?_; rintro e w' ⟨rfl, rfl⟩)
  go_loop [1, 5] (fun t nv => ∃ (n : Int) (k : Int), 1 ≤ n ∧ n ≤ 1048576 ∧ -9223372036854775808 ≤ k ∧ k ≤ 9223372036854775807 ∧ t = .int .i64 k ∧ nv = .int .i64 n ∧ BkIs n k (bko least tries)) (fun t _ => (intOf t).toNat)
  case atStart => exact ⟨lst least, tries, hl.1, hl.2, hb, ht, rfl, rfl, rfl⟩
  case round =>
    obtain ⟨n, k, h1, h2, h3, h4, rfl, rfl, hI⟩ := hrel
    by_cases c1 : 0 < k
    · by_cases c2 : n < 1048576
      · have HS := Lib.hid (bk_step n k c1 c2)
        go_wp2
        all_goals
          go_round
          case rel => exact ⟨_, _, by omega, by omega, by omega, by omega, rfl, rfl, by unfold BkIs; rw [← show bk n k.toNat = _ from hI, HS.out]; congr 1; omega⟩
          case measure => simp [intOf]; omega
      · go_wp2
        go_ret
        exact ⟨ret_int (by rw [← show bk n k.toNat = _ from hI, bk_top n (by omega)]), rfl⟩
    · go_wp2
      go_ret
      exact ⟨ret_int (by rw [← show bk n k.toNat = _ from hI, show k.toNat = 0 from by omega]; rfl), rfl⟩
theorem refTimeout_any (m v n least : Int) (hm : m ≤ 9223372036854775807) (hv : v ≤ 9223372036854775807) (w : World) :
    Calls Try.prog 9 #[.agg #[.int .i64 m, .int .i64 v, .int .i64 n], .int .i64 least] w (TimePost w (tmo m v n least)) := by
  by_cases h : n < 1 ∨ m < 0 ∨ v < 0
  · exact refTimeout_bad m v n least h w
  · exact refTimeout_good m v n least (by omega) (by omega) (by omega) w
theorem refBackoff_any (least tries : Int) (ht : tries ≤ 9223372036854775807) (hb : -9223372036854775808 ≤ tries) (w : World) :
    Calls Try.prog 12 #[.int .i64 least, .int .i64 tries] w fun e w' => e = .returned (.int .i64 (bko least tries)) ∧ w = w' := by
  have hl := lst_bd least
  go_enter Try.func12, Try.ntmps12
  go_wp2_with (go_at_call 16; refine (atLeast_any least _).mono ?_; rintro e w' ⟨rfl, rfl⟩)
  go_loop [5, 6] (fun nv iv => ∃ (n : Int) (i : Int), 1 ≤ n ∧ n ≤ 1048576 ∧ 0 ≤ i ∧ i ≤ 9223372036854775807 ∧ (i ≤ tries ∨ i = 0) ∧ iv = .int .i64 i ∧ nv = .int .i64 n ∧ BkIs n (tries - i) (bko least tries)) (fun _ iv => (tries - intOf iv).toNat)
  case atStart => exact ⟨lst least, 0, hl.1, hl.2, by omega, by omega, by omega, rfl, rfl, by unfold BkIs bko; rw [show tries - 0 = tries by omega]⟩
  case round =>
    obtain ⟨n, i, h1, h2, h3, h4, h5, rfl, rfl, hI⟩ := hrel
    by_cases c1 : i < tries
    · by_cases c2 : n < 1048576
      · have HS := Lib.hid (bk_step n (tries - i) (by omega) c2)
        go_wp2
        all_goals
          go_round
          case rel => exact ⟨_, _, by omega, by omega, by omega, by omega, by omega, rfl, rfl, by unfold BkIs; rw [← show bk n (tries - i).toNat = _ from hI, HS.out, show tries - (i + 1) = tries - i - 1 by omega]; congr 1; omega⟩
          case measure => simp [intOf]; omega
      · go_wp2
        go_ret
        exact ⟨ret_int (by rw [← show bk n (tries - i).toNat = _ from hI, bk_top n (by omega)]), rfl⟩
    · go_wp2
      go_ret
      exact ⟨ret_int (by rw [← show bk n (tries - i).toNat = _ from hI, show (tries - i).toNat = 0 from by omega]; rfl), rfl⟩
end Go.Proofs.Ytebhdefeggiihaa
