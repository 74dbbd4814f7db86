/- Contracts of lightshipref14 and the rest of package rto. -/
import Derived.Test.YtebhdefeggiihaaRto
namespace Go.Proofs.Ytebhdefeggiihaa
open Go.ChangeShapes Go.WideShapes Go.ChangeAt Go.RowKit
set_option linter.unusedVariables false

theorem res_ref (tm : Array Value) (w : World) (b : Nat) (m v n e : Value) (h : Blk w b #[m, v, n] 23) (h4 : tm.getD 4 undef = .pointer (some ⟨b, 0, none⟩)) (h5 : tm.getD 5 undef = e) :
    (results Try.f7 tm).run Try.prog w = .ok (.tuple #[.agg #[m, v, n], e]) w := by
  have c0 := h.cell 0
  have c1 := h.cell 1
  have c2 := h.cell 2
  simp at c0 c1 c2
  simp only [Array.getD_eq_getD_getElem?] at h4 h5
  simp [results, Try.results7, go_sem, h4, h5, c0, c1, c2]
theorem tp_mk {W w' : World} {m v n err m' v' n' : Int} (hm : m' = m) (hv : v' = v) (hn : n' = n) (hb : Below W.heap.size W w') :
    TakePost W m v n err (.returned (.tuple #[.agg #[.int .i64 m', .int .i64 v', .int .i64 n'], .int .i64 err])) w' := by
  subst hm hv hn; exact ⟨rfl, hb⟩

set_option maxRecDepth 100000 in
set_option maxHeartbeats 2000000 in
theorem ref_next (m v n s : Int) (h1 : 0 ≤ m ∧ m ≤ 1073741824) (h2 : 0 ≤ v ∧ v ≤ 1073741824) (h3 : 0 ≤ s ∧ s ≤ 1073741824) (h4 : 0 < n) (h5 : n ≤ 9223372036854775807) (w : World) :
    Calls Try.prog 7 #[.agg #[.int .i64 m, .int .i64 v, .int .i64 n], .int .i64 s] w (TakePost w (min (m + (s - m / 8)) 1073741824) (min (v + max (s - m / 8) (-(s - m / 8)) - v / 4) 1073741824) (min n 1073741823 + 1) 0) := by
  have k0 : (n == 0) = false := by simp; omega
  go_enter Try.func7, Try.ntmps7
  go_wp2
  all_goals refine bodyPost_ret (res_ref _ _ (w.heap.size + 1) _ _ _ _ (by refine Blk.new' ?_; simp) rfl rfl) rfl (tp_mk (by omega) (by omega) (by omega) (by go_grown))
set_option maxRecDepth 100000 in
set_option maxHeartbeats 2000000 in
theorem ref_first (m v s : Int) (h1 : 0 ≤ m ∧ m ≤ 1073741824) (h2 : 0 ≤ v ∧ v ≤ 1073741824) (h3 : 0 ≤ s ∧ s ≤ 1073741824) (w : World) :
    Calls Try.prog 7 #[.agg #[.int .i64 m, .int .i64 v, .int .i64 0], .int .i64 s] w (TakePost w (min (8 * s) 1073741824) (min (2 * s) 1073741824) 1 0) := by
  go_enter Try.func7, Try.ntmps7
  go_wp2
  all_goals refine bodyPost_ret (res_ref _ _ (w.heap.size + 1) _ _ _ _ (by refine Blk.new' ?_; simp) rfl rfl) rfl (tp_mk (by omega) (by omega) (by omega) (by go_grown))
set_option maxRecDepth 100000 in
set_option maxHeartbeats 4000000 in
theorem ref_bad (m v n s : Int) (h : okT m v n s = false) (w : World) :
    Calls Try.prog 7 #[.agg #[.int .i64 m, .int .i64 v, .int .i64 n], .int .i64 s] w (TakePost w 0 0 0 2) := by
  have hk : ¬ ((0 ≤ m ∧ m ≤ 1073741824) ∧ (0 ≤ v ∧ v ≤ 1073741824) ∧ (0 ≤ s ∧ s ≤ 1073741824) ∧ 0 ≤ n) := by rw [← okT_iff, h]; simp
  have HK := Lib.hid hk
  clear hk h
  by_cases c1 : s < 0
  all_goals by_cases c2 : 1073741824 < s
  all_goals by_cases c3 : m < 0
  all_goals by_cases c4 : 1073741824 < m
  all_goals by_cases c5 : v < 0
  all_goals by_cases c6 : 1073741824 < v
  all_goals by_cases c7 : n < 0
  all_goals try (exfalso; have := HK.out; omega)
  all_goals
    go_enter Try.func7, Try.ntmps7
    go_wp2
    refine bodyPost_ret (res_ref _ _ (w.heap.size + 1) _ _ _ _ (by refine Blk.new' ?_; simp) rfl rfl) rfl (tp_mk rfl rfl rfl (by go_grown))
theorem refTake_any (m v n s : Int) (hn : n ≤ 9223372036854775807) (w : World) :
    Calls Try.prog 7 #[.agg #[.int .i64 m, .int .i64 v, .int .i64 n], .int .i64 s] w (TakePost w (tM m v n s) (tV m v n s) (tN m v n s) (tE m v n s)) := by
  cases hk : okT m v n s with
  | false =>
    simp only [tM, tV, tN, tE, hk]
    exact ref_bad m v n s hk w
  | true =>
    obtain ⟨h1, h2, h3, h4⟩ := okT_iff.1 hk
    by_cases h0 : n = 0
    · subst h0
      simp only [tM, tV, tN, tE, hk]
      exact ref_first m v s h1 h2 h3 w
    · simp only [tM, tV, tN, tE, hk, h0]
      exact ref_next m v n s h1 h2 h3 (by omega) hn w
end Go.Proofs.Ytebhdefeggiihaa
