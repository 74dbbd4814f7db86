/- lightshipref34: write, read. -/
import Derived.Test.YtpojophpbggkcaaLo12
namespace Go.Proofs.Ytpojophpbggkcaa
open Go.ChangeShapes Go.WideShapes Go.ChangeAt Go.RowKit
set_option linter.unusedVariables false

def qV (v : ByteArray × Bool) : Value := .agg #[.string v.1, .bool v.2]
def QSays (W : World) (v : ByteArray × Bool) (k : Int) (e : Ending) (w' : World) : Prop := e = .returned (.tuple #[qV v, .int .i64 k]) ∧ Below W.heap.size W w'
theorem q_last (w0 : World) (n : Nat) (hn : n = w0.heap.size) (s : ByteArray) (c : Bool) (T : TypeId) : (w0.alloc (.cells #[.string s, .bool c] T)).cell? ⟨n, 0, none⟩ = some (.string s) ∧ (w0.alloc (.cells #[.string s, .bool c] T)).cell? ⟨n, 1, none⟩ = some (.bool c) := by
  subst hn
  exact ⟨(Blk.new w0 _ T).cell 0, (Blk.new w0 _ T).cell 1⟩
set_option maxRecDepth 100000 in
set_option maxHeartbeats 2000000 in
theorem rwrite_long (s : ByteArray) (c : Bool) (K S N0 an : Int) (body ab : ByteArray) (er : Int) (h1 : an < 0 ∨ (body.size : Int) < an) (w : World) :
    Calls Try.prog 36 #[.agg #[.string s, .bool c], .agg #[.int .i64 K, .int .i64 S, .int .i64 N0, .string body], .agg #[.int .i64 an, .string ab, .int .i64 er]] w (QSays w (s, c) 3) := by
  by_cases h2 : an < 0
  · go_enter Try.func36, Try.ntmps36
    go_wp2
    obtain ⟨q0, q1⟩ := q_last (((w.alloc (.cells #[.string s, .bool c] 54)).alloc (.cells #[.int .i64 K, .int .i64 S, .int .i64 N0, .string body] 36)).alloc (.cells #[.int .i64 an, .string ab, .int .i64 er] 38)) (w.heap.size + 1 + 1 + 1) (by simp) s c 54
    refine bodyPost_ret (by simp [results, Try.results36, go_sem, q0, q1]; try rfl) rfl ?_
    exact ⟨rfl, Grow.alloc (Grow.alloc (Grow.alloc (Grow.alloc (Grow.rfl' w) _) _) _) _⟩
  · have h3 : (body.size : Int) < an := by omega
    clear h1
    go_enter Try.func36, Try.ntmps36
    go_wp2
    obtain ⟨q0, q1⟩ := q_last (((w.alloc (.cells #[.string s, .bool c] 54)).alloc (.cells #[.int .i64 K, .int .i64 S, .int .i64 N0, .string body] 36)).alloc (.cells #[.int .i64 an, .string ab, .int .i64 er] 38)) (w.heap.size + 1 + 1 + 1) (by simp) s c 54
    refine bodyPost_ret (by simp [results, Try.results36, go_sem, q0, q1]; try rfl) rfl ?_
    exact ⟨rfl, Grow.alloc (Grow.alloc (Grow.alloc (Grow.alloc (Grow.rfl' w) _) _) _) _⟩
set_option maxRecDepth 100000 in
set_option maxHeartbeats 2000000 in
theorem rwrite_closed (s : ByteArray) (K S N0 : Int) (body ab : ByteArray) (N : Nat) (er : Int) (hN : N ≤ body.size) (h0 : N ≠ 0) (hb : body.size ≤ 1000000) (w : World) :
    Calls Try.prog 36 #[.agg #[.string s, .bool true], .agg #[.int .i64 K, .int .i64 S, .int .i64 N0, .string body], .agg #[.int .i64 (N : Int), .string ab, .int .i64 er]] w (QSays w (s, true) 11) := by
  obtain ⟨c, hc⟩ : ∃ c, c = true := ⟨_, rfl⟩
  have d1 : decide ((N : Int) < 0) = false := by rw [decide_eq_false_iff_not]; omega
  have d2 : decide ((body.size : Int) < (N : Int)) = false := by rw [decide_eq_false_iff_not]; omega
  have d3 : ((N : Int) != 0) = true := by rw [bne_iff_ne]; omega
  go_enter Try.func36, Try.ntmps36
  go_wp2
  rw [← hc]
  obtain ⟨q0, q1⟩ := q_last (((w.alloc (.cells #[.string s, .bool c] 54)).alloc (.cells #[.int .i64 K, .int .i64 S, .int .i64 N0, .string body] 36)).alloc (.cells #[.int .i64 (N : Int), .string ab, .int .i64 er] 38)) (w.heap.size + 1 + 1 + 1) (by simp) s c 54
  refine bodyPost_ret (by simp [results, Try.results36, go_sem, q0, q1]; try rfl) rfl ?_
  exact ⟨rfl, Grow.alloc (Grow.alloc (Grow.alloc (Grow.alloc (Grow.rfl' w) _) _) _) _⟩
set_option maxRecDepth 100000 in
set_option maxHeartbeats 2000000 in
theorem rwrite_ok (s : ByteArray) (K S N0 : Int) (body ab : ByteArray) (N : Nat) (er : Int) (hN : N ≤ body.size) (hb : body.size ≤ 1000000) (hs : s.size ≤ 1000000) (w : World) :
    Calls Try.prog 36 #[.agg #[.string s, .bool false], .agg #[.int .i64 K, .int .i64 S, .int .i64 N0, .string body], .agg #[.int .i64 (N : Int), .string ab, .int .i64 er]] w (QSays w (s ++ body.extract 0 N, false) 0) := by
  have d1 : decide ((N : Int) < 0) = false := by rw [decide_eq_false_iff_not]; omega
  have d2 : decide ((body.size : Int) < (N : Int)) = false := by rw [decide_eq_false_iff_not]; omega
  have hi : (N : Int) ≤ (body.size : Int) := by omega
  have hadd : ¬ 9223372036854775807 < s.size + N := by omega
  go_enter Try.func36, Try.ntmps36
  go_wp2
  go_region
  go_wp2
  obtain ⟨t, ht⟩ : ∃ t, t = s ++ body.extract 0 N := ⟨_, rfl⟩
  rw [← ht]
  obtain ⟨q0, q1⟩ := q_last (((w.alloc (.cells #[.string t, .bool false] 54)).alloc (.cells #[.int .i64 K, .int .i64 S, .int .i64 N0, .string body] 36)).alloc (.cells #[.int .i64 (N : Int), .string ab, .int .i64 er] 38)) (w.heap.size + 1 + 1 + 1) (by simp) t false 54
  refine bodyPost_ret (by simp [results, Try.results36, go_sem, q0, q1]; try rfl) rfl ?_
  exact ⟨rfl, Grow.drew (Grow.alloc (Grow.alloc (Grow.alloc (Grow.alloc (Grow.rfl' w) _) _) _) _)⟩
set_option maxRecDepth 100000 in
set_option maxHeartbeats 2000000 in
theorem rwrite_zero (s : ByteArray) (K S N0 : Int) (body ab : ByteArray) (er : Int) (hb : body.size ≤ 1000000) (hs : s.size ≤ 1000000) (w : World) :
    Calls Try.prog 36 #[.agg #[.string s, .bool true], .agg #[.int .i64 K, .int .i64 S, .int .i64 N0, .string body], .agg #[.int .i64 0, .string ab, .int .i64 er]] w (QSays w (s ++ body.extract 0 0, true) 0) := by
  have HT : s ++ body.extract 0 0 = s := by simp
  rw [HT]
  clear HT
  have d2 : decide ((body.size : Int) < 0) = false := by rw [decide_eq_false_iff_not]; omega
  have hi : (0 : Int) ≤ (body.size : Int) := by omega
  have hadd : ¬ 9223372036854775807 < s.size := by omega
  go_enter Try.func36, Try.ntmps36
  go_wp2
  go_region
  go_wp2
  obtain ⟨q0, q1⟩ := q_last (((w.alloc (.cells #[.string s, .bool true] 54)).alloc (.cells #[.int .i64 K, .int .i64 S, .int .i64 N0, .string body] 36)).alloc (.cells #[.int .i64 0, .string ab, .int .i64 er] 38)) (w.heap.size + 1 + 1 + 1) (by simp) s true 54
  refine bodyPost_ret (by simp [results, Try.results36, go_sem, q0, q1]; try rfl) rfl ?_
  exact ⟨rfl, Grow.drew (Grow.alloc (Grow.alloc (Grow.alloc (Grow.alloc (Grow.rfl' w) _) _) _) _)⟩
theorem rwrite_is (v : ByteArray × Bool) (K S N0 an : Int) (body ab : ByteArray) (er : Int) (hb : body.size ≤ 1000000) (hs : v.1.size ≤ 1000000) (w : World) :
    Calls Try.prog 36 #[qV v, .agg #[.int .i64 K, .int .i64 S, .int .i64 N0, .string body], .agg #[.int .i64 an, .string ab, .int .i64 er]] w (QSays w (wrS v body an) (wrK v body an)) := by
  obtain ⟨s, c⟩ := v
  dsimp only at hs
  by_cases h1 : an < 0 ∨ (body.size : Int) < an
  · have e : wrK (s, c) body an = 3 := by unfold wrK; rw [if_pos h1]
    have e2 : wrS (s, c) body an = (s, c) := by unfold wrS; rw [e, if_neg (by decide)]
    rw [e, e2]
    exact rwrite_long s c K S N0 an body ab er h1 w
  · obtain ⟨N, rfl⟩ : ∃ N : Nat, an = (N : Int) := ⟨an.toNat, by omega⟩
    cases c with
    | false =>
      have e : wrK (s, false) body N = 0 := by unfold wrK; rw [if_neg h1, if_neg (by simp)]
      have e2 : wrS (s, false) body N = (s ++ body.extract 0 N, false) := by unfold wrS; rw [e, if_pos rfl]; simp
      rw [e, e2]
      exact rwrite_ok s K S N0 body ab N er (by omega) hb hs w
    | true =>
      by_cases h0 : N = 0
      · subst h0
        have e : wrK (s, true) body ((0 : Nat) : Int) = 0 := by unfold wrK; rw [if_neg h1, if_neg (by simp)]
        have e2 : wrS (s, true) body ((0 : Nat) : Int) = (s ++ body.extract 0 0, true) := by unfold wrS; rw [e, if_pos rfl]; simp
        rw [e, e2]
        exact rwrite_zero s K S N0 body ab er hb hs w
      · have e : wrK (s, true) body N = 11 := by unfold wrK; rw [if_neg h1, if_pos ⟨rfl, by omega⟩]
        have e2 : wrS (s, true) body N = (s, true) := by unfold wrS; rw [e, if_neg (by decide)]
        rw [e, e2]
        exact rwrite_closed s K S N0 body ab N er (by omega) h0 hb w
set_option maxRecDepth 100000 in
set_option maxHeartbeats 4000000 in
theorem rread_eof (v : ByteArray × Bool) (br : Bool) (K S n : Int) (cb body : ByteArray) (N : Int) (w : World) :
    Calls Try.prog 37 #[qV v, .bool br, .agg #[.int .i64 K, .int .i64 S, .int .i64 n, .string cb], .agg #[.int .i64 N, .string body, .int .i64 13]] w (QSays w v (enK v br)) := by
  obtain ⟨s, c⟩ := v
  unfold qV
  dsimp only
  by_cases hz : s.size = 0
  · obtain rfl := str_empty s hz
    cases c with
    | true =>
      go_enter Try.func37, Try.ntmps37
      go_wp2
      obtain ⟨q0, q1⟩ := q_last (((w.alloc (.cells #[.string ⟨#[]⟩, .bool true] 54)).alloc (.cells #[.int .i64 K, .int .i64 S, .int .i64 n, .string cb] 36)).alloc (.cells #[.int .i64 N, .string body, .int .i64 13] 38)) (w.heap.size + 1 + 1 + 1) (by simp) ⟨#[]⟩ true 54
      refine bodyPost_ret (by simp [results, Try.results37, go_sem, q0, q1]; try rfl) rfl ?_
      exact ⟨rfl, Grow.alloc (Grow.alloc (Grow.alloc (Grow.alloc (Grow.rfl' w) _) _) _) _⟩
    | false =>
      cases br with
      | true =>
        go_enter Try.func37, Try.ntmps37
        go_wp2
        obtain ⟨q0, q1⟩ := q_last (((w.alloc (.cells #[.string ⟨#[]⟩, .bool false] 54)).alloc (.cells #[.int .i64 K, .int .i64 S, .int .i64 n, .string cb] 36)).alloc (.cells #[.int .i64 N, .string body, .int .i64 13] 38)) (w.heap.size + 1 + 1 + 1) (by simp) ⟨#[]⟩ false 54
        refine bodyPost_ret (by simp [results, Try.results37, go_sem, q0, q1]; try rfl) rfl ?_
        exact ⟨rfl, Grow.alloc (Grow.alloc (Grow.alloc (Grow.alloc (Grow.rfl' w) _) _) _) _⟩
      | false =>
        go_enter Try.func37, Try.ntmps37
        go_wp2
        obtain ⟨q0, q1⟩ := q_last (((w.alloc (.cells #[.string ⟨#[]⟩, .bool false] 54)).alloc (.cells #[.int .i64 K, .int .i64 S, .int .i64 n, .string cb] 36)).alloc (.cells #[.int .i64 N, .string body, .int .i64 13] 38)) (w.heap.size + 1 + 1 + 1) (by simp) ⟨#[]⟩ false 54
        refine bodyPost_ret (by simp [results, Try.results37, go_sem, q0, q1]; try rfl) rfl ?_
        exact ⟨rfl, Grow.alloc (Grow.alloc (Grow.alloc (Grow.alloc (Grow.rfl' w) _) _) _) _⟩
  · have hne := str_full s hz
    have hnb : (s.toList != []) = true := by
      rw [bne_iff_ne]
      intro e; rw [e] at hne; cases hne
    have e : enK (s, c) br = 10 := by unfold enK; rw [if_neg (fun h => hz h.1)]
    rw [e]
    clear e hz
    go_enter Try.func37, Try.ntmps37
    go_wp2
    obtain ⟨q0, q1⟩ := q_last (((w.alloc (.cells #[.string s, .bool c] 54)).alloc (.cells #[.int .i64 K, .int .i64 S, .int .i64 n, .string cb] 36)).alloc (.cells #[.int .i64 N, .string body, .int .i64 13] 38)) (w.heap.size + 1 + 1 + 1) (by simp) s c 54
    refine bodyPost_ret (by simp [results, Try.results37, go_sem, q0, q1]; try rfl) rfl ?_
    exact ⟨rfl, Grow.alloc (Grow.alloc (Grow.alloc (Grow.alloc (Grow.rfl' w) _) _) _) _⟩
end Go.Proofs.Ytpojophpbggkcaa
