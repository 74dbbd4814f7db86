/- lightshipref34: read. -/
import Derived.Test.YtpojophpbggkcaaLo13
namespace Go.Proofs.Ytpojophpbggkcaa
open Go.ChangeShapes Go.WideShapes Go.ChangeAt Go.RowKit
set_option linter.unusedVariables false

set_option maxRecDepth 100000 in
set_option maxHeartbeats 4000000 in
theorem rread_none (s : ByteArray) (c br : Bool) (K S n : Int) (cb : ByteArray) (N : Int) (w : World) :
    Calls Try.prog 37 #[.agg #[.string s, .bool c], .bool br, .agg #[.int .i64 K, .int .i64 S, .int .i64 n, .string cb], .agg #[.int .i64 N, .string ⟨#[]⟩, .int .i64 0]] w (QSays w (s, c) 7) := by
  obtain ⟨body, hbd⟩ : ∃ body : ByteArray, body = ⟨#[]⟩ := ⟨_, rfl⟩
  go_enter Try.func37, Try.ntmps37
  go_wp2
  rw [← hbd]
  obtain ⟨q0, q1⟩ := q_last (((w.alloc (.cells #[.string s, .bool c] 54)).alloc (.cells #[.int .i64 K, .int .i64 S, .int .i64 n, .string cb] 36)).alloc (.cells #[.int .i64 N, .string body, .int .i64 0] 38)) (w.heap.size + 1 + 1 + 1) (by simp) s c 54
  refine bodyPost_ret (by simp [results, Try.results37, go_sem, q0, q1]; try rfl) rfl ?_
  exact ⟨rfl, Grow.alloc (Grow.alloc (Grow.alloc (Grow.alloc (Grow.rfl' w) _) _) _) _⟩
theorem q_set {w0 : World} {n : Nat} {x y : Value} {T : TypeId} (h : Blk w0 n #[x, y] T) (s : ByteArray) (c : Bool) : ((w0.setCell ⟨n, 0, none⟩ (.string s)).setCell ⟨n, 1, none⟩ (.bool c)).cell? ⟨n, 0, none⟩ = some (.string s) ∧ ((w0.setCell ⟨n, 0, none⟩ (.string s)).setCell ⟨n, 1, none⟩ (.bool c)).cell? ⟨n, 1, none⟩ = some (.bool c) := by
  have h2 := (h.set 0 (.string s)).set 1 (.bool c)
  exact ⟨h2.cell 0, h2.cell 1⟩
set_option maxRecDepth 100000 in
set_option maxHeartbeats 4000000 in
theorem rread_long (s : ByteArray) (c br : Bool) (K S n : Int) (cb body : ByteArray) (N : Int) (h0 : body.size ≠ 0) (h1 : s.size < body.size) (w : World) :
    Calls Try.prog 37 #[.agg #[.string s, .bool c], .bool br, .agg #[.int .i64 K, .int .i64 S, .int .i64 n, .string cb], .agg #[.int .i64 N, .string body, .int .i64 0]] w (QSays w (s, c) 16) := by
  have d1 : decide ((s.size : Int) < (body.size : Int)) = true := by rw [decide_eq_true_iff]; omega
  have hz0 : (((body.size : Nat) : Int) == 0) = false := by rw [beq_eq_false_iff_ne]; omega
  go_enter Try.func37, Try.ntmps37
  go_wp2
  go_quiet (fail)
  have hQ : Blk (World.drewN ((((w.alloc (.cells #[.string s, .bool c] 54)).alloc (.cells #[.int .i64 K, .int .i64 S, .int .i64 n, .string cb] 36)).alloc (.cells #[.int .i64 N, .string body, .int .i64 0] 38)).alloc (.cells #[.string ⟨#[]⟩, .bool false] 54)) nq) w.heap.size #[.string s, .bool c] 54 := (((Blk.new w _ _).alloc _).alloc _).alloc _
  have hR : Blk (World.drewN ((((w.alloc (.cells #[.string s, .bool c] 54)).alloc (.cells #[.int .i64 K, .int .i64 S, .int .i64 n, .string cb] 36)).alloc (.cells #[.int .i64 N, .string body, .int .i64 0] 38)).alloc (.cells #[.string ⟨#[]⟩, .bool false] 54)) nq) (w.heap.size + 1 + 1 + 1) #[.string ⟨#[]⟩, .bool false] 54 := Blk.new' (by simp)
  have hG : Grow w (World.drewN ((((w.alloc (.cells #[.string s, .bool c] 54)).alloc (.cells #[.int .i64 K, .int .i64 S, .int .i64 n, .string cb] 36)).alloc (.cells #[.int .i64 N, .string body, .int .i64 0] 38)).alloc (.cells #[.string ⟨#[]⟩, .bool false] 54)) nq) := bdrewN (Grow.alloc (Grow.alloc (Grow.alloc (Grow.alloc (Grow.rfl' w) _) _) _) _) _
  generalize World.drewN _ nq = wq at *
  have x0 := hQ.cell 0
  have x1 := hQ.cell 1
  have g0 := hQ.free 0
  have y0 := hR.cell 0
  have y1 := hR.cell 1
  have f0 := hR.free 0
  have f1 := hR.free 1
  simp at x0 x1 y0 y1
  have HQ := Lib.hid hQ
  have HR := Lib.hid hR
  have HG := Lib.hid hG
  clear hQ hR hG
  go_wp2
  obtain ⟨q0, q1⟩ := q_set HR.out s c
  refine bodyPost_ret (by simp [results, Try.results37, go_sem, q0, q1]; try rfl) rfl ?_
  exact ⟨rfl, ((HG.out.setCell (p := ⟨w.heap.size + 1 + 1 + 1, 0, none⟩) (by simp; omega) _).setCell (p := ⟨w.heap.size + 1 + 1 + 1, 1, none⟩) (by simp; omega) _)⟩
set_option maxRecDepth 100000 in
set_option maxHeartbeats 4000000 in
theorem rread_unlike (s : ByteArray) (c br : Bool) (K S n : Int) (cb body : ByteArray) (N : Int) (h0 : body.size ≠ 0) (h1 : body.size ≤ s.size) (h2 : s.extract 0 body.size ≠ body) (w : World) :
    Calls Try.prog 37 #[.agg #[.string s, .bool c], .bool br, .agg #[.int .i64 K, .int .i64 S, .int .i64 n, .string cb], .agg #[.int .i64 N, .string body, .int .i64 0]] w (QSays w (s, c) 16) := by
  have d1 : decide ((s.size : Int) < (body.size : Int)) = false := by rw [decide_eq_false_iff_not]; omega
  have d1n : decide (s.size < body.size) = false := by rw [decide_eq_false_iff_not]; omega
  have d2 : ((s.extract 0 body.size).toList == body.toList) = false := by rw [str_beq]; simp [h2]
  have hi : (body.size : Int) ≤ (s.size : Int) := by omega
  clear h2
  have hz0 : (((body.size : Nat) : Int) == 0) = false := by rw [beq_eq_false_iff_ne]; omega
  go_enter Try.func37, Try.ntmps37
  go_wp2
  go_quiet (fail)
  have hQ : Blk (World.drewN ((((w.alloc (.cells #[.string s, .bool c] 54)).alloc (.cells #[.int .i64 K, .int .i64 S, .int .i64 n, .string cb] 36)).alloc (.cells #[.int .i64 N, .string body, .int .i64 0] 38)).alloc (.cells #[.string ⟨#[]⟩, .bool false] 54)) nq) w.heap.size #[.string s, .bool c] 54 := (((Blk.new w _ _).alloc _).alloc _).alloc _
  have hR : Blk (World.drewN ((((w.alloc (.cells #[.string s, .bool c] 54)).alloc (.cells #[.int .i64 K, .int .i64 S, .int .i64 n, .string cb] 36)).alloc (.cells #[.int .i64 N, .string body, .int .i64 0] 38)).alloc (.cells #[.string ⟨#[]⟩, .bool false] 54)) nq) (w.heap.size + 1 + 1 + 1) #[.string ⟨#[]⟩, .bool false] 54 := Blk.new' (by simp)
  have hG : Grow w (World.drewN ((((w.alloc (.cells #[.string s, .bool c] 54)).alloc (.cells #[.int .i64 K, .int .i64 S, .int .i64 n, .string cb] 36)).alloc (.cells #[.int .i64 N, .string body, .int .i64 0] 38)).alloc (.cells #[.string ⟨#[]⟩, .bool false] 54)) nq) := bdrewN (Grow.alloc (Grow.alloc (Grow.alloc (Grow.alloc (Grow.rfl' w) _) _) _) _) _
  generalize World.drewN _ nq = wq at *
  have x0 := hQ.cell 0
  have x1 := hQ.cell 1
  have g0 := hQ.free 0
  have y0 := hR.cell 0
  have y1 := hR.cell 1
  have f0 := hR.free 0
  have f1 := hR.free 1
  simp at x0 x1 y0 y1
  have HQ := Lib.hid hQ
  have HR := Lib.hid hR
  have HG := Lib.hid hG
  clear hQ hR hG
  go_wp2
  obtain ⟨q0, q1⟩ := q_set HR.out s c
  refine bodyPost_ret (by simp [results, Try.results37, go_sem, q0, q1]; try rfl) rfl ?_
  exact ⟨rfl, ((HG.out.setCell (p := ⟨w.heap.size + 1 + 1 + 1, 0, none⟩) (by simp; omega) _).setCell (p := ⟨w.heap.size + 1 + 1 + 1, 1, none⟩) (by simp; omega) _)⟩
set_option maxRecDepth 100000 in
set_option maxHeartbeats 4000000 in
theorem rread_short (s : ByteArray) (c br : Bool) (K S n : Int) (cb body : ByteArray) (N : Int) (h0 : body.size ≠ 0) (h1 : body.size ≤ s.size) (h2 : s.extract 0 body.size = body) (h3 : n < (body.size : Int)) (w : World) :
    Calls Try.prog 37 #[.agg #[.string s, .bool c], .bool br, .agg #[.int .i64 K, .int .i64 S, .int .i64 n, .string cb], .agg #[.int .i64 N, .string body, .int .i64 0]] w (QSays w (s, c) 16) := by
  have d1 : decide ((s.size : Int) < (body.size : Int)) = false := by rw [decide_eq_false_iff_not]; omega
  have d1n : decide (s.size < body.size) = false := by rw [decide_eq_false_iff_not]; omega
  have d2 : ((s.extract 0 body.size).toList == body.toList) = true := by rw [str_beq]; simp [h2]
  have d3 : decide (n < (body.size : Int)) = true := by rw [decide_eq_true_iff]; exact h3
  have hi : (body.size : Int) ≤ (s.size : Int) := by omega
  clear h2
  have hz0 : (((body.size : Nat) : Int) == 0) = false := by rw [beq_eq_false_iff_ne]; omega
  go_enter Try.func37, Try.ntmps37
  go_wp2
  go_quiet (fail)
  have hQ : Blk (World.drewN ((((w.alloc (.cells #[.string s, .bool c] 54)).alloc (.cells #[.int .i64 K, .int .i64 S, .int .i64 n, .string cb] 36)).alloc (.cells #[.int .i64 N, .string body, .int .i64 0] 38)).alloc (.cells #[.string ⟨#[]⟩, .bool false] 54)) nq) w.heap.size #[.string s, .bool c] 54 := (((Blk.new w _ _).alloc _).alloc _).alloc _
  have hR : Blk (World.drewN ((((w.alloc (.cells #[.string s, .bool c] 54)).alloc (.cells #[.int .i64 K, .int .i64 S, .int .i64 n, .string cb] 36)).alloc (.cells #[.int .i64 N, .string body, .int .i64 0] 38)).alloc (.cells #[.string ⟨#[]⟩, .bool false] 54)) nq) (w.heap.size + 1 + 1 + 1) #[.string ⟨#[]⟩, .bool false] 54 := Blk.new' (by simp)
  have hG : Grow w (World.drewN ((((w.alloc (.cells #[.string s, .bool c] 54)).alloc (.cells #[.int .i64 K, .int .i64 S, .int .i64 n, .string cb] 36)).alloc (.cells #[.int .i64 N, .string body, .int .i64 0] 38)).alloc (.cells #[.string ⟨#[]⟩, .bool false] 54)) nq) := bdrewN (Grow.alloc (Grow.alloc (Grow.alloc (Grow.alloc (Grow.rfl' w) _) _) _) _) _
  generalize World.drewN _ nq = wq at *
  have x0 := hQ.cell 0
  have x1 := hQ.cell 1
  have g0 := hQ.free 0
  have y0 := hR.cell 0
  have y1 := hR.cell 1
  have f0 := hR.free 0
  have f1 := hR.free 1
  simp at x0 x1 y0 y1
  have HQ := Lib.hid hQ
  have HR := Lib.hid hR
  have HG := Lib.hid hG
  clear hQ hR hG
  go_wp2
  obtain ⟨q0, q1⟩ := q_set HR.out s c
  refine bodyPost_ret (by simp [results, Try.results37, go_sem, q0, q1]; try rfl) rfl ?_
  exact ⟨rfl, ((HG.out.setCell (p := ⟨w.heap.size + 1 + 1 + 1, 0, none⟩) (by simp; omega) _).setCell (p := ⟨w.heap.size + 1 + 1 + 1, 1, none⟩) (by simp; omega) _)⟩
set_option maxRecDepth 100000 in
set_option maxHeartbeats 4000000 in
theorem rread_ok (s : ByteArray) (c br : Bool) (K S n : Int) (cb body : ByteArray) (N : Int) (h0 : body.size ≠ 0) (h1 : body.size ≤ s.size) (h2 : s.extract 0 body.size = body) (h3 : ¬ n < (body.size : Int)) (w : World) :
    Calls Try.prog 37 #[.agg #[.string s, .bool c], .bool br, .agg #[.int .i64 K, .int .i64 S, .int .i64 n, .string cb], .agg #[.int .i64 N, .string body, .int .i64 0]] w (QSays w (s.extract body.size s.size, c) 0) := by
  have d1 : decide ((s.size : Int) < (body.size : Int)) = false := by rw [decide_eq_false_iff_not]; omega
  have d1n : decide (s.size < body.size) = false := by rw [decide_eq_false_iff_not]; omega
  have d2 : ((s.extract 0 body.size).toList == body.toList) = true := by rw [str_beq]; simp [h2]
  have d3 : decide (n < (body.size : Int)) = false := by rw [decide_eq_false_iff_not]; exact h3
  have hi : (body.size : Int) ≤ (s.size : Int) := by omega
  clear h2
  have hz0 : (((body.size : Nat) : Int) == 0) = false := by rw [beq_eq_false_iff_ne]; omega
  go_enter Try.func37, Try.ntmps37
  go_wp2
  go_quiet (fail)
  have hQ : Blk (World.drewN ((((w.alloc (.cells #[.string s, .bool c] 54)).alloc (.cells #[.int .i64 K, .int .i64 S, .int .i64 n, .string cb] 36)).alloc (.cells #[.int .i64 N, .string body, .int .i64 0] 38)).alloc (.cells #[.string ⟨#[]⟩, .bool false] 54)) nq) w.heap.size #[.string s, .bool c] 54 := (((Blk.new w _ _).alloc _).alloc _).alloc _
  have hR : Blk (World.drewN ((((w.alloc (.cells #[.string s, .bool c] 54)).alloc (.cells #[.int .i64 K, .int .i64 S, .int .i64 n, .string cb] 36)).alloc (.cells #[.int .i64 N, .string body, .int .i64 0] 38)).alloc (.cells #[.string ⟨#[]⟩, .bool false] 54)) nq) (w.heap.size + 1 + 1 + 1) #[.string ⟨#[]⟩, .bool false] 54 := Blk.new' (by simp)
  have hG : Grow w (World.drewN ((((w.alloc (.cells #[.string s, .bool c] 54)).alloc (.cells #[.int .i64 K, .int .i64 S, .int .i64 n, .string cb] 36)).alloc (.cells #[.int .i64 N, .string body, .int .i64 0] 38)).alloc (.cells #[.string ⟨#[]⟩, .bool false] 54)) nq) := bdrewN (Grow.alloc (Grow.alloc (Grow.alloc (Grow.alloc (Grow.rfl' w) _) _) _) _) _
  generalize World.drewN _ nq = wq at *
  have x0 := hQ.cell 0
  have x1 := hQ.cell 1
  have g0 := hQ.free 0
  have y0 := hR.cell 0
  have y1 := hR.cell 1
  have f0 := hR.free 0
  have f1 := hR.free 1
  simp at x0 x1 y0 y1
  have HQ := Lib.hid hQ
  have HR := Lib.hid hR
  have HG := Lib.hid hG
  clear hQ hR hG
  go_wp2
  obtain ⟨q0, q1⟩ := q_set (HR.out.other ⟨w.heap.size, 0, none⟩ (by simp; omega) (.string (s.extract body.size s.size))) (s.extract body.size s.size) c
  refine bodyPost_ret (by simp [results, Try.results37, go_sem, q0, q1]; try rfl) rfl ?_
  exact ⟨rfl, (((HG.out.setCell (p := ⟨w.heap.size, 0, none⟩) (by simp) _).setCell (p := ⟨w.heap.size + 1 + 1 + 1, 0, none⟩) (by simp; omega) _).setCell (p := ⟨w.heap.size + 1 + 1 + 1, 1, none⟩) (by simp; omega) _)⟩
theorem rread_is (v : ByteArray × Bool) (br : Bool) (K S n : Int) (cb body : ByteArray) (N : Int) (w : World) :
    Calls Try.prog 37 #[qV v, .bool br, .agg #[.int .i64 K, .int .i64 S, .int .i64 n, .string cb], .agg #[.int .i64 N, .string body, .int .i64 0]] w (QSays w (rdS v.1 body n, v.2) (rdK v.1 body n)) := by
  obtain ⟨s, c⟩ := v
  unfold qV rdS
  dsimp only
  by_cases hz : body.size = 0
  · obtain rfl := str_empty body hz
    have e : rdK s ⟨#[]⟩ n = 7 := by unfold rdK; rw [if_pos hz]
    rw [e, if_neg (by decide)]
    exact rread_none s c br K S n cb N w
  · by_cases h1 : body.size ≤ s.size
    · by_cases h2 : s.extract 0 body.size = body
      · have hp : isPre s body = true := by unfold isPre; simp [h1, h2]
        by_cases h3 : n < (body.size : Int)
        · have e : rdK s body n = 16 := by unfold rdK; rw [if_neg hz, if_pos (.inr h3)]
          rw [e, if_neg (by decide)]
          exact rread_short s c br K S n cb body N hz h1 h2 h3 w
        · have e : rdK s body n = 0 := by unfold rdK; rw [if_neg hz, if_neg (by rw [hp]; simp; omega)]
          rw [e, if_pos rfl]
          exact rread_ok s c br K S n cb body N hz h1 h2 h3 w
      · have hp : isPre s body = false := by unfold isPre; simp [h2]
        have e : rdK s body n = 16 := by unfold rdK; rw [if_neg hz, if_pos (.inl hp)]
        rw [e, if_neg (by decide)]
        exact rread_unlike s c br K S n cb body N hz h1 h2 w
    · have hp : isPre s body = false := by unfold isPre; simp; omega
      have e : rdK s body n = 16 := by unfold rdK; rw [if_neg hz, if_pos (.inl hp)]
      rw [e, if_neg (by decide)]
      exact rread_long s c br K S n cb body N hz (by omega) w
end Go.Proofs.Ytpojophpbggkcaa
