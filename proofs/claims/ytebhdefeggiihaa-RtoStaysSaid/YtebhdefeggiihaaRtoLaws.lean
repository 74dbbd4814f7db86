/- The walks of lightshiplaw14's awake, RtoTakes and RtoBacks. -/
import Derived.Test.YtebhdefeggiihaaRtoTime
import Derived.Test.YtebhdefeggiihaaOpen
namespace Go.Proofs.Ytebhdefeggiihaa
open Go.ChangeShapes Go.WideShapes Go.ChangeAt Go.RowKit
set_option linter.unusedVariables false

theorem rtt_eq (a b c x y z : Int) (w : World) : (binOp .eql 23 (.agg #[.int .i64 a, .int .i64 b, .int .i64 c]) (.agg #[.int .i64 x, .int .i64 y, .int .i64 z])).run Try.prog w = .ok (.bool (decide (a = x ∧ b = y ∧ c = z))) w := by
  rw [run_eql_struct, run_equalIn_agg _ _ _ _ _ (by kernel_rfl) (by kernel_rfl), eqFields_eqF _ _ _ _ (by kernel_rfl)]
  have hf : ((Try.prog.fieldsOf 23).toList.map fun f => (f.type, f.offset)) = [(3, 0), (3, 1), (3, 2)] := by kernel_rfl
  rw [hf]
  have hp : ∀ (c0 c1 c2 : Value) (w : World), (part 3 #[c0, c1, c2] 0).run Try.prog w = .ok c0 w := fun c0 c1 c2 w => by kernel_rfl
  have hp1 : ∀ (c0 c1 c2 : Value) (w : World), (part 3 #[c0, c1, c2] 1).run Try.prog w = .ok c1 w := fun c0 c1 c2 w => by kernel_rfl
  have hp2 : ∀ (c0 c1 c2 : Value) (w : World), (part 3 #[c0, c1, c2] 2).run Try.prog w = .ok c2 w := fun c0 c1 c2 w => by kernel_rfl
  have hu : Try.prog.underlying 3 = some (.int .i64) := by kernel_rfl
  simp [eqF, hp, hp1, hp2, run_equalIn_int _ _ _ _ _ _ _ hu]
  by_cases h1 : a = x <;> by_cases h2 : b = y <;> by_cases h3 : c = z <;> simp [h1, h2, h3]
theorem rtt_guard (a b c x y z : Int) (w : World) (p q : Operand) : (eqGuard .eql 23 p q (.agg #[.int .i64 a, .int .i64 b, .int .i64 c]) (.agg #[.int .i64 x, .int .i64 y, .int .i64 z])).run Try.prog w = .ok () w := by kernel_rfl

theorem take_at (m v n s m' v' n' e' : Int) (hn : n ≤ 9223372036854775807) (h1 : tM m v n s = m') (h2 : tV m v n s = v') (h3 : tN m v n s = n') (h4 : tE m v n s = e') (w : World) :
    Calls Try.prog 6 #[.agg #[.int .i64 m, .int .i64 v, .int .i64 n], .int .i64 s] w (TakePost w m' v' n' e') := by
  subst h1 h2 h3 h4; exact take_any m v n s hn w
theorem timeout_at (m v n l x : Int) (hm : m ≤ 9223372036854775807) (hv : v ≤ 9223372036854775807) (h : tmo m v n l = x) (w : World) :
    Calls Try.prog 8 #[.agg #[.int .i64 m, .int .i64 v, .int .i64 n], .int .i64 l] w (TimePost w x) := by
  subst h; exact timeout_any m v n l hm hv w
theorem backoff_at (l t x : Int) (ht : t ≤ 9223372036854775807) (hb : -9223372036854775808 ≤ t) (h : bko l t = x) (w : World) :
    Calls Try.prog 11 #[.int .i64 l, .int .i64 t] w fun e w' => e = .returned (.int .i64 x) ∧ w = w' := by
  subst h; exact backoff_any l t ht hb w
def TruePost (W : World) (e : Ending) (w' : World) : Prop := e = .returned (.bool true) ∧ Below W.heap.size W w'
set_option maxRecDepth 100000 in
set_option maxHeartbeats 4000000 in
theorem awake_true (w : World) : Calls Try.prog 10 #[] w (TruePost w) := by
  have q1 := rtt_eq
  have q2 := rtt_guard
  go_enter Try.func10, Try.ntmps10
  go_wp2_with fail
  refine (take_at 0 0 0 10 80 20 1 0 (by omega) (by decide) (by decide) (by decide) (by decide) _).mono ?_
  rintro e w1 ⟨rfl, hb1⟩
  go_wp2_with fail
  refine (take_at 80 20 1 18 88 23 2 0 (by omega) (by decide) (by decide) (by decide) (by decide) _).mono ?_
  rintro e w2 ⟨rfl, hb2⟩
  have A2 := (Blk.new w1 #[.int .i64 80, .int .i64 20, .int .i64 1] 23).below hb2 (by simp)
  have z2 : w1.heap.size < w2.heap.size := by have := hb2.size; simp at this; omega
  obtain ⟨a0, a1, a2⟩ := A2.three
  go_wp2_with fail
  refine (take_at 80 20 1 (-1) 0 0 0 2 (by omega) (by decide) (by decide) (by decide) (by decide) _).mono ?_
  rintro e w3 ⟨rfl, hb3⟩
  have A3 := (A2.alloc _).below hb3 (by simp; omega)
  have C3 := (Blk.new w2 #[.int .i64 88, .int .i64 23, .int .i64 2] 23).below hb3 (by simp)
  have z3 : w2.heap.size < w3.heap.size := by have := hb3.size; simp at this; omega
  have z31 : w1.heap.size < w3.heap.size := by omega
  obtain ⟨d0, d1, d2⟩ := A3.three
  obtain ⟨e0, e1, e2⟩ := C3.three
  go_wp2_with fail
  refine (backoff_at 3 2 12 (by omega) (by omega) (by decide) _).mono ?_
  rintro e w' ⟨rfl, rfl⟩
  go_wp2_with fail
  refine (backoff_at 0 (-1) 1 (by omega) (by omega) (by decide) _).mono ?_
  rintro e w' ⟨rfl, rfl⟩
  go_wp2_with fail
  refine (backoff_at 1 99 1048576 (by omega) (by omega) (by decide) _).mono ?_
  rintro e w' ⟨rfl, rfl⟩
  go_wp2_with fail
  refine (timeout_at 80 20 1 1 30 (by omega) (by omega) (by decide) _).mono ?_
  rintro e w4 ⟨rfl, hb4⟩
  have A4 := (A3.alloc _).below hb4 (by simp; omega)
  obtain ⟨g0, g1, g2⟩ := A4.three
  go_wp2_with fail
  refine (timeout_at 80 20 1 50 50 (by omega) (by omega) (by decide) _).mono ?_
  rintro e w5 ⟨rfl, hb5⟩
  go_wp2_with fail
  refine (timeout_at 0 0 0 7 7 (by omega) (by omega) (by decide) _).mono ?_
  rintro e w6 ⟨rfl, hb6⟩
  go_wp2_with fail
  go_ret
  have z4 := hb4.size
  have z5 := hb5.size
  simp at z4
  refine ⟨rfl, ?_⟩
  have s1 : Below w.heap.size w w1 := hb1
  have s2 : Below w.heap.size w w2 := (s1.alloc hb1.size _).trans (hb2.mono (by simp; have := hb1.size; omega))
  have s3 : Below w.heap.size w w3 := (s2.alloc s2.size _).trans (hb3.mono (by simp; have := s2.size; omega))
  have s4 : Below w.heap.size w w4 := (s3.alloc s3.size _).trans (hb4.mono (by simp; have := s3.size; omega))
  have s5 : Below w.heap.size w w5 := s4.trans (hb5.mono s4.size)
  exact s5.trans (hb6.mono s5.size)

/-- RtoBacks, at every input. -/
theorem backs_all (l t : Int) (h1 : -9223372036854775808 ≤ t) (h2 : t ≤ 9223372036854775807) (w : World) :
    Calls Try.prog 4 #[.int .i64 l, .int .i64 t] w (TruePost w) := by
  have hl := lst_bd l
  have hb := bk_bd t.toNat (lst l) hl.1 hl.2
  have hb' : lst l ≤ bko l t ∧ bko l t ≤ 1048576 := hb
  have hle : t ≤ 0 → bko l t ≤ bko l (max t 1) := by
    intro h
    rw [Int.max_eq_right (by omega)]
    unfold bko
    rw [show t.toNat = 0 by omega]
    have := bk_bd 1 (lst l) hl.1 hl.2
    simpa [bk] using this.1
  clear hb
  by_cases ht : 1 ≤ t
  · have e : max t 1 = t := by omega
    clear hle
    go_enter Try.func4, Try.ntmps4
    go_wp2_with (first | (go_at_call 11; refine (backoff_any _ _ (by omega) (by omega) _).mono ?_; rintro e w' ⟨rfl, rfl⟩) | (go_at_call 12; refine (refBackoff_any _ _ (by omega) (by omega) _).mono ?_; rintro e w' ⟨rfl, rfl⟩) | (go_at_call 10; refine (awake_true _).mono ?_; rintro e w2 ⟨rfl, hb2⟩))
    go_ret
    exact ⟨rfl, hb2⟩
  · have hle := hle (by omega)
    rw [Int.max_eq_right (by omega)] at hle
    have hb2 := bk_bd (Int.toNat 1) (lst l) hl.1 hl.2
    have hb3 : lst l ≤ bko l 1 ∧ bko l 1 ≤ 1048576 := hb2
    clear hb2
    go_enter Try.func4, Try.ntmps4
    go_wp2_with (first | (go_at_call 11; refine (backoff_any _ _ (by omega) (by omega) _).mono ?_; rintro e w' ⟨rfl, rfl⟩) | (go_at_call 12; refine (refBackoff_any _ _ (by omega) (by omega) _).mono ?_; rintro e w' ⟨rfl, rfl⟩) | (go_at_call 10; refine (awake_true _).mono ?_; rintro e w2 ⟨rfl, hb2⟩))
    go_ret
    exact ⟨rfl, hb2⟩

set_option maxRecDepth 100000 in
set_option maxHeartbeats 4000000 in
/-- RtoTakes, at every input. -/
theorem takes_all (m v n s l : Int) (hm : m ≤ 9223372036854775807) (hv : v ≤ 9223372036854775807) (hn : n ≤ 9223372036854775807) (w : World) :
    Calls Try.prog 3 #[.agg #[.int .i64 m, .int .i64 v, .int .i64 n], .int .i64 s, .int .i64 l] w (TruePost w) := by
  have q1 := rtt_eq
  have q2 := rtt_guard
  go_enter Try.func3, Try.ntmps3
  go_wp2_with fail
  refine (take_any m v n s hn _).mono ?_
  rintro e w1 ⟨rfl, hb1⟩
  have A1 := (Blk.new w #[.int .i64 m, .int .i64 v, .int .i64 n] 23).below hb1 (by simp)
  have z1 : w.heap.size < w1.heap.size := by have := hb1.size; simp at this; omega
  obtain ⟨a0, a1, a2⟩ := A1.three
  go_wp2_with fail
  refine (refTake_any m v n s hn _).mono ?_
  rintro e w2 ⟨rfl, hb2⟩
  generalize tM m v n s = m1 at *
  generalize tV m v n s = v1 at *
  generalize tN m v n s = n1 at *
  generalize tE m v n s = e1 at *
  have A2 := (A1.alloc _).below hb2 (by simp; omega)
  have B2 := (Blk.new w1 #[.int .i64 m1, .int .i64 v1, .int .i64 n1] 23).below hb2 (by simp)
  have z2 : w1.heap.size < w2.heap.size := by have := hb2.size; simp at this; omega
  have s1 : Below w.heap.size w w1 := ((Below.refl _ _).alloc (Nat.le_refl _) _).trans (hb1.mono (by simp))
  have s2 : Below w.heap.size w w2 := (s1.alloc s1.size _).trans (hb2.mono (by simp; omega))
  clear a0 a1 a2
  obtain ⟨a0, a1, a2⟩ := A2.three
  obtain ⟨d0, d1, d2⟩ := B2.three
  have z3 : w.heap.size < w2.heap.size := by omega
  go_wp2_with fail
  generalize hw3 : w2.alloc _ = w3
  have A3 : Blk w3 w.heap.size #[.int .i64 m, .int .i64 v, .int .i64 n] 23 := by rw [← hw3]; exact A2.alloc _
  have B3 : Blk w3 w1.heap.size #[.int .i64 m1, .int .i64 v1, .int .i64 n1] 23 := by rw [← hw3]; exact B2.alloc _
  have C3 : Blk w3 w2.heap.size #[.int .i64 m1, .int .i64 v1, .int .i64 n1] 23 := by rw [← hw3]; exact Blk.new _ _ _
  have s3 : Below w.heap.size w w3 := by rw [← hw3]; exact s2.alloc s2.size _
  clear hw3 a0 a1 a2 d0 d1 d2
  have hA := A3.lt
  have hB := B3.lt
  have hC := C3.lt
  obtain ⟨a0, a1, a2⟩ := A3.three
  obtain ⟨d0, d1, d2⟩ := B3.three
  obtain ⟨g0, g1, g2⟩ := C3.three
  go_region_held3 (fun w' => w'.cell? ⟨w.heap.size, 0, none⟩ = some (.int .i64 m) ∧ w'.cell? ⟨w.heap.size, 1, none⟩ = some (.int .i64 v) ∧ w'.cell? ⟨w.heap.size, 2, none⟩ = some (.int .i64 n) ∧ w'.cell? ⟨w1.heap.size, 0, none⟩ = some (.int .i64 m1) ∧ w'.cell? ⟨w1.heap.size, 1, none⟩ = some (.int .i64 v1) ∧ w'.cell? ⟨w1.heap.size, 2, none⟩ = some (.int .i64 n1) ∧ w'.cell? ⟨w2.heap.size, 0, none⟩ = some (.int .i64 m1) ∧ w'.cell? ⟨w2.heap.size, 1, none⟩ = some (.int .i64 v1) ∧ w'.cell? ⟨w2.heap.size, 2, none⟩ = some (.int .i64 n1))  (first | exact ⟨a0, a1, a2, d0, d1, d2, g0, g1, g2⟩ | exact ⟨(A4.cell 0), (A4.cell 1), (A4.cell 2), (B4.cell 0), (B4.cell 1), (B4.cell 2), (C4.cell 0), (C4.cell 1), (C4.cell 2)⟩ | exact ⟨(A5.cell 0), (A5.cell 1), (A5.cell 2), (B5.cell 0), (B5.cell 1), (B5.cell 2), (C5.cell 0), (C5.cell 1), (C5.cell 2)⟩ | exact ⟨(A6.cell 0), (A6.cell 1), (A6.cell 2), (B6.cell 0), (B6.cell 1), (B6.cell 2), (C6.cell 0), (C6.cell 1), (C6.cell 2)⟩)  (first | (go_at_call 8; refine (timeout_any m v n l hm hv _).mono ?_; rintro e w4 ⟨rfl, hb4⟩; have A4 := Blk.below (w := _) (by exact A3) hb4 (by exact A3.lt); have B4 := Blk.below (w := _) (by exact B3) hb4 (by exact B3.lt); have C4 := Blk.below (w := _) (by exact C3) hb4 (by exact C3.lt)) | (go_at_call 9; refine (refTimeout_any m v n l hm hv _).mono ?_; rintro e w5 ⟨rfl, hb5⟩; have A5 := Blk.below (w := _) (by exact A4) hb5 (by exact A4.lt); have B5 := Blk.below (w := _) (by exact B4) hb5 (by exact B4.lt); have C5 := Blk.below (w := _) (by exact C4) hb5 (by exact C4.lt)) | (go_at_call 10; refine (awake_true _).mono ?_; rintro e w6 ⟨rfl, hb6⟩; have A6 := Blk.below (w := _) (by exact A5) hb6 (by exact A5.lt); have B6 := Blk.below (w := _) (by exact B5) hb6 (by exact B5.lt); have C6 := Blk.below (w := _) (by exact C5) hb6 (by exact C5.lt)))
  go_wp2_with fail
  go_ret
  have s4 : Below w.heap.size w w4 := (show Below w.heap.size w _ from bdrewN s3 1).trans (hb4.mono s3.size)
  have s5 : Below w.heap.size w w5 := s4.trans (hb5.mono s4.size)
  exact ⟨rfl, s5.trans (hb6.mono s5.size)⟩
end Go.Proofs.Ytebhdefeggiihaa
