/- Contracts of lightshipref47, and aimd's Lost. -/
import Derived.Test.YtjmgopfeknlnnaaAimd
namespace Go.Proofs.Ytjmgopfeknlnnaa
open Go.ChangeShapes Go.WideShapes Go.ChangeAt Go.RowKit
set_option linter.unusedVariables false

/-- does a loss count? -/
def lossB (x : Win) (block : Int) : Bool := !(x.lost && lessB block x.next)
def lostW (x : Win) (block next : Int) : Win :=
  if lossB x block then { x with lost := true, next := next, bound := max (x.size / 2) x.least, size := max (x.size / 2) x.least, owed := 0 } else x
theorem lost_ok {x : Win} (h : x.Ok) (block next : Int) (h0 : 0 ≤ next) (h1 : next < 4294967296) : (lostW x block next).Ok := by
  unfold lostW
  split
  · have := h.l1; have := h.ls; have := h.sm; have := h.m
    exact ⟨h.l1, by simp only []; omega, by simp only []; omega, h.m, by simp, by simp only []; omega, by simp only []; omega, by simp only []; omega, h0, h1⟩
  · exact h

theorem gr_bd (k : Nat) : ∀ o s m : Int, 0 ≤ o → s ≤ m → (m - s).toNat ≤ k → 0 ≤ (gr k o s m).1 ∧ s ≤ (gr k o s m).2 ∧ (gr k o s m).2 ≤ m ∧ ((gr k o s m).1 < (gr k o s m).2 ∨ (gr k o s m).2 = m) := by
  induction k with
  | zero => intro o s m h0 h1 h2; simp [gr]; omega
  | succ k ih =>
    intro o s m h0 h1 h2
    unfold gr
    split
    · rename_i hc
      have := ih (o - s) (s + 1) m (by omega) (by omega) (by omega)
      omega
    · rename_i hc
      simp only []
      omega
theorem acked_ok {x : Win} (h : x.Ok) (n : Int) : (acked x n).Ok ∧ x.size ≤ (acked x n).size := by
  have h1 := h.l1
  have h2 := h.ls
  have h3 := h.sm
  have h4 := h.m
  have h5 := h.o0
  have h6 := h.os
  have h7 := h.b0
  have h8 := h.bm
  unfold acked
  split
  · exact ⟨h, Int.le_refl _⟩
  · split
    · refine ⟨⟨h.l1, ?_, ?_, h.m, h.o0, ?_, h.b0, h.bm, h.n0, h.n1⟩, ?_⟩ <;> simp only [] <;> omega
    · have hb := gr_bd (x.most - x.size).toNat (x.owed + min n 65535) x.size x.most (by omega) h3 (Nat.le_refl _)
      simp only [grow]
      refine ⟨⟨h.l1, ?_, ?_, h.m, ?_, ?_, h.b0, h.bm, h.n0, h.n1⟩, ?_⟩ <;> (try simp only []) <;> (try split) <;> omega

set_option maxRecDepth 100000 in
set_option maxHeartbeats 4000000 in
theorem lost_any (b : Nat) (x : Win) (bl nx : Int) (hx : x.Ok) (h0 : 0 ≤ bl) (h1 : bl < 4294967296) (w : World) (h : IsWin w b x) :
    Calls Try.prog 8 #[.pointer (some ⟨b, 0, none⟩), .int .u32 bl, .int .u32 nx] w (fun e w' => e = .returned (.bool (lossB x bl)) ∧ IsWin w' b (lostW x bl nx) ∧ w.grownBy w' (some b)) := by
  obtain ⟨c0, c1, c2, c3, c4, c5, c6⟩ := win_cells h
  have hn0 := hx.n0
  have hn1 := hx.n1
  have f2 := Blk.free h 2
  have f3 := Blk.free h 3
  have f4 := Blk.free h 4
  have f5 := Blk.free h 5
  have f6 := Blk.free h 6
  have hs0 := hx.ls
  have hs1 := hx.sm
  have hs2 := hx.m
  have hs3 := hx.l1
  have HL := Lib.hid (show lossB x bl = true → lostW x bl nx = { x with lost := true, next := nx, bound := max (x.size / 2) x.least, size := max (x.size / 2) x.least, owed := 0 } from fun hb => by simp [lostW, hb])
  by_cases hm : x.least ≤ x.size / 2
  · have HM := Lib.hid (show max (x.size / 2) x.least = x.size / 2 by omega)
    cases hl : x.lost with
    | false =>
      go_enter Try.func8, Try.ntmps8
      go_wp2_with (go_at_call 14; refine (serialLess _ _ h0 h1 hn0 hn1 _).mono ?_; rintro e w' ⟨rfl, rfl⟩)
      go_region
      go_wp2_with fail
      go_returns
      have hLB : lossB x bl = true := by simp [lossB, hl]
      refine ⟨ret_bool hLB.symm, ?_, ?_⟩
      · rw [HL.out hLB, HM.out]
        have hB := ((((Blk.set (w := w) h 6 (.bool true)).set 5 (.int .u32 nx)).set 3 (.int .i64 (x.size / 2))).set 2 (.int .i64 (x.size / 2))).set 4 (.int .i64 0)
        have e : ((((x.cells.setIfInBounds 6 (.bool true)).setIfInBounds 5 (.int .u32 nx)).setIfInBounds 3 (.int .i64 (x.size / 2))).setIfInBounds 2 (.int .i64 (x.size / 2))).setIfInBounds 4 (.int .i64 0) = #[.int .i64 x.least, .int .i64 x.most, .int .i64 (x.size / 2), .int .i64 (x.size / 2), .int .i64 0, .int .u32 nx, .bool true] := by simp [Win.cells]
        rw [e] at hB
        exact hB.drew
      · repeat (first | exact grefl _ _ | refine gdrew ?_ | refine gset ?_ _ rfl _)
    | true =>
      cases hq : lessB bl x.next with
      | true =>
        go_enter Try.func8, Try.ntmps8
        go_wp2_with (go_at_call 14; refine (serialLess _ _ h0 h1 hn0 hn1 _).mono ?_; rintro e w' ⟨rfl, rfl⟩)
        go_ret
        exact ⟨ret_bool (by simp [lossB, hl, hq]), by rw [show lostW x bl nx = x from by simp [lostW, lossB, hl, hq]]; exact h, grefl _ _⟩
      | false =>
        go_enter Try.func8, Try.ntmps8
        go_wp2_with (go_at_call 14; refine (serialLess _ _ h0 h1 hn0 hn1 _).mono ?_; rintro e w' ⟨rfl, rfl⟩)
        go_region
        go_wp2_with fail
        go_returns
        have hLB : lossB x bl = true := by simp [lossB, hl, hq]
        refine ⟨ret_bool hLB.symm, ?_, ?_⟩
        · rw [HL.out hLB, HM.out]
          have hB := ((((Blk.set (w := w) h 6 (.bool true)).set 5 (.int .u32 nx)).set 3 (.int .i64 (x.size / 2))).set 2 (.int .i64 (x.size / 2))).set 4 (.int .i64 0)
          have e : ((((x.cells.setIfInBounds 6 (.bool true)).setIfInBounds 5 (.int .u32 nx)).setIfInBounds 3 (.int .i64 (x.size / 2))).setIfInBounds 2 (.int .i64 (x.size / 2))).setIfInBounds 4 (.int .i64 0) = #[.int .i64 x.least, .int .i64 x.most, .int .i64 (x.size / 2), .int .i64 (x.size / 2), .int .i64 0, .int .u32 nx, .bool true] := by simp [Win.cells]
          rw [e] at hB
          exact hB.drew
        · repeat (first | exact grefl _ _ | refine gdrew ?_ | refine gset ?_ _ rfl _)
  · have HM := Lib.hid (show max (x.size / 2) x.least = x.least by omega)
    cases hl : x.lost with
    | false =>
      go_enter Try.func8, Try.ntmps8
      go_wp2_with (go_at_call 14; refine (serialLess _ _ h0 h1 hn0 hn1 _).mono ?_; rintro e w' ⟨rfl, rfl⟩)
      go_region
      go_wp2_with fail
      go_returns
      have hLB : lossB x bl = true := by simp [lossB, hl]
      refine ⟨ret_bool hLB.symm, ?_, ?_⟩
      · rw [HL.out hLB, HM.out]
        have hB := ((((Blk.set (w := w) h 6 (.bool true)).set 5 (.int .u32 nx)).set 3 (.int .i64 (x.least))).set 2 (.int .i64 (x.least))).set 4 (.int .i64 0)
        have e : ((((x.cells.setIfInBounds 6 (.bool true)).setIfInBounds 5 (.int .u32 nx)).setIfInBounds 3 (.int .i64 (x.least))).setIfInBounds 2 (.int .i64 (x.least))).setIfInBounds 4 (.int .i64 0) = #[.int .i64 x.least, .int .i64 x.most, .int .i64 (x.least), .int .i64 (x.least), .int .i64 0, .int .u32 nx, .bool true] := by simp [Win.cells]
        rw [e] at hB
        exact hB.drew
      · repeat (first | exact grefl _ _ | refine gdrew ?_ | refine gset ?_ _ rfl _)
    | true =>
      cases hq : lessB bl x.next with
      | true =>
        go_enter Try.func8, Try.ntmps8
        go_wp2_with (go_at_call 14; refine (serialLess _ _ h0 h1 hn0 hn1 _).mono ?_; rintro e w' ⟨rfl, rfl⟩)
        go_ret
        exact ⟨ret_bool (by simp [lossB, hl, hq]), by rw [show lostW x bl nx = x from by simp [lostW, lossB, hl, hq]]; exact h, grefl _ _⟩
      | false =>
        go_enter Try.func8, Try.ntmps8
        go_wp2_with (go_at_call 14; refine (serialLess _ _ h0 h1 hn0 hn1 _).mono ?_; rintro e w' ⟨rfl, rfl⟩)
        go_region
        go_wp2_with fail
        go_returns
        have hLB : lossB x bl = true := by simp [lossB, hl, hq]
        refine ⟨ret_bool hLB.symm, ?_, ?_⟩
        · rw [HL.out hLB, HM.out]
          have hB := ((((Blk.set (w := w) h 6 (.bool true)).set 5 (.int .u32 nx)).set 3 (.int .i64 (x.least))).set 2 (.int .i64 (x.least))).set 4 (.int .i64 0)
          have e : ((((x.cells.setIfInBounds 6 (.bool true)).setIfInBounds 5 (.int .u32 nx)).setIfInBounds 3 (.int .i64 (x.least))).setIfInBounds 2 (.int .i64 (x.least))).setIfInBounds 4 (.int .i64 0) = #[.int .i64 x.least, .int .i64 x.most, .int .i64 (x.least), .int .i64 (x.least), .int .i64 0, .int .u32 nx, .bool true] := by simp [Win.cells]
          rw [e] at hB
          exact hB.drew
        · repeat (first | exact grefl _ _ | refine gdrew ?_ | refine gset ?_ _ rfl _)

set_option maxRecDepth 100000 in
set_option maxHeartbeats 4000000 in
theorem lost_nil (bl nx : Int) (w : World) : Calls Try.prog 8 #[.pointer none, .int .u32 bl, .int .u32 nx] w (fun e w' => e = .returned (.bool false) ∧ w = w') := by
  go_enter Try.func8, Try.ntmps8
  go_wp2
  go_ret
  exact ⟨rfl, rfl⟩
set_option maxRecDepth 100000 in
set_option maxHeartbeats 4000000 in
theorem acked_nil (n : Int) (w : World) : Calls Try.prog 10 #[.pointer none, .int .i64 n] w (fun e w' => e = .returned (.tuple #[]) ∧ w = w') := by
  go_enter Try.func10, Try.ntmps10
  go_wp2
  go_step3
  go_wp2
  rw [Exit.noGoto_ret]
  go_returns
  exact ⟨rfl, rfl⟩
end Go.Proofs.Ytjmgopfeknlnnaa
