/- Contracts of lightshipref47: Lost. -/
import Derived.Test.YtjmgopfeknlnnaaAimdRef2
namespace Go.Proofs.Ytjmgopfeknlnnaa
open Go.ChangeShapes Go.WideShapes Go.ChangeAt Go.RowKit
set_option linter.unusedVariables false

theorem refAcked_any (x : Win) (n : Int) (hx : x.Ok) (w : World) : Calls Try.prog 9 #[.agg x.cells, .int .i64 n] w (WPost w (acked x n)) := by
  by_cases hn : n < 1
  · rw [show acked x n = x by unfold acked; rw [if_pos hn]]
    exact refAcked_few x n hn w
  · by_cases hs : x.size < x.bound
    · exact refAcked_slow x n (by omega) hx hs w
    · exact refAcked_grow x n _ (by omega) rfl hx hs w
def LPost (W : World) (x : Win) (r : Bool) (e : Ending) (w' : World) : Prop := e = .returned (.tuple #[.agg x.cells, .bool r]) ∧ Below W.heap.size W w'
theorem res_lost (tm : Array Value) (w : World) (b : Nat) (x : Win) (r : Value) (h : Blk w b x.cells 30) (h5 : tm.getD 6 undef = .pointer (some ⟨b, 0, none⟩)) (h6 : tm.getD 7 undef = r) :
    (results Try.f7 tm).run Try.prog w = .ok (.tuple #[.agg x.cells, r]) w := by
  have c0 : w.cell? ⟨b, 0, none⟩ = some (.int .i64 x.least) := h.cell 0
  have c1 : w.cell? ⟨b, 1, none⟩ = some (.int .i64 x.most) := h.cell 1
  have c2 : w.cell? ⟨b, 2, none⟩ = some (.int .i64 x.size) := h.cell 2
  have c3 : w.cell? ⟨b, 3, none⟩ = some (.int .i64 x.bound) := h.cell 3
  have c4 : w.cell? ⟨b, 4, none⟩ = some (.int .i64 x.owed) := h.cell 4
  have c5 : w.cell? ⟨b, 5, none⟩ = some (.int .u32 x.next) := h.cell 5
  have c6 : w.cell? ⟨b, 6, none⟩ = some (.bool x.lost) := h.cell 6
  simp only [Array.getD_eq_getD_getElem?] at h5 h6
  simp [results, Try.results7, go_sem, h5, h6, c0, c1, c2, c3, c4, c5, c6, Win.cells]
theorem lp_mk {W w' : World} {x y : Win} {r r' : Bool} (h1 : x = y) (h2 : r' = r) (h : Below W.heap.size W w') : LPost W x r (.returned (.tuple #[.agg y.cells, .bool r'])) w' := by subst h1 h2; exact ⟨rfl, h⟩
set_option maxRecDepth 100000 in
set_option maxHeartbeats 4000000 in
theorem refLost_any (x : Win) (bl nx : Int) (hx : x.Ok) (h0 : 0 ≤ bl) (h1 : bl < 4294967296) (w : World) :
    Calls Try.prog 7 #[.agg x.cells, .int .u32 bl, .int .u32 nx] w (LPost w (lostW x bl nx) (lossB x bl)) := by
  have hn0 := hx.n0
  have hn1 := hx.n1
  have o3 := hx.sm
  have o4 := hx.m
  have o5 := hx.l1
  have o6 := hx.ls
  unfold Win.cells
  have HL := Lib.hid (show lossB x bl = true → lostW x bl nx = { x with lost := true, next := nx, bound := max (x.size / 2) x.least, size := max (x.size / 2) x.least, owed := 0 } from fun hb => by simp [lostW, hb])
  by_cases hm : x.least ≤ x.size / 2
  · have HM := Lib.hid (show max (x.size / 2) x.least = x.size / 2 by omega)
    cases hl : x.lost with
    | false =>
      go_enter Try.func7, Try.ntmps7
      go_wp2_with (go_at_call 13; refine (refLess _ _ h0 h1 hn0 hn1 _).mono ?_; rintro e w' ⟨rfl, rfl⟩)
      have hLB : lossB x bl = true := by simp [lossB, hl]
      refine bodyPost_ret (res_lost _ _ (w.heap.size + 1) { x with lost := true, next := nx, bound := x.size / 2, size := x.size / 2, owed := 0 } _ (by refine Blk.new' ?_; simp) rfl rfl) rfl (lp_mk (by rw [HL.out hLB, HM.out]) hLB.symm (by go_grown))
    | true =>
      cases hq : lessB bl x.next with
      | true =>
        go_enter Try.func7, Try.ntmps7
        go_wp2_with (go_at_call 13; refine (refLess _ _ h0 h1 hn0 hn1 _).mono ?_; rintro e w' ⟨rfl, rfl⟩)
        refine bodyPost_ret (res_lost _ _ (w.heap.size + 1) { x with lost := true } _ (by refine Blk.new' ?_; simp) rfl rfl) rfl (lp_mk (by rw [show lostW x bl nx = x from by simp [lostW, lossB, hl, hq]]; cases x; simp_all) (by simp [lossB, hl, hq]) (by go_grown))
      | false =>
        go_enter Try.func7, Try.ntmps7
        go_wp2_with (go_at_call 13; refine (refLess _ _ h0 h1 hn0 hn1 _).mono ?_; rintro e w' ⟨rfl, rfl⟩)
        have hLB : lossB x bl = true := by simp [lossB, hl, hq]
        refine bodyPost_ret (res_lost _ _ (w.heap.size + 1) { x with lost := true, next := nx, bound := x.size / 2, size := x.size / 2, owed := 0 } _ (by refine Blk.new' ?_; simp) rfl rfl) rfl (lp_mk (by rw [HL.out hLB, HM.out]) hLB.symm (by go_grown))
  · have HM := Lib.hid (show max (x.size / 2) x.least = x.least by omega)
    cases hl : x.lost with
    | false =>
      go_enter Try.func7, Try.ntmps7
      go_wp2_with (go_at_call 13; refine (refLess _ _ h0 h1 hn0 hn1 _).mono ?_; rintro e w' ⟨rfl, rfl⟩)
      have hLB : lossB x bl = true := by simp [lossB, hl]
      refine bodyPost_ret (res_lost _ _ (w.heap.size + 1) { x with lost := true, next := nx, bound := x.least, size := x.least, owed := 0 } _ (by refine Blk.new' ?_; simp) rfl rfl) rfl (lp_mk (by rw [HL.out hLB, HM.out]) hLB.symm (by go_grown))
    | true =>
      cases hq : lessB bl x.next with
      | true =>
        go_enter Try.func7, Try.ntmps7
        go_wp2_with (go_at_call 13; refine (refLess _ _ h0 h1 hn0 hn1 _).mono ?_; rintro e w' ⟨rfl, rfl⟩)
        refine bodyPost_ret (res_lost _ _ (w.heap.size + 1) { x with lost := true } _ (by refine Blk.new' ?_; simp) rfl rfl) rfl (lp_mk (by rw [show lostW x bl nx = x from by simp [lostW, lossB, hl, hq]]; cases x; simp_all) (by simp [lossB, hl, hq]) (by go_grown))
      | false =>
        go_enter Try.func7, Try.ntmps7
        go_wp2_with (go_at_call 13; refine (refLess _ _ h0 h1 hn0 hn1 _).mono ?_; rintro e w' ⟨rfl, rfl⟩)
        have hLB : lossB x bl = true := by simp [lossB, hl, hq]
        refine bodyPost_ret (res_lost _ _ (w.heap.size + 1) { x with lost := true, next := nx, bound := x.least, size := x.least, owed := 0 } _ (by refine Blk.new' ?_; simp) rfl rfl) rfl (lp_mk (by rw [HL.out hLB, HM.out]) hLB.symm (by go_grown))
end Go.Proofs.Ytjmgopfeknlnnaa
