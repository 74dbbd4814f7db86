/- Contracts of package aimd: a window behind a pointer. -/
import Derived.Test.YtjmgopfeknlnnaaSerial
import Derived.Outline
import Derived.Handy
import Derived.ScopeJumps
import Derived.WalkMore
import Derived.BigRegion
import Derived.Deep.RegionHeld3
namespace Go.Proofs.Ytjmgopfeknlnnaa
open Go.ChangeShapes Go.WideShapes Go.ChangeAt Go.RowKit
set_option linter.unusedVariables false

/-- a window's seven fields -/
structure Win where
  least : Int
  most : Int
  size : Int
  bound : Int
  owed : Int
  next : Int
  lost : Bool
def Win.cells (x : Win) : Array Value := #[.int .i64 x.least, .int .i64 x.most, .int .i64 x.size, .int .i64 x.bound, .int .i64 x.owed, .int .u32 x.next, .bool x.lost]
def IsWin (w : World) (b : Nat) (x : Win) : Prop := Blk w b x.cells 42
/-- what holds of every window that calls gave -/
structure Win.Ok (x : Win) : Prop where
  l1 : 1 ≤ x.least
  ls : x.least ≤ x.size
  sm : x.size ≤ x.most
  m : x.most ≤ 65535
  o0 : 0 ≤ x.owed
  os : x.owed < x.size
  b0 : x.least ≤ x.bound
  bm : x.bound ≤ x.most
  n0 : 0 ≤ x.next
  n1 : x.next < 4294967296
theorem win_cells {w : World} {b : Nat} {x : Win} (h : IsWin w b x) : w.cell? ⟨b, 0, none⟩ = some (.int .i64 x.least) ∧ w.cell? ⟨b, 1, none⟩ = some (.int .i64 x.most) ∧ w.cell? ⟨b, 2, none⟩ = some (.int .i64 x.size) ∧ w.cell? ⟨b, 3, none⟩ = some (.int .i64 x.bound) ∧ w.cell? ⟨b, 4, none⟩ = some (.int .i64 x.owed) ∧ w.cell? ⟨b, 5, none⟩ = some (.int .u32 x.next) ∧ w.cell? ⟨b, 6, none⟩ = some (.bool x.lost) :=
  ⟨h.cell 0, h.cell 1, h.cell 2, h.cell 3, h.cell 4, h.cell 5, h.cell 6⟩

theorem size_any (b : Nat) (x : Win) (w : World) (h : IsWin w b x) : Calls Try.prog 11 #[.pointer (some ⟨b, 0, none⟩)] w fun e w' => e = .returned (.int .i64 x.size) ∧ w = w' := by
  obtain ⟨c0, c1, c2, c3, c4, c5, c6⟩ := win_cells h
  go_enter Try.func11, Try.ntmps11
  go_wp2
  go_ret
  exact ⟨rfl, rfl⟩
theorem size_nil (w : World) : Calls Try.prog 11 #[.pointer none] w fun e w' => e = .returned (.int .i64 0) ∧ w = w' := by
  go_enter Try.func11, Try.ntmps11
  go_wp2
  go_ret
  exact ⟨rfl, rfl⟩
def SlowPost (w : World) (x : Win) (e : Ending) (w' : World) : Prop := e = .returned (.bool (decide (x.size < x.bound))) ∧ ∃ n, w' = w.drewN n
theorem slow_any (b : Nat) (x : Win) (w : World) (h : IsWin w b x) : Calls Try.prog 12 #[.pointer (some ⟨b, 0, none⟩)] w (SlowPost w x) := by
  obtain ⟨c0, c1, c2, c3, c4, c5, c6⟩ := win_cells h
  go_enter Try.func12, Try.ntmps12
  go_wp2
  go_quiet (fail)
  go_wp2
  go_ret
  exact ⟨rfl, _, rfl⟩
theorem slow_nil (w : World) : Calls Try.prog 12 #[.pointer none] w fun e w' => e = .returned (.bool false) ∧ Below w.heap.size w w' := by
  go_enter Try.func12, Try.ntmps12
  go_wp2
  go_quiet (fail)
  go_wp2
  go_ret
  exact ⟨rfl, by refine bdrewN ?_ _; go_grown⟩
theorem new_bad (l h : Int) (hb : l < 1 ∨ h < l ∨ 65535 < h) (w : World) : Calls Try.prog 6 #[.int .i64 l, .int .i64 h] w fun e w' => e = .returned (.tuple #[.pointer none, .int .i64 1]) ∧ w = w' := by
  by_cases c1 : l < 1
  all_goals by_cases c2 : h < l
  all_goals by_cases c3 : 65535 < h
  all_goals try (exfalso; omega)
  all_goals
    go_enter Try.func6, Try.ntmps6
    go_wp2
    go_ret2
    exact ⟨rfl, rfl⟩
def freshW (l h : Int) : Win := ⟨l, h, l, h, 0, 0, false⟩
def NewPost (W : World) (x : Win) (e : Ending) (w' : World) : Prop := e = .returned (.tuple #[.pointer (some ⟨W.heap.size, 0, none⟩), .int .i64 0]) ∧ IsWin w' W.heap.size x ∧ Below W.heap.size W w'
theorem new_good (l h : Int) (h1 : 1 ≤ l) (h2 : l ≤ h) (h3 : h ≤ 65535) (w : World) : Calls Try.prog 6 #[.int .i64 l, .int .i64 h] w (NewPost w (freshW l h)) := by
  go_enter Try.func6, Try.ntmps6
  go_wp2
  go_ret2
  exact ⟨rfl, Blk.new _ _ _, by go_grown⟩

/-- the window grows by what is owed -/
def gr : Nat → Int → Int → Int → Int × Int
  | 0, o, s, m => (o, s)
  | k + 1, o, s, m => if s ≤ o ∧ s < m then gr k (o - s) (s + 1) m else (o, s)
def grow (o s m : Int) : Int × Int := gr (m - s).toNat o s m
theorem grow_step (o s m : Int) (h1 : s ≤ o) (h2 : s < m) : grow o s m = grow (o - s) (s + 1) m := by
  unfold grow
  obtain ⟨k, hk⟩ : ∃ k : Nat, (m - s).toNat = k + 1 := ⟨(m - s).toNat - 1, by omega⟩
  rw [hk, gr, if_pos ⟨h1, h2⟩, show (m - (s + 1)).toNat = k by omega]
theorem grow_end (o s m : Int) (h : ¬ (s ≤ o ∧ s < m)) : grow o s m = (o, s) := by
  unfold grow
  cases (m - s).toNat <;> simp [gr, h]
/-- so many came -/
def acked (x : Win) (n : Int) : Win :=
  if n < 1 then x
  else if x.size < x.bound then { x with size := min (x.size + min n 65535) x.most }
  else
    let g := grow (x.owed + min n 65535) x.size x.most
    { x with size := g.2, owed := if g.2 = x.most then 0 else g.1 }
set_option maxRecDepth 100000 in
set_option maxHeartbeats 4000000 in
theorem acked_few (b : Nat) (x : Win) (n : Int) (hn : n < 1) (w : World) (h : IsWin w b x) : Calls Try.prog 10 #[.pointer (some ⟨b, 0, none⟩), .int .i64 n] w fun e w' => e = .returned (.tuple #[]) ∧ w = w' := by
  go_enter Try.func10, Try.ntmps10
  go_wp2
  go_step3
  go_wp2
  rw [Exit.noGoto_ret]
  go_returns
  exact ⟨rfl, rfl⟩
set_option maxRecDepth 100000 in
set_option maxHeartbeats 4000000 in
theorem acked_slow (b : Nat) (x : Win) (n : Int) (hn : 1 ≤ n) (hx : x.Ok) (hs : x.size < x.bound) (w : World) (h : IsWin w b x) : Calls Try.prog 10 #[.pointer (some ⟨b, 0, none⟩), .int .i64 n] w (fun e w' => e = .returned (.tuple #[]) ∧ IsWin w' b (acked x n) ∧ w.grownBy w' (some b)) := by
  obtain ⟨c0, c1, c2, c3, c4, c5, c6⟩ := win_cells h
  have f2 := Blk.free h 2
  have hd : decide (x.size < x.bound) = true := by simpa using hs
  by_cases hm : n ≤ 65535
  all_goals by_cases hm2 : x.size + min n 65535 ≤ x.most
  · have em : min n 65535 = n := by omega
    rw [em] at hm2
    have hx1 := hx.m
    have hA : acked x n = { x with size := x.size + n } := by
      unfold acked; rw [if_neg (by omega), if_pos hs, em, show min (x.size + n) x.most = x.size + n by omega]
    have HA := Lib.hid hA
    clear hA em
    have o3 := hx.sm
    have o5 := hx.l1
    have o6 := hx.ls
    go_enter Try.func10, Try.ntmps10
    go_wp2
    go_step3
    go_wp2_with (go_at_call 12; refine (slow_any b x _ h).mono ?_; rintro e w' ⟨rfl, nq, rfl⟩)
    go_region
    go_wp2
    rw [Exit.noGoto_ret]
    go_returns
    refine ⟨rfl, ?_, gset (gdrewN (grefl _ _) _) _ rfl _⟩
    rw [HA.out]
    exact Blk.set (w := w.drewN _) h 2 _
  · have em : min n 65535 = n := by omega
    rw [em] at hm2
    have hx1 := hx.m
    have hA : acked x n = { x with size := x.most } := by
      unfold acked; rw [if_neg (by omega), if_pos hs, em, show min (x.size + n) x.most = x.most by omega]
    have HA := Lib.hid hA
    clear hA em
    have o3 := hx.sm
    have o5 := hx.l1
    have o6 := hx.ls
    go_enter Try.func10, Try.ntmps10
    go_wp2
    go_step3
    go_wp2_with (go_at_call 12; refine (slow_any b x _ h).mono ?_; rintro e w' ⟨rfl, nq, rfl⟩)
    go_region
    go_wp2
    rw [Exit.noGoto_ret]
    go_returns
    refine ⟨rfl, ?_, gset (gdrewN (grefl _ _) _) _ rfl _⟩
    rw [HA.out]
    exact Blk.set (w := w.drewN _) h 2 _
  · have em : min n 65535 = 65535 := by omega
    exfalso
    have := hx.m
    have := hx.l1
    have := hx.ls
    omega
  · have em : min n 65535 = 65535 := by omega
    rw [em] at hm2
    have hx1 := hx.m
    have hA : acked x n = { x with size := x.most } := by
      unfold acked; rw [if_neg (by omega), if_pos hs, em, show min (x.size + 65535) x.most = x.most by omega]
    have HA := Lib.hid hA
    clear hA em
    have o3 := hx.sm
    have o5 := hx.l1
    have o6 := hx.ls
    go_enter Try.func10, Try.ntmps10
    go_wp2
    go_step3
    go_wp2_with (go_at_call 12; refine (slow_any b x _ h).mono ?_; rintro e w' ⟨rfl, nq, rfl⟩)
    go_region
    go_wp2
    rw [Exit.noGoto_ret]
    go_returns
    refine ⟨rfl, ?_, gset (gdrewN (grefl _ _) _) _ rfl _⟩
    rw [HA.out]
    exact Blk.set (w := w.drewN _) h 2 _

end Go.Proofs.Ytjmgopfeknlnnaa
