/- Contracts of package order: room, New, Base, Len, Has, Put, Next. -/
import Derived.Test.YtdggnhgflfaffaaOrderSim
set_option maxRecDepth 20000
namespace Go.Proofs.Ytdggnhgflfaffaa
open Go.ChangeShapes Go.WideShapes Go.ChangeAt Go.RowKit
set_option linter.unusedVariables false

theorem os_info : (Try.prog.info? 9).map (fun i => (i.zero, i.size, i.bytes)) = some (some (.string ⟨#[]⟩), 1, 16) := by kernel_rfl
theorem ob_info : (Try.prog.info? 4).map (fun i => (i.zero, i.size, i.bytes)) = some (some (.bool false), 1, 1) := by kernel_rfl
def srow : Array Value := Array.replicate 64 (.string ⟨#[]⟩)
def brow : Array Value := Array.replicate 64 (.bool false)
theorem make_strs (w : World) : (Instr.makeSlice 90 (.int .i64 64) (.int .i64 64)).run Try.prog w = .ok (.slice (some ⟨w.heap.size, 0, none⟩) 64 64) (w.alloc (.cells srow 9)) := by
  obtain ⟨i0, hi, hz0, hz1, hz2⟩ := info_parts os_info
  have hr := run_make (P := Try.prog) w 90 9 i0 (.string ⟨#[]⟩) Try.underlying90 hi hz0 .i64 .i64 64 64 (by omega) (by omega) (by rw [hz2]; omega) (by omega)
  rw [hr]
  congr 3
  rw [hz1]
  apply Array.ext'
  rw [show (Value.string ⟨#[]⟩).cells = #[Value.string ⟨#[]⟩] from rfl, toList_madeCells_one]
  rfl
theorem make_bools (w : World) : (Instr.makeSlice 91 (.int .i64 64) (.int .i64 64)).run Try.prog w = .ok (.slice (some ⟨w.heap.size, 0, none⟩) 64 64) (w.alloc (.cells brow 4)) := by
  obtain ⟨i0, hi, hz0, hz1, hz2⟩ := info_parts ob_info
  have hr := run_make (P := Try.prog) w 91 4 i0 (.bool false) Try.underlying91 hi hz0 .i64 .i64 64 64 (by omega) (by omega) (by rw [hz2]; omega) (by omega)
  rw [hr]
  congr 3
  rw [hz1]
  apply Array.ext'
  rw [show (Value.bool false).cells = #[Value.bool false] from rfl, toList_madeCells_one]
  rfl
theorem srow_row {w : World} : RowV (w.alloc (.cells srow 9)) w.heap.size 64 (fun _ => .string ⟨#[]⟩) :=
  RowV.of_blk _ _ (Blk.new _ _ _) (fun j hj => by simp [srow, hj])
theorem brow_row {w : World} : RowV (w.alloc (.cells brow 4)) w.heap.size 64 (fun _ => .bool false) :=
  RowV.of_blk _ _ (Blk.new _ _ _) (fun j hj => by simp [brow, hj])
def RoomPost (W : World) (e : Ending) (w' : World) : Prop := ∃ g1 g2, e = .returned (.agg #[.slice (some ⟨g1, 0, none⟩) 64 64, .slice (some ⟨g2, 0, none⟩) 64 64, .int .i64 0]) ∧ RowV w' g1 64 (fun _ => .string ⟨#[]⟩) ∧ RowV w' g2 64 (fun _ => .bool false) ∧ g1 ≠ g2 ∧ W.heap.size ≤ g1 ∧ W.heap.size ≤ g2 ∧ Below W.heap.size W w'
set_option maxRecDepth 100000 in
theorem room_any (w : World) : Calls Try.prog 55 #[.int .i64 64] w (RoomPost w) := by
  have hm1 := make_strs
  have hm2 := make_bools
  go_enter Try.func55, Try.ntmps55
  go_wp2
  go_region
  all_goals go_wp2
  all_goals go_returns
  · refine ⟨w.heap.size + 1, w.heap.size + 1 + 1, rfl, ?_, ?_, by omega, by omega, by omega, by go_grown⟩
    · have h := (srow_row (w := w.alloc (.cells #[.slice (some ⟨w.heap.size + 1, 0, none⟩) 64 64, .slice (some ⟨w.heap.size + 1 + 1, 0, none⟩) 64 64, .int .i64 0] 93))).kept ((Kept.refl [] _).alloc (.cells brow 4)).drew (by simp)
      simpa using h
    · have h := brow_row (w := (w.alloc (.cells #[.slice (some ⟨w.heap.size + 1, 0, none⟩) 64 64, .slice (some ⟨w.heap.size + 1 + 1, 0, none⟩) 64 64, .int .i64 0] 93)).alloc (.cells srow 9))
      simpa using h.kept (Kept.refl [] _).drew (by simp)
  · refine ⟨w.heap.size + 1 + 1, w.heap.size + 1, rfl, ?_, ?_, by omega, by omega, by omega, by go_grown⟩
    · have h := srow_row (w := (w.alloc (.cells #[.slice (some ⟨w.heap.size + 1 + 1, 0, none⟩) 64 64, .slice (some ⟨w.heap.size + 1, 0, none⟩) 64 64, .int .i64 0] 93)).alloc (.cells brow 4))
      simpa using h.kept (Kept.refl [] _).drew (by simp)
    · have h := (brow_row (w := w.alloc (.cells #[.slice (some ⟨w.heap.size + 1 + 1, 0, none⟩) 64 64, .slice (some ⟨w.heap.size + 1, 0, none⟩) 64 64, .int .i64 0] 93))).kept ((Kept.refl [] _).alloc (.cells srow 9)).drew (by simp)
      simpa using h
theorem onew_bad (base win : Int) (hb : win < 1 ∨ 64 < win) (w : World) : Calls Try.prog 27 #[.int .u32 base, .int .i64 win] w fun e w' => e = .returned (.tuple #[.pointer none, .int .i64 1]) ∧ w = w' := by
  by_cases h1 : win < 1
  all_goals
    go_enter Try.func27, Try.ntmps27
    go_wp2
    go_ret2
    exact ⟨rfl, rfl⟩
def ONewPost (W : World) (base win : Nat) (e : Ending) (w' : World) : Prop := ∃ b g1 g2, e = .returned (.tuple #[.pointer (some ⟨b, 0, none⟩), .int .i64 0]) ∧ OrdAt w' b g1 g2 base win 0 (fun _ => ⟨#[]⟩) (fun _ => false) ∧ (∀ x ∈ [b, g1, g2], W.heap.size ≤ x) ∧ Below W.heap.size W w'
theorem onew_good (base win : Nat) (h0 : base < 4294967296) (h1 : 1 ≤ win) (h2 : win ≤ 64) (w : World) : Calls Try.prog 27 #[.int .u32 (base : Int), .int .i64 (win : Int)] w (ONewPost w base win) := by
  go_enter Try.func27, Try.ntmps27
  go_wp2_with (go_at_call 55; refine (room_any _).mono ?_; rintro e w1 ⟨g1, g2, rfl, r1, r2, hne, l1, l2, hb⟩)
  go_ret2
  have hs1 := r1.1
  have hs2 := r2.1
  have hw := hb.size
  refine ⟨w1.heap.size, g1, g2, rfl, ⟨Blk.new' rfl, r1.kept ((Kept.refl [] _).alloc _) (by simp), r2.kept ((Kept.refl [] _).alloc _) (by simp), by omega, by omega, hne, h0, h1, h2, by omega⟩, ?_, hb.alloc hw _⟩
  intro x hx
  simp at hx
  rcases hx with h | h | h <;> omega
theorem obase_any (b g1 g2 base win n : Nat) (f : Nat → ByteArray) (h : Nat → Bool) (w : World) (o : OrdAt w b g1 g2 base win n f h) : Calls Try.prog 36 #[.pointer (some ⟨b, 0, none⟩)] w fun e w' => e = .returned (.int .u32 (base : Int)) ∧ w = w' := by
  obtain ⟨c0, c1, c2, c3, c4⟩ := o.cells
  go_enter Try.func36, Try.ntmps36
  go_wp2
  go_ret
  exact ⟨rfl, rfl⟩
theorem obase_nil (w : World) : Calls Try.prog 36 #[.pointer none] w fun e w' => e = .returned (.int .u32 0) ∧ w = w' := by
  go_enter Try.func36, Try.ntmps36
  go_wp2
  go_ret
  exact ⟨rfl, rfl⟩
def SameD (W : World) (v : Value) (e : Ending) (w' : World) : Prop := e = .returned v ∧ ∃ q, w' = W.drewN q
theorem ohas_nil (x : Int) (w : World) : Calls Try.prog 39 #[.pointer none, .int .u32 x] w (SameD w (.bool false)) := by
  go_enter Try.func39, Try.ntmps39
  go_wp2
  go_quiet (fail)
  go_wp2
  go_ret
  exact ⟨rfl, _, rfl⟩
def hasB (base win x : Nat) (h : Nat → Bool) : Bool := keyIn base win x && h (x % 64)
theorem ohas_any (b g1 g2 base win n : Nat) (f : Nat → ByteArray) (h : Nat → Bool) (x : Nat) (hx : x < 4294967296) (r : Bool) (hr : r = hasB base win x h) (w : World) (o : OrdAt w b g1 g2 base win n f h) : Calls Try.prog 39 #[.pointer (some ⟨b, 0, none⟩), .int .u32 (x : Int)] w (SameD w (.bool r)) := by
  obtain ⟨c0, c1, c2, c3, c4⟩ := o.cells
  have hi64 : x % 64 < 64 := Nat.mod_lt _ (by omega)
  have b0 := o.has.cell hi64
  have hA := Lib.hid (fun w o => sat_any b g1 g2 base win n f h x (x % 64) hx rfl w o)
  have hbb := o.bb
  have HW := Lib.hid (fun w => serialWithin (x : Int) (base : Int) (win : Int) (by omega) (by omega) (by omega) (by omega) w)
  have O := Lib.hid o
  have hr1 : r = (withinB (x : Int) (base : Int) (win : Int) && h (x % 64)) := hr
  generalize withinB (x : Int) (base : Int) (win : Int) = wi at *
  generalize x % 64 = i at *
  generalize h i = hi at *
  have q1 : (0 : Int) ≤ (i : Int) := by omega
  have q2 : (i : Int) < 64 := by omega
  clear o hr
  cases wi
  · have hr2 : Hid (r = false) := Lib.hid (by rw [hr1]; rfl)
    clear hr1
    go_enter Try.func39, Try.ntmps39
    go_wp2
    go_quiet ((go_at_call 44; refine Calls.quiet_of_same ((HW.out _).mono fun e w1 h => ⟨h.1, h.2.symm⟩)))
    go_wp2
    go_ret
    exact ⟨by rw [hr2.out]; rfl, _, rfl⟩
  · have hr2 : Hid (r = hi) := Lib.hid (by rw [hr1]; rfl)
    clear hr1
    go_enter Try.func39, Try.ntmps39
    go_wp2
    go_quiet (first | (go_at_call 44; refine Calls.quiet_of_same ((HW.out _).mono fun e w1 h => ⟨h.1, h.2.symm⟩)) | (go_at_call 62; refine Calls.quiet_of_same ((hA.out _ (by first | exact O.out | exact O.out.drewN _)).mono fun e w1 h => ⟨h.1, h.2.symm⟩)))
    go_wp2
    go_ret
    exact ⟨by rw [hr2.out]; rfl, _, rfl⟩
end Go.Proofs.Ytdggnhgflfaffaa
