/- Contracts of package ring. -/
import Derived.Test.YtdggnhgflfaffaaRowG
import Derived.Outline
import Derived.Handy
import Derived.BigRegion
import Derived.BigQuiet
import Derived.Deep.QuietTactic
import Derived.IntWalk
set_option maxRecDepth 20000
namespace Go.Proofs.Ytdggnhgflfaffaa
open Go.ChangeShapes Go.WideShapes Go.ChangeAt Go.RowKit
set_option linter.unusedVariables false

def ringC (g cap fr n most : Nat) : Array Value := #[.slice (some ⟨g, 0, none⟩) cap cap, .int .i64 (fr : Int), .int .i64 (n : Int), .int .i64 (most : Int)]
/-- a ring in block b: its row, where it begins, what it holds -/
structure RingAt (w : World) (b g cap fr : Nat) (f : Nat → UInt8) (most : Nat) (s : ByteArray) : Prop where
  blk : Blk w b (ringC g cap fr s.size most) 99
  row : RowF w g cap f
  ne : b ≠ g
  fc : fr < cap
  sc : s.size ≤ cap
  cm : cap ≤ most
  mm : most ≤ 1048576
  at_ : ∀ i, i < s.size → f ((fr + i) % cap) = bt s i
theorem RingAt.cells {w : World} {b g cap fr : Nat} {f : Nat → UInt8} {most : Nat} {s : ByteArray} (h : RingAt w b g cap fr f most s) :
    w.cell? ⟨b, 0, none⟩ = some (.slice (some ⟨g, 0, none⟩) cap cap) ∧ w.cell? ⟨b, 1, none⟩ = some (.int .i64 (fr : Int)) ∧ w.cell? ⟨b, 2, none⟩ = some (.int .i64 (s.size : Int)) ∧ w.cell? ⟨b, 3, none⟩ = some (.int .i64 (most : Int)) :=
  ⟨h.blk.cell 0, h.blk.cell 1, h.blk.cell 2, h.blk.cell 3⟩
theorem RingAt.kept {w w' : World} {b g cap fr : Nat} {f : Nat → UInt8} {most : Nat} {s : ByteArray} {r : List Nat} (h : RingAt w b g cap fr f most s) (hk : Kept r w w') (h1 : b ∉ r) (h2 : g ∉ r) : RingAt w' b g cap fr f most s :=
  ⟨h.blk.kept hk h1, h.row.of_block hk.size (hk.block g h.row.lt h2), h.ne, h.fc, h.sc, h.cm, h.mm, h.at_⟩
def Ring (w : World) (b g most : Nat) (s : ByteArray) : Prop := ∃ cap fr f, RingAt w b g cap fr f most s

theorem new_bad (room : Int) (hb : room < 1 ∨ 1048576 < room) (w : World) : Calls Try.prog 28 #[.int .i64 room] w fun e w' => e = .returned (.tuple #[.pointer none, .int .i64 1]) ∧ w = w' := by
  by_cases h1 : room < 1
  all_goals
    go_enter Try.func28, Try.ntmps28
    go_wp2
    go_ret2
    exact ⟨rfl, rfl⟩
def NewPost (W : World) (most : Nat) (e : Ending) (w' : World) : Prop := ∃ b g, e = .returned (.tuple #[.pointer (some ⟨b, 0, none⟩), .int .i64 0]) ∧ Ring w' b g most ⟨#[]⟩ ∧ W.heap.size ≤ b ∧ W.heap.size ≤ g ∧ Below W.heap.size W w'
theorem new_good (most : Nat) (h1 : 1 ≤ most) (h2 : most ≤ 1048576) (w : World) : Calls Try.prog 28 #[.int .i64 (most : Int)] w (NewPost w most) := by
  obtain ⟨c, hc⟩ : ∃ c : Nat, min (most : Int) 64 = (c : Int) := ⟨min most 64, by omega⟩
  have hmk := make_bytes c (by omega)
  have hc1 : 1 ≤ c := by omega
  have hc2 : c ≤ most := by omega
  go_enter Try.func28, Try.ntmps28
  go_wp2
  go_ret2
  refine ⟨w.heap.size + 1, w.heap.size, rfl, ⟨c, 0, fun _ => 0, ?_, RowF.alloc zrow_row _, by omega, by omega, Nat.zero_le _, hc2, h2, fun i hi => absurd hi (Nat.not_lt_zero _)⟩, by omega, Nat.le_refl _, by go_grown⟩
  exact Blk.new' (by simp)
theorem len_any (b g most : Nat) (s : ByteArray) (w : World) (h : Ring w b g most s) : Calls Try.prog 42 #[.pointer (some ⟨b, 0, none⟩)] w fun e w' => e = .returned (.int .i64 (s.size : Int)) ∧ w = w' := by
  obtain ⟨cap, fr, f, h⟩ := h
  obtain ⟨c0, c1, c2, c3⟩ := h.cells
  go_enter Try.func42, Try.ntmps42
  go_wp2
  go_ret
  exact ⟨rfl, rfl⟩
theorem len_nil (w : World) : Calls Try.prog 42 #[.pointer none] w fun e w' => e = .returned (.int .i64 0) ∧ w = w' := by
  go_enter Try.func42, Try.ntmps42
  go_wp2
  go_ret
  exact ⟨rfl, rfl⟩
def RRoomPost (W : World) (n : Int) (e : Ending) (w' : World) : Prop := e = .returned (.int .i64 n) ∧ ∃ k, w' = W.drewN k
theorem rroom_any (b g most : Nat) (s : ByteArray) (w : World) (h : Ring w b g most s) : Calls Try.prog 51 #[.pointer (some ⟨b, 0, none⟩)] w (RRoomPost w ((most : Int) - (s.size : Int))) := by
  obtain ⟨cap, fr, f, h⟩ := h
  obtain ⟨c0, c1, c2, c3⟩ := h.cells
  have h1 := h.sc
  have h2 := h.cm
  have h3 := h.mm
  have q1 : IntKind.i64.wrap ((most : Int) - (s.size : Int)) = (most : Int) - (s.size : Int) := IntWalk.i64_in _ (by omega)
  go_enter Try.func51, Try.ntmps51
  go_wp2
  go_quiet (fail)
  go_wp2
  go_ret
  exact ⟨rfl, _, rfl⟩
theorem room_nil (w : World) : Calls Try.prog 51 #[.pointer none] w (RRoomPost w 0) := by
  go_enter Try.func51, Try.ntmps51
  go_wp2
  go_ret
  exact ⟨rfl, 0, rfl⟩
def ActPost (W : World) (b g most : Nat) (s : ByteArray) (v : Value) (e : Ending) (w' : World) : Prop := e = .returned v ∧ ∃ g', Ring w' b g' most s ∧ Kept [b, g] W w' ∧ (g' = g ∨ W.heap.size ≤ g')
end Go.Proofs.Ytdggnhgflfaffaa
