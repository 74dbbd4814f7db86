/- merge.All: its contracts; no list is longer than can be. -/
import Derived.Test.YtplgcnlnhboneaaMergeNext
import Derived.WalkMore
import Derived.Deep.LoopGhost
namespace Go.Proofs.Ytplgcnlnhboneaa
open Go.ChangeShapes Go.WideShapes Go.ChangeAt Go.RowKit
set_option linter.unusedVariables false

theorem mint_info : (Try.prog.info? 3).map (fun i => (i.zero, i.size, i.bytes)) = some (some (.int .i64 0), 1, 8) := by kernel_rfl
def irow (n : Nat) : Array Value := Array.replicate n (.int .i64 0)
theorem make_ints (n : Nat) (hn : n ≤ 1048576) (w : World) : (Instr.makeSlice 40 (.int .i64 (n : Int)) (.int .i64 (n : Int))).run Try.prog w = .ok (.slice (some ⟨w.heap.size, 0, none⟩) n n) (w.alloc (.cells (irow n) 3)) := by
  obtain ⟨i0, hi, hz0, hz1, hz2⟩ := info_parts mint_info
  have hb : (i0.bytes : Int) * (n : Int) ≤ 281474976710656 := by rw [hz2]; omega
  have hr := run_make (P := Try.prog) w 40 3 i0 (.int .i64 0) Try.underlying40 hi hz0 .i64 .i64 n n (by omega) (by omega) hb (by omega)
  simp only [Int.toNat_natCast] at hr
  rw [hr]
  congr 3
  rw [hz1, Nat.mul_one]
  apply Array.ext'
  rw [show (Value.int .i64 0).cells = #[Value.int .i64 0] from rfl, toList_madeCells_one]
  simp [irow]
theorem irow_row {w : World} {g n : Nat} (h : Blk w g (irow n) 3) : RowV w g n (fun _ => .int .i64 0) :=
  RowV.of_blk _ _ h (fun j hj => by simp [irow, hj])
theorem due_eq_same (x : Du) (w : World) : (binOp .eql 30 (.agg #[.int .i64 x.st, .int .u32 x.bl, .int .i64 x.at_]) (.agg #[.int .i64 x.st, .int .u32 x.bl, .int .i64 x.at_])).run Try.prog w = .ok (.bool true) w := by
  rw [due_eq]; simp
theorem due_eq_not (x y : Du) (h : x ≠ y) (w : World) : (binOp .eql 30 (.agg #[.int .i64 x.st, .int .u32 x.bl, .int .i64 x.at_]) (.agg #[.int .i64 y.st, .int .u32 y.bl, .int .i64 y.at_])).run Try.prog w = .ok (.bool false) w := by
  rw [due_eq]
  have : ¬ (x.st = y.st ∧ x.bl = y.bl ∧ x.at_ = y.at_) := fun ⟨h1, h2, h3⟩ => h (by cases x; cases y; simp at h1 h2 h3; rw [h1, h2, h3])
  simp [this]
set_option maxRecDepth 100000 in
set_option maxHeartbeats 4000000 in
theorem mrises_nil (p : Option Addr) (cap : Nat) (w : World) : Calls Try.prog 9 #[.slice p 0 cap] w (RisPost w []) := by
  go_enter Try.func9, Try.ntmps9
  go_wp2_with fail
  go_loopw [7] (fun iv wr => iv = .int .i64 0 ∧ Below w.heap.size w wr) (fun iv _ => 0)
  case atStart => exact ⟨rfl, Below.refl _ _⟩
  case round =>
    obtain ⟨rfl, hb⟩ := hrel
    go_wp2_with fail
    go_ret
    exact ⟨true, rfl, ⟨fun _ j h1 h2 => absurd h2 (by simp), fun _ => rfl⟩, hb⟩
theorem mrises_any {w : World} {B : Nat} {a : Option Addr} {m b off : Nat} {R : Nat → Option Addr × Nat} {Ls : Nat → List Du} (h : Lists w B a m b off R Ls) (hB : B ≤ w.heap.size) (i : Nat) (hi : i < m) : Calls Try.prog 9 #[.slice (R i).1 (Ls i).length (R i).2] w (RisPost w (Ls i)) := by
  by_cases h0 : 0 < (Ls i).length
  · exact mrises _ _ _ _ (h.src i hi h0) (fun a ha => by have := h.blk i hi h0 a ha; omega)
  · have e : Ls i = [] := List.eq_nil_of_length_eq_zero (by omega)
    rw [e]
    exact mrises_nil _ _ _
set_option maxRecDepth 100000 in
theorem all_long (a : Option Addr) (m cap : Nat) (hc : cap ≤ maxLen) (hlc : m ≤ cap) (hm : 256 < m) (w : World) : Calls Try.prog 6 #[.slice a m cap] w fun e w' => e = .returned (.tuple #[.slice none 0 0, .int .i64 3]) ∧ Below w.heap.size w w' := by
  unfold maxLen at hc
  go_enter Try.func6, Try.ntmps6
  go_wp2_with fail
  go_step3
  go_wp2_with fail
  try rw [Exit.noGoto_ret]
  go_returns
  exact ⟨rfl, by go_grown⟩
set_option maxRecDepth 100000 in
set_option maxHeartbeats 4000000 in
theorem all_form (a : Option Addr) (m cap bl off : Nat) (R : Nat → Option Addr × Nat) (Ls : Nat → List Du) (hc : cap ≤ maxLen) (hlc : m ≤ cap) (hm : m ≤ 256) (w : World) (hL : Lists w w.heap.size a m bl off R Ls) (hn : ¬ ∀ i, i < m → risB (Ls i) (Ls i).length) :
    Calls Try.prog 6 #[.slice a m cap] w fun e w' => e = .returned (.tuple #[.slice none 0 0, .int .i64 5]) ∧ Below w.heap.size w w' := by
  unfold maxLen at hc
  have HN := Lib.hid hn
  have HL := Lib.hid hL
  clear hn hL
  go_enter Try.func6, Try.ntmps6
  go_wp2_with fail
  go_step3
  generalize hw1 : w.alloc _ = w1
  have hb1 : Below w.heap.size w w1 := by rw [← hw1]; exact (Below.refl _ _).alloc (Nat.le_refl _) _
  have hL1 : Blk w1 w.heap.size #[.slice a m cap] 22 := by rw [← hw1]; exact Blk.new _ _ _
  have HB1 := Lib.hid hb1
  have HL1 := Lib.hid hL1
  have hz1 : w1.heap.size = w.heap.size + 1 := by rw [← hw1]; simp
  have c1 := hL1.one
  clear hw1 hb1 hL1
  go_wp2_with fail
  go_loopw [19] (fun iv wr => ∃ i : Nat, iv = .int .i64 (i : Int) ∧ i ≤ m ∧ (∀ j, j < i → risB (Ls j) (Ls j).length) ∧ Below (w.heap.size + 1) w1 wr) (fun iv _ => m - (intOf iv).toNat)
  case atStart => exact ⟨0, rfl, Nat.zero_le _, fun j hj => absurd hj (Nat.not_lt_zero _), Below.refl _ _⟩
  case round =>
    obtain ⟨i, rfl, hi, hj, hb⟩ := hrel
    have HJ := Lib.hid hj
    have HB := Lib.hid hb
    clear hj
    by_cases him : i < m
    · have hbe : Below w.heap.size w wr := HB1.out.trans (hb.mono (by omega))
      have hL2 := HL.out.below hbe
      have c2 := hL2.cell i him
      have ha := hL2.at_ (by omega)
      subst ha
      have HR := Lib.hid (mrises_any hL2 hbe.size i him)
      have HBE := Lib.hid hbe
      clear hb hbe hL2
      generalize (R i).1 = rp at *
      generalize (R i).2 = rc at *
      generalize hgn : (Ls i).length = rn at *
      clear hgn
      go_wp2_with fail
      refine HR.out.mono ?_
      rintro e w3 ⟨r, rfl, hr, hb3⟩
      have hb3' : Below w.heap.size w w3 := HBE.out.trans (hb3.mono HBE.out.size)
      have hb4 : Below (w.heap.size + 1) w1 w3 := HB.out.trans (hb3.mono (by have := HB.out.size; omega))
      cases r with
      | false =>
        clear hr
        go_wp2_with fail
        try rw [Exit.noGoto_ret]
        go_returns
        exact ⟨rfl, hb3'⟩
      | true =>
        have HI := Lib.hid (hr.1 rfl)
        clear hr
        go_wp2_with fail
        go_roundw
        case rel => exact ⟨i + 1, by go_num, by omega, fun j hj => by (rcases Nat.lt_or_ge j i with h | h); exact HJ.out j h; (obtain rfl : j = i := by omega); exact HI.out, hb4⟩
        case measure => simp [intOf]; omega
    · exact absurd (fun j hj => HJ.out j (by omega)) HN.out
end Go.Proofs.Ytplgcnlnhboneaa
