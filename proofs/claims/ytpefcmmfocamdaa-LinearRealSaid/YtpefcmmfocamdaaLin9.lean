/- linear.each, lightshipref11.Ints. -/
import Derived.Test.YtpefcmmfocamdaaLin8
namespace Go.Proofs.Ytpefcmmfocamdaa
open Go.ChangeShapes Go.WideShapes Go.ChangeAt Go.RowKit
set_option linter.unusedVariables false

theorem lbool_info : (Try.prog.info? 4).map (fun i => (i.zero, i.size, i.bytes)) = some (some (.bool false), 1, 1) := by kernel_rfl
def brow (n : Nat) : Array Value := Array.replicate n (.bool false)
theorem make_bools (n : Nat) (hn : n ≤ 1048576) (w : World) : (Instr.makeSlice 51 (.int .i64 (n : Int)) (.int .i64 (n : Int))).run Try.prog w = .ok (.slice (some ⟨w.heap.size, 0, none⟩) n n) (w.alloc (.cells (brow n) 4)) := by
  obtain ⟨i0, hi, hz0, hz1, hz2⟩ := info_parts lbool_info
  have hb : (i0.bytes : Int) * (n : Int) ≤ 281474976710656 := by rw [hz2]; omega
  have hr := run_make (P := Try.prog) w 51 4 i0 (.bool false) Try.underlying51 hi hz0 .i64 .i64 n n (by omega) (by omega) hb (by omega)
  simp only [Int.toNat_natCast] at hr
  rw [hr]
  congr 3
  rw [hz1, Nat.mul_one]
  apply Array.ext'
  rw [show (Value.bool false).cells = #[Value.bool false] from rfl, toList_madeCells_one]
  simp [brow]
theorem brow_row {w : World} {g n : Nat} (h : Blk w g (brow n) 4) : RowV w g n (fun _ => .bool false) :=
  RowV.of_blk _ _ h (fun j hj => by simp [brow, hj])
/-- which places came among the first i -/
def seenV (A : List Nat) (i j : Nat) : Value := .bool (decide (j ∈ A.take i))
theorem seen_set (A : List Nat) (i : Nat) (hi : i < A.length) (j : Nat) : upd (seenV A i) (gi A i) (.bool true) j = seenV A (i + 1) j := by
  have e : A.take (i + 1) = A.take i ++ [A[i]] := by rw [List.take_add_one, List.getElem?_eq_getElem hi]; rfl
  unfold upd seenV
  rw [e, gi_at A i hi]
  by_cases h : j = A[i]
  · rw [if_pos h, decide_eq_true (List.mem_append.2 (.inr (List.mem_singleton.2 h)))]
  · rw [if_neg h]
    congr 1
    rw [decide_eq_decide, List.mem_append, List.mem_singleton]
    exact ⟨.inl, fun k => k.elim id (fun k => absurd k h)⟩
theorem seen_not (A : List Nat) (hn : A.Nodup) (i : Nat) (hi : i < A.length) : seenV A i (gi A i) = .bool false := by
  unfold seenV
  congr 1
  rw [decide_eq_false_iff_not, gi_at A i hi]
  intro h
  obtain ⟨k, hk, e⟩ := List.mem_iff_getElem.1 h
  rw [List.length_take] at hk
  rw [List.getElem_take] at e
  unfold List.Nodup at hn
  rw [List.pairwise_iff_getElem] at hn
  exact hn k i (by omega) hi (by omega) e
set_option maxRecDepth 100000 in
set_option maxHeartbeats 4000000 in
theorem each_true (g oc n : Nat) (A : List Nat) (hA : A.Nodup) (hl : A.length = n) (hn : n ≤ 1000) (hm : ∀ k, k < n → gi A k < n) (w : World) (hr : RowV w g n (iv A)) :
    Calls Try.prog 16 #[.slice (some ⟨g, 0, none⟩) n oc, .int .i64 (n : Int)] w fun e w' => e = .returned (.bool true) ∧ Below w.heap.size w w' := by
  have hsz := make_bools n (by omega)
  have HR := Lib.hid hr
  have HL := Lib.hid hl
  have HA := Lib.hid hA
  clear hr hl hA
  go_enter Try.func16, Try.ntmps16
  go_wp2_with fail
  go_loopw [12] (fun iv' wr => ∃ i : Nat, iv' = .int .i64 (i : Int) ∧ i ≤ n ∧ RowV wr w.heap.size n (seenV A i) ∧ Below w.heap.size w wr) (fun iv' _ => n - (intOf iv').toNat)
  case atStart => exact ⟨0, rfl, by omega, (brow_row (Blk.new _ _ _)).congr (fun j hj => by simp [seenV]), (Below.refl _ _).alloc (Nat.le_refl _) _⟩
  case round =>
    obtain ⟨i, rfl, hi, hs, hb⟩ := hrel
    have HS := Lib.hid hs
    have HB := Lib.hid hb
    clear hs hb
    by_cases hin : i < n
    · have ci := (HR.out.kept (Kept.of_below HB.out []) (by simp)).cell hin
      have hx := hm i hin
      have cx := HS.out.cell hx
      have fx := HS.out.free hx
      rw [seen_not A HA.out i (by rw [HL.out]; exact hin)] at cx
      unfold iv at ci
      have HS2 := Lib.hid ((HS.out.set _ hx (.bool true)).congr (fun j hj => seen_set A i (by rw [HL.out]; exact hin) j))
      generalize gi A i = x at *
      have hsw := HS.out.1
      have q1 : (0 : Int) ≤ (i : Int) := by omega
      have q2 : (i : Int) < (n : Int) := by omega
      have q3 : (0 : Int) ≤ (x : Int) := by omega
      have q4 : (x : Int) < (n : Int) := by omega
      have d1 : decide ((x : Int) < 0) = false := by rw [decide_eq_false_iff_not]; omega
      have d2 : decide ((n : Int) ≤ (x : Int)) = false := by rw [decide_eq_false_iff_not]; omega
      go_wp2_with fail
      go_roundw
      case rel => exact ⟨i + 1, by go_num, by omega, HS2.out, HB.out.setCell (p := ⟨w.heap.size, x, none⟩) (Nat.le_refl _) _⟩
      case measure => simp [intOf]; omega
    · obtain rfl : i = n := by omega
      go_wp2_with fail
      go_ret
      exact ⟨ret_bool (by simp), HB.out⟩
set_option maxRecDepth 100000 in
set_option maxHeartbeats 4000000 in
theorem each_none (w : World) : Calls Try.prog 16 #[.slice none 0 0, .int .i64 1] w fun e w' => e = .returned (.bool false) ∧ Below w.heap.size w w' := by
  have hsz : ∀ w, (Instr.makeSlice 51 (.int .i64 1) (.int .i64 1)).run Try.prog w = .ok (.slice (some ⟨w.heap.size, 0, none⟩) 1 1) (w.alloc (.cells (brow 1) 4)) := fun w => make_bools 1 (by omega) w
  go_enter Try.func16, Try.ntmps16
  go_wp2_with fail
  go_loopw [12] (fun iv' wr => iv' = .int .i64 0 ∧ Below w.heap.size w wr) (fun iv' _ => 0)
  case atStart => exact ⟨rfl, (Below.refl _ _).alloc (Nat.le_refl _) _⟩
  case round =>
    obtain ⟨rfl, hb⟩ := hrel
    have HB := Lib.hid hb
    clear hb
    go_wp2_with fail
    go_ret
    exact ⟨rfl, HB.out⟩
set_option maxRecDepth 100000 in
set_option maxHeartbeats 4000000 in
theorem ints_same (g g2 n oc oc2 : Nat) (A : List Nat) (hn : n ≤ 1000) (w : World) (hr : RowV w g n (iv A)) (hr2 : RowV w g2 n (iv A)) :
    Calls Try.prog 7 #[.slice (some ⟨g, 0, none⟩) n oc, .slice (some ⟨g2, 0, none⟩) n oc2] w fun e w' => e = .returned (.bool true) ∧ Below w.heap.size w w' := by
  have HR := Lib.hid hr
  have HR2 := Lib.hid hr2
  clear hr hr2
  go_enter Try.func7, Try.ntmps7
  go_wp2_with fail
  go_loopw [5] (fun iv' wr => ∃ i : Nat, iv' = .int .i64 (i : Int) ∧ i ≤ n ∧ Kept [] w wr) (fun iv' _ => n - (intOf iv').toNat)
  case atStart => exact ⟨0, rfl, by omega, Kept.refl _ _⟩
  case round =>
    obtain ⟨i, rfl, hi, hk⟩ := hrel
    have HK := Lib.hid hk
    clear hk
    by_cases hin : i < n
    · have ci := (HR.out.kept HK.out (by simp)).cell hin
      have ck := (HR2.out.kept HK.out (by simp)).cell hin
      unfold iv at ci ck
      generalize gi A i = x at *
      have q1 : (0 : Int) ≤ (i : Int) := by omega
      have q2 : (i : Int) < (n : Int) := by omega
      have d1 : (((x : Nat) : Int) != (x : Int)) = false := by simp
      go_wp2_with fail
      go_quiet (fail)
      go_wp2_with fail
      go_roundw
      case rel => exact ⟨i + 1, by go_num, by omega, HK.out.drewN _⟩
      case measure => simp [intOf]; omega
    · obtain rfl : i = n := by omega
      go_wp2_with fail
      go_ret
      exact ⟨rfl, HK.out.below (Nat.le_refl _) (by simp)⟩
end Go.Proofs.Ytpefcmmfocamdaa
