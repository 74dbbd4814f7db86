/- InboundPlays: the easy ways. -/
import Derived.Test.YtdggnhgflfaffaaInbDo5
import Derived.Test.YtdggnhgflfaffaaInbRef3
import Derived.Test.YtdggnhgflfaffaaInbRef8
import Derived.Test.YtdggnhgflfaffaaInbLaw
namespace Go.Proofs.Ytdggnhgflfaffaa
set_option maxRecDepth 20000
open Go.ChangeShapes Go.WideShapes Go.ChangeAt Go.RowKit
set_option linter.unusedVariables false
set_option linter.unusedSimpArgs false

def SmallP (C : Nat → Int) : Prop := CkOk C ∧ C 0 ≤ 6 ∧ C 1 ≤ 6 ∧ C 2 ≤ 20 ∧ C 3 ≤ 8 ∧ C 4 ≤ 2000 ∧ C 5 ≤ 2000
set_option maxHeartbeats 2000000 in
theorem small_is (C : Nat → Int) (w : World) : Calls Try.prog 5 #[.agg (cfgV C)] w fun e w' => (e = .returned (.bool true) ∧ SmallP C ∨ e = .returned (.bool false) ∧ ¬ SmallP C) ∧ Below w.heap.size w w' := by
  obtain ⟨c0, c1, c2, c3, c4, c5, c6, c7, c8, c9, c10⟩ := cfgGet C
  have HCK : Hid (∀ w, Calls Try.prog 7 #[.agg #[.int .i64 (C 0), .int .i64 (C 1), .int .i64 (C 2), .int .i64 (C 3), .int .i64 (C 4), .int .i64 (C 5), .int .i64 (C 6), .int .i64 (C 7), .int .i64 (C 8), .int .i64 (C 9), .int .i64 (C 10)]] w (CheckPost w C)) := Lib.hid (fun w => rcheck C w)
  generalize hcv : cfgV C = cv at *
  have HV := Lib.hid hcv
  clear hcv
  go_enter Try.func5, Try.ntmps5
  go_wp2_with fail
  refine (HCK.out _).mono ?_
  rintro e w1 ⟨⟨rfl, hok⟩ | ⟨rfl, hno⟩, hb1⟩
  · have hB : Blk w1 w.heap.size (cfgV C) 23 := by
      rw [HV.out]
      exact (Blk.new w cv _).kept (Kept.of_below hb1 []) (by simp)
    obtain ⟨d0, d1, d2, d3, d4, d5, d6, d7, d8, d9, d10⟩ := cfgCells hB
    have HOK := Lib.hid hok
    have HB1 : Hid (Below w.heap.size w w1) := Lib.hid ((below1 w _).trans (hb1.mono (by simp)))
    clear hB hok hb1 c0 c1 c2 c3 c4 c5 c6 c7 c8 c9 c10 HCK
    go_wp2_with fail
    all_goals go_ret
    all_goals by_cases h5 : C 5 ≤ 2000
    all_goals first | exact ⟨.inl ⟨by first | rfl | (show Ending.returned (.bool (decide (C 5 ≤ 2000))) = _; rw [decide_eq_true h5]), HOK.out, by omega, by omega, by omega, by omega, by omega, by omega⟩, HB1.out⟩ | exact ⟨.inr ⟨by first | rfl | (show Ending.returned (.bool (decide (C 5 ≤ 2000))) = _; rw [decide_eq_false h5]), fun h => by have := h.2; omega⟩, HB1.out⟩
  · have HB1 : Hid (Below w.heap.size w w1) := Lib.hid ((below1 w _).trans (hb1.mono (by simp)))
    clear hb1 c0 c1 c2 c3 c4 c5 c6 c7 c8 c9 c10 HCK
    go_wp2_with fail
    go_ret
    exact ⟨.inr ⟨rfl, fun h => hno h.1⟩, HB1.out⟩
set_option maxHeartbeats 4000000 in
theorem plays_easy (C : Nat → Int) (a : Option Addr) (len cap : Nat) (hc : cap ≤ maxLen) (hlc : len ≤ cap) (hbad : ¬ (SmallP C ∧ len ≤ 60)) (w : World) : Calls Try.prog 3 #[.agg (cfgV C), .slice a len cap] w (TruePost w) := by
  obtain ⟨c0, c1, c2, c3, c4, c5, c6, c7, c8, c9, c10⟩ := cfgGet C
  have HSM0 : Hid (∀ w, Calls Try.prog 5 #[.agg #[.int .i64 (C 0), .int .i64 (C 1), .int .i64 (C 2), .int .i64 (C 3), .int .i64 (C 4), .int .i64 (C 5), .int .i64 (C 6), .int .i64 (C 7), .int .i64 (C 8), .int .i64 (C 9), .int .i64 (C 10)]] w fun e w' => (e = .returned (.bool true) ∧ SmallP C ∨ e = .returned (.bool false) ∧ ¬ SmallP C) ∧ Below w.heap.size w w') := Lib.hid (fun w => small_is C w)
  unfold maxLen at hc
  obtain ⟨sm, hsm, HSM⟩ : ∃ sm : Bool, (sm = true → SmallP C) ∧ Hid (∀ w, Calls Try.prog 5 #[.agg #[.int .i64 (C 0), .int .i64 (C 1), .int .i64 (C 2), .int .i64 (C 3), .int .i64 (C 4), .int .i64 (C 5), .int .i64 (C 6), .int .i64 (C 7), .int .i64 (C 8), .int .i64 (C 9), .int .i64 (C 10)]] w fun e w' => e = .returned (.bool sm) ∧ Below w.heap.size w w') := by
    by_cases h : SmallP C
    · exact ⟨true, fun _ => h, Lib.hid (fun w => (HSM0.out w).mono (fun e w' hh => by
        obtain ⟨h1 | h1, h2⟩ := hh
        · exact ⟨h1.1, h2⟩
        · exact (h1.2 h).elim))⟩
    · exact ⟨false, (fun h => by cases h), Lib.hid (fun w => (HSM0.out w).mono (fun e w' hh => by
        obtain ⟨h1 | h1, h2⟩ := hh
        · exact (h h1.2).elim
        · exact ⟨h1.1, h2⟩))⟩
  have hlen : sm = false ∨ sm = true ∧ 60 < len := by
    cases sm with
    | false => exact .inl rfl
    | true => exact .inr ⟨rfl, by by_cases h : len ≤ 60; exact (hbad ⟨hsm rfl, h⟩).elim; omega⟩
  clear HSM0 hsm hbad
  by_cases hok : CkOk C
  · have HN : Hid (∀ w, Calls Try.prog 6 #[.agg #[.int .i64 (C 0), .int .i64 (C 1), .int .i64 (C 2), .int .i64 (C 3), .int .i64 (C 4), .int .i64 (C 5), .int .i64 (C 6), .int .i64 (C 7), .int .i64 (C 8), .int .i64 (C 9), .int .i64 (C 10)], .int .i64 3] w fun e w' => (∃ b, e = .returned (.tuple #[.pointer (some ⟨b, 0, none⟩), .int .i64 0])) ∧ Below w.heap.size w w') := Lib.hid (fun w => (inew_good C 3 hok (by omega) (by omega) w).mono (fun e w' hh => by
      obtain ⟨b, R, win, que, rfl, h3, h5, hi, hl, hB⟩ := hh
      exact ⟨⟨b, rfl⟩, hB⟩))
    have HC : Hid (∀ w, Calls Try.prog 7 #[.agg #[.int .i64 (C 0), .int .i64 (C 1), .int .i64 (C 2), .int .i64 (C 3), .int .i64 (C 4), .int .i64 (C 5), .int .i64 (C 6), .int .i64 (C 7), .int .i64 (C 8), .int .i64 (C 9), .int .i64 (C 10)]] w fun e w' => e = .returned (.int .i64 0) ∧ Below w.heap.size w w') := Lib.hid (fun w => (rcheck C w).mono (fun e w' hh => by
      obtain ⟨h1 | h1, h2⟩ := hh
      · exact ⟨h1.1, h2⟩
      · exact (h1.2 hok).elim))
    generalize hcv : cfgV C = cv at *
    have HV := Lib.hid hcv
    clear hcv hok
    rcases hlen with rfl | ⟨rfl, hlen⟩
    ·
      go_enter Try.func3, Try.ntmps3
      go_wp2_with fail
      refine (HSM.out _).mono ?_
      rintro e w1 ⟨rfl, hb1⟩
      have hB : Blk w1 w.heap.size (cfgV C) 23 := by
        rw [HV.out]
        exact (Blk.new w cv _).kept (Kept.of_below hb1 []) (by simp)
      obtain ⟨d0, d1, d2, d3, d4, d5, d6, d7, d8, d9, d10⟩ := cfgCells hB
      have HB := Lib.hid hB
      have HB1 : Hid (Below w.heap.size w w1) := Lib.hid ((below1 w _).trans (hb1.mono (by simp)))
      clear hB hb1 c0 c1 c2 c3 c4 c5 c6 c7 c8 c9 c10 HSM
      go_wp2_with fail
      refine (HN.out _).mono ?_
      rintro e w2 ⟨⟨b, rfl⟩, hb2⟩
      have hB2 := HB.out.kept (Kept.of_below hb2 []) (by simp)
      obtain ⟨g0, g1, g2, g3, g4, g5, g6, g7, g8, g9, g10⟩ := cfgCells hB2
      have HB2 := Lib.hid hB2
      have HB3 : Hid (Below w.heap.size w w2) := Lib.hid (HB1.out.trans (hb2.mono HB1.out.size))
      clear hB2 hb2 d0 d1 d2 d3 d4 d5 d6 d7 d8 d9 d10 HB HB1 HN
      go_wp2_with fail
      refine (HC.out _).mono ?_
      rintro e w3 ⟨rfl, hb3⟩
      have hB3 := HB2.out.kept (Kept.of_below hb3 []) (by simp)
      obtain ⟨d0, d1, d2, d3, d4, d5, d6, d7, d8, d9, d10⟩ := cfgCells hB3
      have HB4 : Hid (Below w.heap.size w w3) := Lib.hid (HB3.out.trans (hb3.mono HB3.out.size))
      clear hB3 hb3 g0 g1 g2 g3 g4 g5 g6 g7 g8 g9 g10 HB2 HB3
      go_wp2_with fail
      refine (HC.out _).mono ?_
      rintro e w4 ⟨rfl, hb4⟩
      have HB5 : Hid (Below w.heap.size w w4) := Lib.hid (HB4.out.trans (hb4.mono HB4.out.size))
      clear hb4 d0 d1 d2 d3 d4 d5 d6 d7 d8 d9 d10 HB4 HC
      go_wp2_with (go_at_call 8; refine (awake_true _).mono ?_; rintro e w6 ⟨rfl, hb6⟩)
      go_ret
      exact ⟨rfl, HB5.out.trans (hb6.mono HB5.out.size)⟩
    ·
      go_enter Try.func3, Try.ntmps3
      go_wp2_with fail
      refine (HSM.out _).mono ?_
      rintro e w1 ⟨rfl, hb1⟩
      have hB : Blk w1 w.heap.size (cfgV C) 23 := by
        rw [HV.out]
        exact (Blk.new w cv _).kept (Kept.of_below hb1 []) (by simp)
      obtain ⟨d0, d1, d2, d3, d4, d5, d6, d7, d8, d9, d10⟩ := cfgCells hB
      have HB := Lib.hid hB
      have HB1 : Hid (Below w.heap.size w w1) := Lib.hid ((below1 w _).trans (hb1.mono (by simp)))
      clear hB hb1 c0 c1 c2 c3 c4 c5 c6 c7 c8 c9 c10 HSM
      go_wp2_with fail
      refine (HN.out _).mono ?_
      rintro e w2 ⟨⟨b, rfl⟩, hb2⟩
      have hB2 := HB.out.kept (Kept.of_below hb2 []) (by simp)
      obtain ⟨g0, g1, g2, g3, g4, g5, g6, g7, g8, g9, g10⟩ := cfgCells hB2
      have HB2 := Lib.hid hB2
      have HB3 : Hid (Below w.heap.size w w2) := Lib.hid (HB1.out.trans (hb2.mono HB1.out.size))
      clear hB2 hb2 d0 d1 d2 d3 d4 d5 d6 d7 d8 d9 d10 HB HB1 HN
      go_wp2_with fail
      refine (HC.out _).mono ?_
      rintro e w3 ⟨rfl, hb3⟩
      have hB3 := HB2.out.kept (Kept.of_below hb3 []) (by simp)
      obtain ⟨d0, d1, d2, d3, d4, d5, d6, d7, d8, d9, d10⟩ := cfgCells hB3
      have HB4 : Hid (Below w.heap.size w w3) := Lib.hid (HB3.out.trans (hb3.mono HB3.out.size))
      clear hB3 hb3 g0 g1 g2 g3 g4 g5 g6 g7 g8 g9 g10 HB2 HB3
      go_wp2_with fail
      refine (HC.out _).mono ?_
      rintro e w4 ⟨rfl, hb4⟩
      have HB5 : Hid (Below w.heap.size w w4) := Lib.hid (HB4.out.trans (hb4.mono HB4.out.size))
      clear hb4 d0 d1 d2 d3 d4 d5 d6 d7 d8 d9 d10 HB4 HC
      go_wp2_with (go_at_call 8; refine (awake_true _).mono ?_; rintro e w6 ⟨rfl, hb6⟩)
      go_ret
      exact ⟨rfl, HB5.out.trans (hb6.mono HB5.out.size)⟩
  · have HN : Hid (∀ w, Calls Try.prog 6 #[.agg #[.int .i64 (C 0), .int .i64 (C 1), .int .i64 (C 2), .int .i64 (C 3), .int .i64 (C 4), .int .i64 (C 5), .int .i64 (C 6), .int .i64 (C 7), .int .i64 (C 8), .int .i64 (C 9), .int .i64 (C 10)], .int .i64 3] w fun e w' => e = .returned (.tuple #[.pointer none, .int .i64 2]) ∧ Below w.heap.size w w') := Lib.hid (fun w => inew_bad C 3 (fun h => hok h.1) w)
    have HC : Hid (∀ w, Calls Try.prog 7 #[.agg #[.int .i64 (C 0), .int .i64 (C 1), .int .i64 (C 2), .int .i64 (C 3), .int .i64 (C 4), .int .i64 (C 5), .int .i64 (C 6), .int .i64 (C 7), .int .i64 (C 8), .int .i64 (C 9), .int .i64 (C 10)]] w fun e w' => e = .returned (.int .i64 2) ∧ Below w.heap.size w w') := Lib.hid (fun w => (rcheck C w).mono (fun e w' hh => by
      obtain ⟨h1 | h1, h2⟩ := hh
      · exact (hok h1.2).elim
      · exact ⟨h1.1, h2⟩))
    generalize hcv : cfgV C = cv at *
    have HV := Lib.hid hcv
    clear hcv hok
    rcases hlen with rfl | ⟨rfl, hlen⟩
    ·
      go_enter Try.func3, Try.ntmps3
      go_wp2_with fail
      refine (HSM.out _).mono ?_
      rintro e w1 ⟨rfl, hb1⟩
      have hB : Blk w1 w.heap.size (cfgV C) 23 := by
        rw [HV.out]
        exact (Blk.new w cv _).kept (Kept.of_below hb1 []) (by simp)
      obtain ⟨d0, d1, d2, d3, d4, d5, d6, d7, d8, d9, d10⟩ := cfgCells hB
      have HB := Lib.hid hB
      have HB1 : Hid (Below w.heap.size w w1) := Lib.hid ((below1 w _).trans (hb1.mono (by simp)))
      clear hB hb1 c0 c1 c2 c3 c4 c5 c6 c7 c8 c9 c10 HSM
      go_wp2_with fail
      refine (HN.out _).mono ?_
      rintro e w2 ⟨rfl, hb2⟩
      have hB2 := HB.out.kept (Kept.of_below hb2 []) (by simp)
      obtain ⟨g0, g1, g2, g3, g4, g5, g6, g7, g8, g9, g10⟩ := cfgCells hB2
      have HB2 := Lib.hid hB2
      have HB3 : Hid (Below w.heap.size w w2) := Lib.hid (HB1.out.trans (hb2.mono HB1.out.size))
      clear hB2 hb2 d0 d1 d2 d3 d4 d5 d6 d7 d8 d9 d10 HB HB1 HN
      go_wp2_with fail
      refine (HC.out _).mono ?_
      rintro e w3 ⟨rfl, hb3⟩
      have hB3 := HB2.out.kept (Kept.of_below hb3 []) (by simp)
      obtain ⟨d0, d1, d2, d3, d4, d5, d6, d7, d8, d9, d10⟩ := cfgCells hB3
      have HB4 : Hid (Below w.heap.size w w3) := Lib.hid (HB3.out.trans (hb3.mono HB3.out.size))
      clear hB3 hb3 g0 g1 g2 g3 g4 g5 g6 g7 g8 g9 g10 HB2 HB3
      go_wp2_with fail
      refine (HC.out _).mono ?_
      rintro e w4 ⟨rfl, hb4⟩
      have HB5 : Hid (Below w.heap.size w w4) := Lib.hid (HB4.out.trans (hb4.mono HB4.out.size))
      clear hb4 d0 d1 d2 d3 d4 d5 d6 d7 d8 d9 d10 HB4 HC
      go_wp2_with (go_at_call 8; refine (awake_true _).mono ?_; rintro e w6 ⟨rfl, hb6⟩)
      go_ret
      exact ⟨rfl, HB5.out.trans (hb6.mono HB5.out.size)⟩
    ·
      go_enter Try.func3, Try.ntmps3
      go_wp2_with fail
      refine (HSM.out _).mono ?_
      rintro e w1 ⟨rfl, hb1⟩
      have hB : Blk w1 w.heap.size (cfgV C) 23 := by
        rw [HV.out]
        exact (Blk.new w cv _).kept (Kept.of_below hb1 []) (by simp)
      obtain ⟨d0, d1, d2, d3, d4, d5, d6, d7, d8, d9, d10⟩ := cfgCells hB
      have HB := Lib.hid hB
      have HB1 : Hid (Below w.heap.size w w1) := Lib.hid ((below1 w _).trans (hb1.mono (by simp)))
      clear hB hb1 c0 c1 c2 c3 c4 c5 c6 c7 c8 c9 c10 HSM
      go_wp2_with fail
      refine (HN.out _).mono ?_
      rintro e w2 ⟨rfl, hb2⟩
      have hB2 := HB.out.kept (Kept.of_below hb2 []) (by simp)
      obtain ⟨g0, g1, g2, g3, g4, g5, g6, g7, g8, g9, g10⟩ := cfgCells hB2
      have HB2 := Lib.hid hB2
      have HB3 : Hid (Below w.heap.size w w2) := Lib.hid (HB1.out.trans (hb2.mono HB1.out.size))
      clear hB2 hb2 d0 d1 d2 d3 d4 d5 d6 d7 d8 d9 d10 HB HB1 HN
      go_wp2_with fail
      refine (HC.out _).mono ?_
      rintro e w3 ⟨rfl, hb3⟩
      have hB3 := HB2.out.kept (Kept.of_below hb3 []) (by simp)
      obtain ⟨d0, d1, d2, d3, d4, d5, d6, d7, d8, d9, d10⟩ := cfgCells hB3
      have HB4 : Hid (Below w.heap.size w w3) := Lib.hid (HB3.out.trans (hb3.mono HB3.out.size))
      clear hB3 hb3 g0 g1 g2 g3 g4 g5 g6 g7 g8 g9 g10 HB2 HB3
      go_wp2_with fail
      refine (HC.out _).mono ?_
      rintro e w4 ⟨rfl, hb4⟩
      have HB5 : Hid (Below w.heap.size w w4) := Lib.hid (HB4.out.trans (hb4.mono HB4.out.size))
      clear hb4 d0 d1 d2 d3 d4 d5 d6 d7 d8 d9 d10 HB4 HC
      go_wp2_with (go_at_call 8; refine (awake_true _).mono ?_; rintro e w6 ⟨rfl, hb6⟩)
      go_ret
      exact ⟨rfl, HB5.out.trans (hb6.mono HB5.out.size)⟩
end Go.Proofs.Ytdggnhgflfaffaa
