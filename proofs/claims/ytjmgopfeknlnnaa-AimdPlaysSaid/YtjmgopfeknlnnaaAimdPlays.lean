/- The walk of AimdPlays. -/
import Derived.Test.YtjmgopfeknlnnaaAimdRef3
import Derived.Test.YtjmgopfeknlnnaaAimdLaws
import Derived.Deep.RegionWith
import Derived.Test.YtjmgopfeknlnnaaKeep
namespace Go.Proofs.Ytjmgopfeknlnnaa
open Go.ChangeShapes Go.WideShapes Go.ChangeAt Go.RowKit
set_option linter.unusedVariables false

/-- the law's own copy: seven cells -/
def IsCopy (w : World) (b : Nat) (x : Win) : Prop := Blk w b x.cells 30
theorem copy_cells {w : World} {b : Nat} {x : Win} (h : IsCopy w b x) : w.cell? ⟨b, 0, none⟩ = some (.int .i64 x.least) ∧ w.cell? ⟨b, 1, none⟩ = some (.int .i64 x.most) ∧ w.cell? ⟨b, 2, none⟩ = some (.int .i64 x.size) ∧ w.cell? ⟨b, 3, none⟩ = some (.int .i64 x.bound) ∧ w.cell? ⟨b, 4, none⟩ = some (.int .i64 x.owed) ∧ w.cell? ⟨b, 5, none⟩ = some (.int .u32 x.next) ∧ w.cell? ⟨b, 6, none⟩ = some (.bool x.lost) :=
  ⟨h.cell 0, h.cell 1, h.cell 2, h.cell 3, h.cell 4, h.cell 5, h.cell 6⟩
def APost (W : World) (y : Win) (e : Ending) (w' : World) : Prop := e = .returned (.agg #[.int .i64 y.least, .int .i64 y.most, .int .i64 y.size, .int .i64 y.bound, .int .i64 y.owed, .int .u32 y.next, .bool y.lost]) ∧ Below W.heap.size W w'
theorem refAcked_lit (x y : Win) (n : Int) (hx : x.Ok) (hy : acked x n = y) (w : World) : Calls Try.prog 9 #[.agg #[.int .i64 x.least, .int .i64 x.most, .int .i64 x.size, .int .i64 x.bound, .int .i64 x.owed, .int .u32 x.next, .bool x.lost], .int .i64 n] w (APost w y) := by
  subst hy; exact refAcked_any x n hx w
def LLPost (W : World) (y : Win) (r : Bool) (e : Ending) (w' : World) : Prop := e = .returned (.tuple #[.agg #[.int .i64 y.least, .int .i64 y.most, .int .i64 y.size, .int .i64 y.bound, .int .i64 y.owed, .int .u32 y.next, .bool y.lost], .bool r]) ∧ Below W.heap.size W w'
theorem refLost_lit (x y : Win) (bl nx : Int) (r : Bool) (hx : x.Ok) (h0 : 0 ≤ bl) (h1 : bl < 4294967296) (hy : lostW x bl nx = y) (hr : lossB x bl = r) (w : World) :
    Calls Try.prog 7 #[.agg #[.int .i64 x.least, .int .i64 x.most, .int .i64 x.size, .int .i64 x.bound, .int .i64 x.owed, .int .u32 x.next, .bool x.lost], .int .u32 bl, .int .u32 nx] w (LLPost w y r) := by
  subst hy hr; exact refLost_any x bl nx hx h0 h1 w
set_option maxRecDepth 100000 in
set_option maxHeartbeats 8000000 in
theorem plays_few (l h : Int) (a : Option Addr) (len cap bl off : Nat) (N B X : Nat → Int) (L : Nat → Bool) (h0 : 1 ≤ l) (h1 : l ≤ h) (h2 : h ≤ 65535) (hl : len ≤ 60) (W : World)
    (ha : 0 < len → a = some ⟨bl, off, none⟩) (hlt : len = 0 ∨ bl < W.heap.size)
    (hN : ∀ i, i < len → W.cell? ⟨bl, off + i * 4, none⟩ = some (.int .i64 (N i))) (hL : ∀ i, i < len → W.cell? ⟨bl, off + i * 4 + 1, none⟩ = some (.bool (L i)))
    (hB : ∀ i, i < len → W.cell? ⟨bl, off + i * 4 + 2, none⟩ = some (.int .u32 (B i))) (hX : ∀ i, i < len → W.cell? ⟨bl, off + i * 4 + 3, none⟩ = some (.int .u32 (X i)))
    (hB0 : ∀ i, i < len → 0 ≤ B i ∧ B i < 4294967296) (hX0 : ∀ i, i < len → 0 ≤ X i ∧ X i < 4294967296) :
    Calls Try.prog 3 #[.int .i64 l, .int .i64 h, .slice a len cap] W (TruePost W) := by
  have q1 : decide (l < 1) = false := by simp; omega
  have q2 : decide (h < l) = false := by simp; omega
  have q3 : decide (65535 < h) = false := by simp; omega
  go_enter Try.func3, Try.ntmps3
  go_wp2_with fail
  refine (new_good l h (by omega) (by omega) (by omega) _).mono ?_
  rintro e w1 ⟨rfl, hW1, hB1⟩
  have hlt1 := Blk.lt hW1
  go_wp2_with fail
  go_loopw [10] (fun iv wr => ∃ (k : Nat) (x : Win), k ≤ len ∧ iv = .int .i64 k ∧ x.Ok ∧ IsWin wr W.heap.size x ∧ IsCopy wr w1.heap.size x ∧ Below W.heap.size W wr) (fun iv _ => len - (intOf iv).toNat)
  case atStart => exact ⟨0, freshW l h, Nat.zero_le _, rfl, fresh_ok l h h0 h1 (by omega), Blk.alloc hW1 _, Blk.new _ _ _, by go_grown⟩
  case round =>
    obtain ⟨k, x, hk, rfl, hx, hW2, hC2, hb⟩ := hrel
    by_cases hlk : k < len
    · have hbl : bl < W.heap.size := by omega
      have ha' := ha (by omega)
      subst ha'
      have cN : wr.cell? ⟨bl, off + k * 4, none⟩ = some (.int .i64 (N k)) := by rw [(bcell hb).1 _ _ hbl]; exact hN k hlk
      have cL : wr.cell? ⟨bl, off + k * 4 + 1, none⟩ = some (.bool (L k)) := by rw [(bcell hb).1 _ _ hbl]; exact hL k hlk
      have cB : wr.cell? ⟨bl, off + k * 4 + 2, none⟩ = some (.int .u32 (B k)) := by rw [(bcell hb).1 _ _ hbl]; exact hB k hlk
      have cX : wr.cell? ⟨bl, off + k * 4 + 3, none⟩ = some (.int .u32 (X k)) := by rw [(bcell hb).1 _ _ hbl]; exact hX k hlk
      have hNk := hN k hlk
      have hBk := hB0 k hlk
      have hXk := hX0 k hlk
      have hCl := Blk.lt hC2
      have hWl := Blk.lt hW2
      have hblw : bl < wr.heap.size := by omega
      have HNk := Lib.hid hNk
      have hBW := hB k hlk
      have hXW := hX k hlk
      clear hN hL hB hX hB0 hX0 hNk
      obtain ⟨d0, d1, d2, d3, d4, d5, d6⟩ := copy_cells hC2
      cases hLk : L k with
      | true =>
        rw [hLk] at cL
        have hy := lost_ok hx (B k) (X k) hXk.1 hXk.2
        have HR := Lib.hid (refLost_lit x (lostW x (B k) (X k)) (B k) (X k) (lossB x (B k)) hx hBk.1 hBk.2 rfl rfl)
        have HA := Lib.hid (lost_at W.heap.size x (lostW x (B k) (X k)) (B k) (X k) (lossB x (B k)) hx hBk.1 hBk.2 rfl rfl)
        generalize lostW x (B k) (X k) = y at *
        generalize lossB x (B k) = r at *
        have br : (r != r) = false := by simp
        have hne : W.heap.size ≠ w1.heap.size := Nat.ne_of_lt hlt1
        have HBk := Lib.hid hBW
        have HXk := Lib.hid hXW
        clear hBW hXW
        go_wp2_with fail
        go_region_held3 (fun w' => w'.cell? ⟨w1.heap.size, 0, none⟩ = some (.int .i64 x.least) ∧ w'.cell? ⟨w1.heap.size, 1, none⟩ = some (.int .i64 x.most) ∧ w'.cell? ⟨w1.heap.size, 2, none⟩ = some (.int .i64 x.size) ∧ w'.cell? ⟨w1.heap.size, 3, none⟩ = some (.int .i64 x.bound) ∧ w'.cell? ⟨w1.heap.size, 4, none⟩ = some (.int .i64 x.owed) ∧ w'.cell? ⟨w1.heap.size, 5, none⟩ = some (.int .u32 x.next) ∧ w'.cell? ⟨w1.heap.size, 6, none⟩ = some (.bool x.lost) ∧ w'.cell? ⟨bl, off + k * 4 + 2, none⟩ = some (.int .u32 (B k)) ∧ w'.cell? ⟨bl, off + k * 4 + 3, none⟩ = some (.int .u32 (X k)))  (repeat' (first | (with_reducible assumption) | refine ⟨?_, ?_⟩ | refine kset ?_ (by with_reducible assumption) | refine kalloc ?_ _ | refine kdrew ?_))  ((go_at_call 7; refine (HR.out _).mono ?_; rintro e w3 ⟨rfl, hb3⟩; have C3 : IsCopy w3 w1.heap.size x := Blk.below (w := _) (by first | exact hC2 | exact Blk.drew (Blk.alloc hC2 _)) hb3 (by first | exact hCl | (simp; omega)); have g0 := Blk.free C3; have lt3 := Blk.lt C3; have lb3 : bl < w3.heap.size := Nat.lt_of_lt_of_le hblw (Nat.le_trans (by simp) hb3.size); obtain ⟨e0, e1, e2, e3, e4, e5, e6⟩ := copy_cells C3; have f2 : w3.cell? ⟨bl, off + k * 4 + 2, none⟩ = some (.int .u32 (B k)) := (hb3.cell (by simp; omega)).trans (by first | exact cB | exact (World.cell?_alloc_lt _ _ _ (by assumption)).trans (by assumption)); have f3 : w3.cell? ⟨bl, off + k * 4 + 3, none⟩ = some (.int .u32 (X k)) := (hb3.cell (by simp; omega)).trans (by first | exact cX | exact (World.cell?_alloc_lt _ _ _ (by assumption)).trans (by assumption)); (try (have Y3 : Blk w3 wr.heap.size #[.int .i64 0, .int .i64 0, .int .i64 0, .int .i64 0, .int .i64 0, .int .u32 0, .bool false] 30 := Blk.below (w := _) (by exact Blk.drew (Blk.new wr _ _)) hb3 (by simp); have y0 := Blk.free Y3; have y1 := Y3.cell 0; have y2 := Y3.cell 1; have y3 := Y3.cell 2; have y4 := Y3.cell 3; have y5 := Y3.cell 4; have y6 := Y3.cell 5; have y7 := Y3.cell 6; have yl := Blk.lt Y3; have yn : w1.heap.size ≠ wr.heap.size := Nat.ne_of_lt hCl; have yn2 : bl ≠ wr.heap.size := Nat.ne_of_lt hblw))))
        · go_wp2_with fail
          have W3 : IsWin w3 W.heap.size x := Blk.below (w := _) (by exact hW2) hb3 (by exact hWl)
          have S3 : Below W.heap.size W w3 := Below.trans (b := _) (by exact hb.drew) (hb3.mono (by exact hb.size))
          generalize hw4 : World.setCell _ _ _ = w4a
          have C4 : IsCopy w4a w1.heap.size y := by
            rw [← hw4]; unfold IsCopy Win.cells; refine Blk.fill7 (c0 := Value.int .i64 x.least) (c1 := Value.int .i64 x.most) (c2 := Value.int .i64 x.size) (c3 := Value.int .i64 x.bound) (c4 := Value.int .i64 x.owed) (c5 := Value.int .u32 x.next) (c6 := Value.bool x.lost) ?_; exact C3
          have W4 : IsWin w4a W.heap.size x := by
            rw [← hw4]; unfold IsWin; iterate 7 refine Blk.other ?_ _ hne _
            exact W3
          have S4 : Below W.heap.size W w4a := by rw [← hw4]; go_grown
          generalize hw5 : World.alloc w4a _ = w4 at *
          replace C4 : IsCopy w4 w1.heap.size y := by rw [← hw5]; exact Blk.alloc C4 _
          replace W4 : IsWin w4 W.heap.size x := by rw [← hw5]; exact Blk.alloc W4 _
          replace S4 : Below W.heap.size W w4 := by rw [← hw5]; exact S4.alloc S4.size _
          clear hw5 hw4 C3 W3 S3 cN cL cB cX d0 d1 d2 d3 d4 d5 d6 hb3 g0 e0 e1 e2 e3 e4 e5 e6 f2 f3
          clear w4a
          have cB : w4.cell? ⟨bl, off + k * 4 + 2, none⟩ = some (.int .u32 (B k)) := ((bcell S4).1 _ _ hbl).trans HBk.out
          have cX : w4.cell? ⟨bl, off + k * 4 + 3, none⟩ = some (.int .u32 (X k)) := ((bcell S4).1 _ _ hbl).trans HXk.out
          go_region_held3 (fun w' => w'.cell? ⟨bl, off + k * 4 + 2, none⟩ = some (.int .u32 (B k)) ∧ w'.cell? ⟨bl, off + k * 4 + 3, none⟩ = some (.int .u32 (X k))) (first | exact ⟨cB, cX⟩ | exact ⟨kbelow (below_g hG5 (Nat.le_refl _) S4.size) hbl cB, kbelow (below_g hG5 (Nat.le_refl _) S4.size) hbl cX⟩) ((go_at_call 8; refine (HA.out _ (by exact W4)).mono ?_; rintro e w5 ⟨rfl, hW5, hG5⟩))

          all_goals
            have C5 : IsCopy w5 w1.heap.size y := Blk.grown (w := _) (by exact C4) hG5 (by simpa using hne.symm)
            have S5 := Below.trans (b := _) (by exact S4.drew) (below_g hG5 (Nat.le_refl _) S4.size)
            obtain ⟨e0, e1, e2, e3, e4, e5, e6⟩ := copy_cells C5

            have b1 : (y.size == y.size) = true := by simp
            go_wp2_with fail
            go_quiet ((first | (go_at_call 11; exact Calls.quiet_of_same ((size_any _ _ _ (by exact hW5)).mono fun e w' h => ⟨h.1, h.2.symm⟩)) | (go_at_call 12; exact Calls.quiet_of ((slow_any _ _ _ (by exact hW5)).mono fun e w' h => h))))
            go_wp2_with fail
            go_roundw
            case rel => exact ⟨k + 1, y, by omega, by go_num, hy, (by exact hW5), (by exact C5), by first | exact bdrewN S5 _ | exact bdrewN (bdrewN S5 _) _ | exact S5⟩
            case measure => simp [intOf]; omega
        · go_wp2_with fail
          have W3 : IsWin w3 W.heap.size x := Blk.below (w := _) (by exact Blk.drew (Blk.alloc hW2 _)) hb3 (by simp; omega)
          have S3 : Below W.heap.size W w3 := Below.trans (b := _) (by exact (hb.alloc (by exact hb.size) _).drew) (hb3.mono (by simp; have := hb.size; omega))
          have hyW : W.heap.size ≠ wr.heap.size := Nat.ne_of_lt hWl
          generalize hw4 : World.setCell _ _ _ = w4
          have C4 : IsCopy w4 w1.heap.size y := by
            rw [← hw4]; unfold IsCopy Win.cells; refine Blk.fill7 (c0 := Value.int .i64 x.least) (c1 := Value.int .i64 x.most) (c2 := Value.int .i64 x.size) (c3 := Value.int .i64 x.bound) (c4 := Value.int .i64 x.owed) (c5 := Value.int .u32 x.next) (c6 := Value.bool x.lost) ?_; iterate 7 refine Blk.other ?_ _ yn _
            exact C3
          have W4 : IsWin w4 W.heap.size x := by
            rw [← hw4]; unfold IsWin; iterate 7 refine Blk.other ?_ _ hne _
            iterate 7 refine Blk.other ?_ _ hyW _
            exact W3
          have S4 : Below W.heap.size W w4 := by rw [← hw4]; go_grown
          clear hw4 C3 W3 S3 cN cL cB cX d0 d1 d2 d3 d4 d5 d6 hb3 g0 e0 e1 e2 e3 e4 e5 e6 f2 f3 Y3 y0 y1 y2 y3 y4 y5 y6 y7
          have cB : w4.cell? ⟨bl, off + k * 4 + 2, none⟩ = some (.int .u32 (B k)) := ((bcell S4).1 _ _ hbl).trans HBk.out
          have cX : w4.cell? ⟨bl, off + k * 4 + 3, none⟩ = some (.int .u32 (X k)) := ((bcell S4).1 _ _ hbl).trans HXk.out
          go_region_held3 (fun w' => w'.cell? ⟨bl, off + k * 4 + 2, none⟩ = some (.int .u32 (B k)) ∧ w'.cell? ⟨bl, off + k * 4 + 3, none⟩ = some (.int .u32 (X k))) (first | exact ⟨cB, cX⟩ | exact ⟨kbelow (below_g hG5 (Nat.le_refl _) S4.size) hbl cB, kbelow (below_g hG5 (Nat.le_refl _) S4.size) hbl cX⟩) ((go_at_call 8; refine (HA.out _ (by exact W4)).mono ?_; rintro e w5 ⟨rfl, hW5, hG5⟩))

          all_goals
            have C5 : IsCopy w5 w1.heap.size y := Blk.grown (w := _) (by exact C4) hG5 (by simpa using hne.symm)
            have S5 := Below.trans (b := _) (by exact S4.drew) (below_g hG5 (Nat.le_refl _) S4.size)
            obtain ⟨e0, e1, e2, e3, e4, e5, e6⟩ := copy_cells C5

            have b1 : (y.size == y.size) = true := by simp
            go_wp2_with fail
            go_quiet ((first | (go_at_call 11; exact Calls.quiet_of_same ((size_any _ _ _ (by exact hW5)).mono fun e w' h => ⟨h.1, h.2.symm⟩)) | (go_at_call 12; exact Calls.quiet_of ((slow_any _ _ _ (by exact hW5)).mono fun e w' h => h))))
            go_wp2_with fail
            go_roundw
            case rel => exact ⟨k + 1, y, by omega, by go_num, hy, (by exact hW5), (by exact C5), by first | exact bdrewN S5 _ | exact bdrewN (bdrewN S5 _) _ | exact S5⟩
            case measure => simp [intOf]; omega
      | false =>
        rw [hLk] at cL
        clear hBW hXW
        have hy := (acked_ok hx (N k)).1
        have hack := acked_any W.heap.size x (acked x (N k)) (N k) hx rfl
        have HA := Lib.hid hack
        clear hack
        have HR := Lib.hid (refAcked_lit x (acked x (N k)) (N k) hx rfl)
        generalize acked x (N k) = y at *
        go_wp2_with fail
        go_region_with (go_at_call 9; refine (HR.out _).mono ?_; rintro e w3 ⟨rfl, hb3⟩; have C3 : IsCopy w3 w1.heap.size x := Blk.below (w := _) (by exact hC2) hb3 (by exact hCl); have g0 := Blk.free C3; obtain ⟨e0, e1, e2, e3, e4, e5, e6⟩ := copy_cells C3)
        all_goals
          have S3 : Below W.heap.size W w3 := Below.trans (b := _) (by first | exact hb | exact hb.drew | exact bdrewN hb _) (hb3.mono (by exact hb.size))
          have W3 : IsWin w3 W.heap.size x := Blk.below (w := _) (by exact hW2) hb3 (by exact hWl)
          have hne : W.heap.size ≠ w1.heap.size := Nat.ne_of_lt hlt1
          clear g0 e0 e1 e2 e3 e4 e5 e6
          generalize hw4 : World.setCell _ _ _ = w4
          have C4 : IsCopy w4 w1.heap.size y := by rw [← hw4]; exact C3.fill7
          have W4 : IsWin w4 W.heap.size x := by rw [← hw4]; exact ((((((Blk.other W3 _ hne _).other _ hne _).other _ hne _).other _ hne _).other _ hne _).other _ hne _).other _ hne _
          have S4 : Below W.heap.size W w4 := by rw [← hw4]; go_grown
          clear hw4 C3 W3 S3 cN cL cB cX d0 d1 d2 d3 d4 d5 d6 hb3
          have cN : w4.cell? ⟨bl, off + k * 4, none⟩ = some (.int .i64 (N k)) := ((bcell S4).1 _ _ hbl).trans HNk.out
          go_wp2_with fail
          refine (HA.out _ W4).mono ?_
          rintro e w5 ⟨rfl, hW5, hG5⟩
          have C5 : IsCopy w5 w1.heap.size y := Blk.grown C4 hG5 (by simpa using hne.symm)
          have S5 := S4.trans (below_g hG5 (Nat.le_refl _) S4.size)
          obtain ⟨e0, e1, e2, e3, e4, e5, e6⟩ := copy_cells C5
          have b1 : (y.size == y.size) = true := by simp
          go_wp2_with fail
          go_quiet ((first | (go_at_call 11; exact Calls.quiet_of_same ((size_any _ _ _ (by exact hW5)).mono fun e w' h => ⟨h.1, h.2.symm⟩)) | (go_at_call 12; exact Calls.quiet_of ((slow_any _ _ _ (by exact hW5)).mono fun e w' h => h))))
          go_wp2_with fail
          go_roundw
          case rel => exact ⟨k + 1, y, by omega, by go_num, hy, (by exact hW5), (by exact C5), by first | exact bdrewN S5 _ | exact bdrewN (bdrewN S5 _) _ | exact S5⟩
          case measure => simp [intOf]; omega
    · have hk0 : k = len := by omega
      go_wp2_with (go_at_call 5; refine (awake_true _).mono ?_; rintro e w6 ⟨rfl, hb6⟩)
      go_ret
      exact ⟨rfl, hb.trans (hb6.mono hb.size)⟩
end Go.Proofs.Ytjmgopfeknlnnaa
