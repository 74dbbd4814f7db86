/- Contracts of package ring: grow, Put. -/
import Derived.Test.YtdggnhgflfaffaaRing2
set_option maxRecDepth 20000
namespace Go.Proofs.Ytdggnhgflfaffaa
open Go.ChangeShapes Go.WideShapes Go.ChangeAt Go.RowKit
set_option linter.unusedVariables false

def GrowPost (W : World) (b g most need : Nat) (s : ByteArray) (e : Ending) (w' : World) : Prop :=
  e = .returned (.tuple #[]) ∧ ∃ g' cap fr f, RingAt w' b g' cap fr f most s ∧ need ≤ cap ∧ Kept [b] W w' ∧ (g' = g ∨ W.heap.size ≤ g')
set_option maxRecDepth 100000 in
set_option maxHeartbeats 2000000 in
theorem grow_any (b g most : Nat) (s : ByteArray) (need : Nat) (hn : need ≤ most) (hs : s.size ≤ need) (w : World) (h : Ring w b g most s) : Calls Try.prog 68 #[.pointer (some ⟨b, 0, none⟩), .int .i64 (need : Int)] w (GrowPost w b g most need s) := by
  have hR := Lib.hid h
  obtain ⟨cap, fr, f, h⟩ := h
  obtain ⟨c0, c1, c2, c3⟩ := h.cells
  have h1 := h.sc
  have h2 := h.cm
  have h3 := h.mm
  have h4 := h.fc
  have f0 := h.blk.free 0
  have f1 := h.blk.free 1
  have hlt := h.blk.lt
  have H := Lib.hid h
  clear h
  by_cases hc : need ≤ cap
  · go_enter Try.func68, Try.ntmps68
    go_wp2
    go_returns
    exact ⟨rfl, g, cap, fr, f, H.out, hc, Kept.refl _ _, .inl rfl⟩
  · go_enter Try.func68, Try.ntmps68
    go_wp2
    go_loop [4] (fun zv => ∃ z : Nat, 1 ≤ z ∧ z ≤ most ∧ zv = .int .i64 (z : Int)) (fun zv => most - (intOf zv).toNat)
    case atStart => exact ⟨cap, by omega, h2, rfl⟩
    case round =>
      obtain ⟨z, hz1, hz2, rfl⟩ := hrel
      by_cases hzn : z < need
      · go_wp2
        go_round
        case rel => exact ⟨min most (2 * z), by omega, by omega, by (refine congrArg (Value.int .i64) ?_; omega)⟩
        case measure => simp [intOf]; omega
      · have hmk := make_bytes z (by omega)
        have hall := extract_all s
        have hpk := fun nq => Lib.hid (copy_str (zrow_row (w := w) (n := z)) 0 (Nat.zero_le _) s z s.size 3 (by omega))
        go_wp2_with fail
        refine (peek_any b g most s (s.size : Int) s.size (by omega) _ (hR.out.kept ((Kept.refl [] w).alloc _) (by simp) (by simp))).mono ?_
        rintro e w' ⟨rfl, nq, rfl⟩
        rw [hall]
        clear hmk hall hpk
        obtain ⟨w1, hcp, hrow, hg, hsz⟩ := copy_str (w := (w.alloc (.cells (zrow z) 5)).drewN nq) (RowF.drewN zrow_row nq) 0 (Nat.zero_le _) s z s.size 3 (by omega)
        rw [Nat.sub_zero] at hcp
        have hb1 : Blk w1 b (ringC g cap fr s.size most) 99 := Blk.grown (w := (w.alloc (.cells (zrow z) 5)).drewN nq) (Blk.alloc H.out.blk _) hg (by simp; omega)
        have e0 := hb1.cell 0
        have e1 := hb1.cell 1
        have d0 := hb1.free 0
        have d1 := hb1.free 1
        have hne : b ≠ w.heap.size := by omega
        simp [ringC] at e0 e1
        go_wp2_with fail
        go_returns
        refine ⟨rfl, w.heap.size, z, 0, copyF (fun _ => 0) 0 s s.size, ⟨?_, (hrow.other _ (fun e => hne e.symm) _).other _ (fun e => hne e.symm) _, hne, by omega, by omega, hz2, h3, fun i hi => ?_⟩, by omega, ?_, .inr (Nat.le_refl _)⟩
        · have hb2 := (hb1.set 0 (.slice (some ⟨w.heap.size, 0, none⟩) z z)).set 1 (.int .i64 0)
          exact hb2
        · rw [Nat.zero_add, Nat.mod_eq_of_lt (by omega), copyF, if_pos (by omega), Nat.sub_zero]
        · exact (((((Kept.refl _ _).alloc _).drewN _).grown hg (fun x hx => .inr (by injection hx with hx; omega))).set _ (.inl (by simp)) _).set _ (.inl (by simp)) _
end Go.Proofs.Ytdggnhgflfaffaa
