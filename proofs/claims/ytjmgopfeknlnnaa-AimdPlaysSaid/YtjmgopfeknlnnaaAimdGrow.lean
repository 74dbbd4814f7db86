/- (*aimd.Window).Acked where the window is not slow: the loop by goto. -/
import Derived.Test.YtjmgopfeknlnnaaAimd
namespace Go.Proofs.Ytjmgopfeknlnnaa
open Go.ChangeShapes Go.WideShapes Go.ChangeAt Go.RowKit
set_option linter.unusedVariables false

/-- the frame at a jump: only the two arguments are known -/
def JFrame (b : Nat) (n : Int) (a : Act) : Prop := ∃ u4 u5 u6 u7 u8 u9 u10 u11 u12 u13 u14 u15 u16 u17 u18 u19 u20 u21 u22 u23 u24 u25 u26 u27 u28 u29 u30 u31 u32 u33 u34 u35 u36 u37 u38 u39 u40 u41 u42 u43 u44 u45 u46 u47 u48 u49 u50 u51 u52 u53 u54 u55 u56 u57 u58 u59 u60 u61 u62 u63 u64 u65 u66 u67 u68 u69 u70 u71 u72 u73 u74 u75 u76 u77 u78 u79 u80 u81 u82 u83 u84 u85 : Value, a = { tmps := #[.pointer (some ⟨b, 0, none⟩), .int .i64 n, undef, undef, u4, u5, u6, u7, u8, u9, u10, u11, u12, u13, u14, u15, u16, u17, u18, u19, u20, u21, u22, u23, u24, u25, u26, u27, u28, u29, u30, u31, u32, u33, u34, u35, u36, u37, u38, u39, u40, u41, u42, u43, u44, u45, u46, u47, u48, u49, u50, u51, u52, u53, u54, u55, u56, u57, u58, u59, u60, u61, u62, u63, u64, u65, u66, u67, u68, u69, u70, u71, u72, u73, u74, u75, u76, u77, u78, u79, u80, u81, u82, u83, u84, u85], defers := [] }
def JState (W : World) (b : Nat) (x : Win) (g : Int × Int) (w : World) : Prop := ∃ o s : Int, IsWin w b { x with owed := o, size := s } ∧ grow o s x.most = g ∧ 0 ≤ o ∧ o ≤ 131070 ∧ x.size ≤ s ∧ s ≤ x.most ∧ W.grownBy w (some b)
set_option maxRecDepth 100000 in
set_option maxHeartbeats 8000000 in
theorem acked_grow (b : Nat) (x : Win) (n n' : Int) (hn : 1 ≤ n) (hn' : min n 65535 = n') (hx : x.Ok) (hs : ¬ x.size < x.bound) (w : World) (h : IsWin w b x) : Calls Try.prog 10 #[.pointer (some ⟨b, 0, none⟩), .int .i64 n] w (fun e w' => e = .returned (.tuple #[]) ∧ IsWin w' b (acked x n) ∧ w.grownBy w' (some b)) := by
  obtain ⟨c0, c1, c2, c3, c4, c5, c6⟩ := win_cells h
  have f2 := Blk.free h 2
  have f4 := Blk.free h 4
  have hd : decide (x.size < x.bound) = false := by simpa using hs
  have o1 := hx.l1
  have o2 := hx.ls
  have o3 := hx.sm
  have o4 := hx.m
  have o5 := hx.o0
  have o6 := hx.os
  have hn1 : n' ≤ 65535 := by omega
  have hn2 : 1 ≤ n' := by omega
  have HN := Lib.hid hn'
  clear hn'
  go_enter Try.func10, Try.ntmps10
  go_wp2
  refine wp_scope_jumps 0 (fun a' w' => JFrame b n' a' ∧ JState w b x (grow (x.owed + n') x.size x.most) w') (fun _ w' => (x.most - intOf ((w'.cell? ⟨b, 2, none⟩).getD undef)).toNat) rfl ?_ ?_
  · by_cases hm : n ≤ 65535
    · have hnn : n' = n := by have := HN.out; omega
      subst hnn
      go_wp2_with (go_at_call 12; refine (slow_any b x _ h).mono ?_; rintro e w' ⟨rfl, nq, rfl⟩)
      go_step3
      generalize hw1 : (World.setCell _ _ _) = w1
      have hW : IsWin w1 b { x with owed := x.owed + n', size := x.size } := by rw [← hw1]; exact Blk.set (w := w.drewN nq) h 4 _
      have hG : w.grownBy w1 (some b) := by rw [← hw1]; exact gset (gdrewN (grefl _ _) _) _ rfl _
      clear hw1 c0 c1 c2 c3 c4 c5 c6 f2 f4
      obtain ⟨c0, c1, c2, c3, c4, c5, c6⟩ := win_cells hW
      have f2 := Blk.free hW 2
      have f4 := Blk.free hW 4
      simp only [] at c0 c1 c2 c3 c4 c5 c6
      have hgg : grow (x.owed + n') x.size x.most = grow (x.owed + n') x.size x.most := rfl
      by_cases k1 : (x.size) ≤ (x.owed + n')
      · by_cases k2 : (x.size) < x.most
        · have hst := Lib.hid (grow_step (x.owed + n') (x.size) x.most k1 k2)
          have HG := Lib.hid hgg
          clear hgg
          have d1 : decide ((x.size) ≤ (x.owed + n')) = true := by simpa using k1
          go_wp2_with fail
          go_quiet (fail)
          go_wp2_with fail
          go_region
          go_wp2_with fail
          go_step3
          have hW2 : IsWin _ b { x with owed := (x.owed + n') - (x.size), size := (x.size) + 1 } := Blk.set (w := World.setCell _ _ _) (Blk.set (w := World.drewN w1 (nq + 1)) hW 4 (.int .i64 ((x.owed + n') - (x.size)))) 2 (.int .i64 ((x.size) + 1))
          refine ⟨rfl, ⟨⟨_, _, _, _, _, _, _, _, _, _, _, _, _, _, _, _, _, _, _, _, _, _, _, _, _, _, _, _, _, _, _, _, _, _, _, _, _, _, _, _, _, _, _, _, _, _, _, _, _, _, _, _, _, _, _, _, _, _, _, _, _, _, _, _, _, _, _, _, _, _, _, _, _, _, _, _, _, _, _, _, _, _, rfl⟩, (x.owed + n') - (x.size), (x.size) + 1, hW2, hst.out.symm.trans (by first | rfl | exact HG.out), by omega, by omega, by omega, by omega, gset (gset (gdrewN hG _) _ rfl _) _ rfl _⟩⟩
          skip
        · have hs2 : x.most = x.size := by omega
          have HE := Lib.hid ((hgg.symm.trans (grow_end (x.owed + n') (x.size) x.most (by omega))))
          clear hgg
          have d1 : decide ((x.size) ≤ (x.owed + n')) = true := by simpa using k1
          have d2 : ((x.size) == x.most) = true := by simp; omega
          have d3 : ¬ (x.size) < x.most := k2
          have HS := Lib.hid hs2
          clear hs2
          go_wp2_with fail
          go_quiet (fail)
          go_wp2_with fail
          go_quiet (fail)
          go_wp2_with fail
          simp only [Exit.jump]
          go_returns
          have hA : acked x n' = { x with size := x.size, owed := 0 } := by
            unfold acked
            rw [if_neg (by omega), if_neg (by omega), show min n' 65535 = n' from by have := HN.out; omega]
            simp only [HE.out]
            have := HS.out
            congr 1
            split <;> omega
          refine ⟨rfl, ?_, gset (gdrewN hG _) _ rfl _⟩
          rw [hA]
          exact Blk.set (w := World.drewN w1 _) hW 4 _
      ·
        have HE := Lib.hid ((hgg.symm.trans (grow_end (x.owed + n') (x.size) x.most (by omega))))
        clear hgg
        have d1 : decide ((x.size) ≤ (x.owed + n')) = false := by simp; omega
        by_cases k3 : (x.size) = x.most
        · have HS := Lib.hid k3.symm
          have d2 : ((x.size) == x.most) = true := by simpa using k3
          clear k3
          go_wp2_with fail
          go_quiet (fail)
          go_wp2_with fail
          go_quiet (fail)
          go_wp2_with fail
          simp only [Exit.jump]
          go_returns
          have hA : acked x n' = { x with size := x.size, owed := 0 } := by
            unfold acked
            rw [if_neg (by omega), if_neg (by omega), show min n' 65535 = n' from by have := HN.out; omega]
            simp only [HE.out]
            have := HS.out
            congr 1
            split <;> omega
          refine ⟨rfl, ?_, gset (gdrewN hG _) _ rfl _⟩
          rw [hA]
          exact Blk.set (w := World.drewN w1 _) hW 4 _
        · have HS := Lib.hid k3
          have d2 : ((x.size) == x.most) = false := by simpa using k3
          clear k3
          go_wp2_with fail
          go_quiet (fail)
          go_wp2_with fail
          go_quiet (fail)
          go_wp2_with fail
          simp only [Exit.jump]
          go_returns
          have hA : acked x n' = { x with size := x.size, owed := x.owed + n' } := by
            unfold acked
            rw [if_neg (by omega), if_neg (by omega), show min n' 65535 = n' from by have := HN.out; omega]
            simp only [HE.out]
            have := HS.out
            congr 1
            split <;> omega
          refine ⟨rfl, ?_, gdrewN (gdrewN hG _) _⟩
          rw [hA]
          exact hW
    · have hnn : n' = 65535 := by have := HN.out; omega
      subst hnn
      go_wp2_with (go_at_call 12; refine (slow_any b x _ h).mono ?_; rintro e w' ⟨rfl, nq, rfl⟩)
      go_step3
      generalize hw1 : (World.setCell _ _ _) = w1
      have hW : IsWin w1 b { x with owed := x.owed + 65535, size := x.size } := by rw [← hw1]; exact Blk.set (w := w.drewN nq) h 4 _
      have hG : w.grownBy w1 (some b) := by rw [← hw1]; exact gset (gdrewN (grefl _ _) _) _ rfl _
      clear hw1 c0 c1 c2 c3 c4 c5 c6 f2 f4
      obtain ⟨c0, c1, c2, c3, c4, c5, c6⟩ := win_cells hW
      have f2 := Blk.free hW 2
      have f4 := Blk.free hW 4
      simp only [] at c0 c1 c2 c3 c4 c5 c6
      have hgg : grow (x.owed + 65535) x.size x.most = grow (x.owed + 65535) x.size x.most := rfl
      by_cases k1 : (x.size) ≤ (x.owed + 65535)
      · by_cases k2 : (x.size) < x.most
        · have hst := Lib.hid (grow_step (x.owed + 65535) (x.size) x.most k1 k2)
          have HG := Lib.hid hgg
          clear hgg
          have d1 : decide ((x.size) ≤ (x.owed + 65535)) = true := by simpa using k1
          go_wp2_with fail
          go_quiet (fail)
          go_wp2_with fail
          go_region
          go_wp2_with fail
          go_step3
          have hW2 : IsWin _ b { x with owed := (x.owed + 65535) - (x.size), size := (x.size) + 1 } := Blk.set (w := World.setCell _ _ _) (Blk.set (w := World.drewN w1 (nq + 1)) hW 4 (.int .i64 ((x.owed + 65535) - (x.size)))) 2 (.int .i64 ((x.size) + 1))
          refine ⟨rfl, ⟨⟨_, _, _, _, _, _, _, _, _, _, _, _, _, _, _, _, _, _, _, _, _, _, _, _, _, _, _, _, _, _, _, _, _, _, _, _, _, _, _, _, _, _, _, _, _, _, _, _, _, _, _, _, _, _, _, _, _, _, _, _, _, _, _, _, _, _, _, _, _, _, _, _, _, _, _, _, _, _, _, _, _, _, rfl⟩, (x.owed + 65535) - (x.size), (x.size) + 1, hW2, hst.out.symm.trans (by first | rfl | exact HG.out), by omega, by omega, by omega, by omega, gset (gset (gdrewN hG _) _ rfl _) _ rfl _⟩⟩
          skip
        · have hs2 : x.most = x.size := by omega
          have HE := Lib.hid ((hgg.symm.trans (grow_end (x.owed + 65535) (x.size) x.most (by omega))))
          clear hgg
          have d1 : decide ((x.size) ≤ (x.owed + 65535)) = true := by simpa using k1
          have d2 : ((x.size) == x.most) = true := by simp; omega
          have d3 : ¬ (x.size) < x.most := k2
          have HS := Lib.hid hs2
          clear hs2
          go_wp2_with fail
          go_quiet (fail)
          go_wp2_with fail
          go_quiet (fail)
          go_wp2_with fail
          simp only [Exit.jump]
          go_returns
          have hA : acked x n = { x with size := x.size, owed := 0 } := by
            unfold acked
            rw [if_neg (by omega), if_neg (by omega), show min n 65535 = 65535 from by have := HN.out; omega]
            simp only [HE.out]
            have := HS.out
            congr 1
            split <;> omega
          refine ⟨rfl, ?_, gset (gdrewN hG _) _ rfl _⟩
          rw [hA]
          exact Blk.set (w := World.drewN w1 _) hW 4 _
      ·
        exfalso
        omega
  · rintro a' w' ⟨⟨u4, u5, u6, u7, u8, u9, u10, u11, u12, u13, u14, u15, u16, u17, u18, u19, u20, u21, u22, u23, u24, u25, u26, u27, u28, u29, u30, u31, u32, u33, u34, u35, u36, u37, u38, u39, u40, u41, u42, u43, u44, u45, u46, u47, u48, u49, u50, u51, u52, u53, u54, u55, u56, u57, u58, u59, u60, u61, u62, u63, u64, u65, u66, u67, u68, u69, u70, u71, u72, u73, u74, u75, u76, u77, u78, u79, u80, u81, u82, u83, u84, u85, rfl⟩, o, s, hW, hg, q1, q2, q3, q4, hG⟩
    clear c0 c1 c2 c3 c4 c5 c6 f2 f4
    obtain ⟨c0, c1, c2, c3, c4, c5, c6⟩ := win_cells hW
    have f2 := Blk.free hW 2
    have f4 := Blk.free hW 4
    simp only [] at c0 c1 c2 c3 c4 c5 c6
    have hgg := hg
    clear hg
    by_cases k1 : (s) ≤ (o)
    · by_cases k2 : (s) < x.most
      · have hst := Lib.hid (grow_step (o) (s) x.most k1 k2)
        have HG := Lib.hid hgg
        clear hgg
        have d1 : decide ((s) ≤ (o)) = true := by simpa using k1
        go_wp2_with fail
        go_quiet (fail)
        go_wp2_with fail
        go_region
        go_wp2_with fail
        go_step3
        have hW2 : IsWin _ b { x with owed := (o) - (s), size := (s) + 1 } := Blk.set (w := World.setCell _ _ _) (Blk.set (w := World.drewN w' (nq + 1)) hW 4 (.int .i64 ((o) - (s)))) 2 (.int .i64 ((s) + 1))
        refine ⟨rfl, ⟨⟨_, _, _, _, _, _, _, _, _, _, _, _, _, _, _, _, _, _, _, _, _, _, _, _, _, _, _, _, _, _, _, _, _, _, _, _, _, _, _, _, _, _, _, _, _, _, _, _, _, _, _, _, _, _, _, _, _, _, _, _, _, _, _, _, _, _, _, _, _, _, _, _, _, _, _, _, _, _, _, _, _, _, rfl⟩, (o) - (s), (s) + 1, hW2, hst.out.symm.trans (by first | rfl | exact HG.out), by omega, by omega, by omega, by omega, gset (gset (gdrewN hG _) _ rfl _) _ rfl _⟩, ?_⟩
        (have e2 := (win_cells hW2).2.2.1; rw [e2, c2]; simp [intOf]; omega)
      · have hs2 : x.most = s := by omega
        have HE := Lib.hid ((hgg.symm.trans (grow_end (o) (s) x.most (by omega))))
        clear hgg
        have d1 : decide ((s) ≤ (o)) = true := by simpa using k1
        have d2 : ((s) == x.most) = true := by simp; omega
        have d3 : ¬ (s) < x.most := k2
        have HS := Lib.hid hs2
        clear hs2
        go_wp2_with fail
        go_quiet (fail)
        go_wp2_with fail
        go_quiet (fail)
        go_wp2_with fail
        simp only [Exit.jump]
        go_returns
        have hA : acked x n = { x with size := s, owed := 0 } := by
          unfold acked
          rw [if_neg (by omega), if_neg (by omega), show min n 65535 = n' from by have := HN.out; omega]
          simp only [HE.out]
          have := HS.out
          congr 1
          split <;> omega
        refine ⟨rfl, ?_, gset (gdrewN hG _) _ rfl _⟩
        rw [hA]
        exact Blk.set (w := World.drewN w' _) hW 4 _
    ·
      have HE := Lib.hid ((hgg.symm.trans (grow_end (o) (s) x.most (by omega))))
      clear hgg
      have d1 : decide ((s) ≤ (o)) = false := by simp; omega
      by_cases k3 : (s) = x.most
      · have HS := Lib.hid k3.symm
        have d2 : ((s) == x.most) = true := by simpa using k3
        clear k3
        go_wp2_with fail
        go_quiet (fail)
        go_wp2_with fail
        go_quiet (fail)
        go_wp2_with fail
        simp only [Exit.jump]
        go_returns
        have hA : acked x n = { x with size := s, owed := 0 } := by
          unfold acked
          rw [if_neg (by omega), if_neg (by omega), show min n 65535 = n' from by have := HN.out; omega]
          simp only [HE.out]
          have := HS.out
          congr 1
          split <;> omega
        refine ⟨rfl, ?_, gset (gdrewN hG _) _ rfl _⟩
        rw [hA]
        exact Blk.set (w := World.drewN w' _) hW 4 _
      · have HS := Lib.hid k3
        have d2 : ((s) == x.most) = false := by simpa using k3
        clear k3
        go_wp2_with fail
        go_quiet (fail)
        go_wp2_with fail
        go_quiet (fail)
        go_wp2_with fail
        simp only [Exit.jump]
        go_returns
        have hA : acked x n = { x with size := s, owed := o } := by
          unfold acked
          rw [if_neg (by omega), if_neg (by omega), show min n 65535 = n' from by have := HN.out; omega]
          simp only [HE.out]
          have := HS.out
          congr 1
          split <;> omega
        refine ⟨rfl, ?_, gdrewN (gdrewN hG _) _⟩
        rw [hA]
        exact hW
end Go.Proofs.Ytjmgopfeknlnnaa
