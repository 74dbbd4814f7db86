/- lightshipref34.Do by value: bad, ignored, close. -/
import Derived.Test.YtpojophpbggkcaaLo15
import Derived.Great.Walk
import Derived.Deep.Cut
namespace Go.Proofs.Ytpojophpbggkcaa
open Go.ChangeShapes Go.WideShapes Go.ChangeAt Go.RowKit
set_option linter.unusedVariables false

def RDo (W : World) (m' : Mq) (r : Int) (e : Ending) (w' : World) : Prop := ∃ cs', e = .returned (.tuple #[.agg cs', .int .i64 r]) ∧ MRow cs' m' ∧ Below W.heap.size W w'
set_option maxRecDepth 100000 in
set_option maxHeartbeats 4000000 in
theorem rdo_bad (cs : Array Value) (m : Mq) (hm : MRow cs m) (side kind stream n an err : Int) (body ab : ByteArray) (hbad : side < 0 ∨ 1 < side ∨ stream < 0 ∨ 255 < stream) (w : World) :
    Calls Try.prog 26 #[.agg cs, .int .i64 side, .agg #[.int .i64 kind, .int .i64 stream, .int .i64 n, .string body], .agg #[.int .i64 an, .string ab, .int .i64 err]] w (RDo w m 1) := by
  obtain ⟨Z, hZr, hZz⟩ := mZ_ex
  have HZS := Lib.hid hZr.size
  have HZZ := Lib.hid hZz
  clear hZr hZz
  have HSZ := Lib.hid hm.size
  have HONE := Lib.hid hm.one
  have HM := Lib.hid hm
  clear hm
  by_cases h1 : side < 0
  · clear hbad
    go_enter Try.func26, Try.ntmps26
    go_upto_region 1 with (first | (refine Go.Great.wpList_allocTo rfl (some 8) rfl (.pointer (some ⟨w.heap.size + 1 + 1 + 1, 0, none⟩)) (.cells Z 59) (run_allocN _ (by simp) rfl HZZ.out) ?_))
    go_upto_region 2 with (fail)
    go_wp2_with (first | (refine wpList_load_row rfl 59 _ rfl w.heap.size rfl 59 cs (0, 0) _ (by exact (((Blk.new w _ _).alloc _).alloc _).alloc _) Try.underlying59 rfl (by rw [HSZ.out]; kernel_rfl) ?_) | (refine wpList_store_rowTo rfl 59 _ _ rfl rfl (w.heap.size + 1 + 1 + 1) cs rfl rfl 59 Z (by exact Blk.new' (by simp)) (by rw [HSZ.out]; kernel_rfl) (by rw [HSZ.out]; exact HZS.out) HONE.out ?_))
    refine bodyPost_ret (results_M2 rfl _ (.int .i64 1) rfl rfl (by exact (Blk.new' (by simp)).row cs) HSZ.out) rfl ?_
    exact ⟨cs, rfl, HM.out, ((Kept.refl [] w).alloc _ |>.alloc _ |>.alloc _ |>.alloc _ |>.setRow _ (.inr (by omega)) _).below (Nat.le_refl _) (by simp)⟩
  · by_cases h2 : 1 < side
    · clear hbad
      go_enter Try.func26, Try.ntmps26
      go_upto_region 1 with (first | (refine Go.Great.wpList_allocTo rfl (some 8) rfl (.pointer (some ⟨w.heap.size + 1 + 1 + 1, 0, none⟩)) (.cells Z 59) (run_allocN _ (by simp) rfl HZZ.out) ?_))
      go_upto_region 2 with (fail)
      go_wp2_with (first | (refine wpList_load_row rfl 59 _ rfl w.heap.size rfl 59 cs (0, 0) _ (by exact (((Blk.new w _ _).alloc _).alloc _).alloc _) Try.underlying59 rfl (by rw [HSZ.out]; kernel_rfl) ?_) | (refine wpList_store_rowTo rfl 59 _ _ rfl rfl (w.heap.size + 1 + 1 + 1) cs rfl rfl 59 Z (by exact Blk.new' (by simp)) (by rw [HSZ.out]; kernel_rfl) (by rw [HSZ.out]; exact HZS.out) HONE.out ?_))
      refine bodyPost_ret (results_M2 rfl _ (.int .i64 1) rfl rfl (by exact (Blk.new' (by simp)).row cs) HSZ.out) rfl ?_
      exact ⟨cs, rfl, HM.out, ((Kept.refl [] w).alloc _ |>.alloc _ |>.alloc _ |>.alloc _ |>.setRow _ (.inr (by omega)) _).below (Nat.le_refl _) (by simp)⟩
    · by_cases h3 : stream < 0
      · clear hbad
        go_enter Try.func26, Try.ntmps26
        go_upto_region 1 with (first | (refine Go.Great.wpList_allocTo rfl (some 8) rfl (.pointer (some ⟨w.heap.size + 1 + 1 + 1, 0, none⟩)) (.cells Z 59) (run_allocN _ (by simp) rfl HZZ.out) ?_))
        go_upto_region 2 with (fail)
        go_wp2_with (first | (refine wpList_load_row rfl 59 _ rfl w.heap.size rfl 59 cs (0, 0) _ (by exact (((Blk.new w _ _).alloc _).alloc _).alloc _) Try.underlying59 rfl (by rw [HSZ.out]; kernel_rfl) ?_) | (refine wpList_store_rowTo rfl 59 _ _ rfl rfl (w.heap.size + 1 + 1 + 1) cs rfl rfl 59 Z (by exact Blk.new' (by simp)) (by rw [HSZ.out]; kernel_rfl) (by rw [HSZ.out]; exact HZS.out) HONE.out ?_))
        refine bodyPost_ret (results_M2 rfl _ (.int .i64 1) rfl rfl (by exact (Blk.new' (by simp)).row cs) HSZ.out) rfl ?_
        exact ⟨cs, rfl, HM.out, ((Kept.refl [] w).alloc _ |>.alloc _ |>.alloc _ |>.alloc _ |>.setRow _ (.inr (by omega)) _).below (Nat.le_refl _) (by simp)⟩
      · have h4 : 255 < stream := by omega
        clear hbad
        go_enter Try.func26, Try.ntmps26
        go_upto_region 1 with (first | (refine Go.Great.wpList_allocTo rfl (some 8) rfl (.pointer (some ⟨w.heap.size + 1 + 1 + 1, 0, none⟩)) (.cells Z 59) (run_allocN _ (by simp) rfl HZZ.out) ?_))
        go_upto_region 2 with (fail)
        go_wp2_with (first | (refine wpList_load_row rfl 59 _ rfl w.heap.size rfl 59 cs (0, 0) _ (by exact (((Blk.new w _ _).alloc _).alloc _).alloc _) Try.underlying59 rfl (by rw [HSZ.out]; kernel_rfl) ?_) | (refine wpList_store_rowTo rfl 59 _ _ rfl rfl (w.heap.size + 1 + 1 + 1) cs rfl rfl 59 Z (by exact Blk.new' (by simp)) (by rw [HSZ.out]; kernel_rfl) (by rw [HSZ.out]; exact HZS.out) HONE.out ?_))
        refine bodyPost_ret (results_M2 rfl _ (.int .i64 1) rfl rfl (by exact (Blk.new' (by simp)).row cs) HSZ.out) rfl ?_
        exact ⟨cs, rfl, HM.out, ((Kept.refl [] w).alloc _ |>.alloc _ |>.alloc _ |>.alloc _ |>.setRow _ (.inr (by omega)) _).below (Nat.le_refl _) (by simp)⟩
set_option maxRecDepth 100000 in
set_option maxHeartbeats 4000000 in
theorem rdo_ign (cs : Array Value) (m : Mq) (hm : MRow cs m) (a s0 : Nat) (ha : a < 2) (hs0 : s0 < 256) (kind n an err : Int) (body ab : ByteArray) (h4 : kind = 4 → closesB err = false) (h0 : err ≠ 0) (h3 : kind ≠ 3 ∨ err ≠ 13) (w : World) :
    Calls Try.prog 26 #[.agg cs, .int .i64 (a : Int), .agg #[.int .i64 kind, .int .i64 (s0 : Int), .int .i64 n, .string body], .agg #[.int .i64 an, .string ab, .int .i64 err]] w (RDo w m 0) := by
  obtain ⟨Z, hZr, hZz⟩ := mZ_ex
  have HZS := Lib.hid hZr.size
  have HZZ := Lib.hid hZz
  clear hZr hZz
  have HSZ := Lib.hid hm.size
  have HONE := Lib.hid hm.one
  have HM := Lib.hid hm
  have a0 : decide ((a : Int) < 0) = false := by rw [decide_eq_false_iff_not]; omega
  have a1 : decide ((1 : Int) < (a : Int)) = false := by rw [decide_eq_false_iff_not]; omega
  have s1 : decide ((s0 : Int) < 0) = false := by rw [decide_eq_false_iff_not]; omega
  have s2 : decide ((255 : Int) < (s0 : Int)) = false := by rw [decide_eq_false_iff_not]; omega
  clear hm
  have d0 : (err != 0) = true := by simpa using h0
  by_cases hk4 : kind = 4
  · subst hk4
    have h5 := h4 rfl
    unfold closesB at h5
    simp at h5
    obtain ⟨⟨h6, h7⟩, h8⟩ := h5
    have d6 : (err == 0) = false := by simpa using h6
    have d7 : (err == 11) = false := by simpa using h7
    have d8 : (err == 12) = false := by simpa using h8
    clear h4 h0 h3 h6 h7 h8
    go_enter Try.func26, Try.ntmps26
    go_upto_region 1 with (first | (refine Go.Great.wpList_allocTo rfl (some 8) rfl (.pointer (some ⟨w.heap.size + 1 + 1 + 1, 0, none⟩)) (.cells Z 59) (run_allocN _ (by simp) rfl HZZ.out) ?_))
    go_upto_region 7 with (fail)
    go_wp2_with (first | (refine wpList_load_row rfl 59 _ rfl w.heap.size rfl 59 cs (0, 0) _ (by exact (((Blk.new w _ _).alloc _).alloc _).alloc _) Try.underlying59 rfl (by rw [HSZ.out]; kernel_rfl) ?_) | (refine wpList_store_rowTo rfl 59 _ _ rfl rfl (w.heap.size + 1 + 1 + 1) cs rfl rfl 59 Z (by exact Blk.new' (by simp)) (by rw [HSZ.out]; kernel_rfl) (by rw [HSZ.out]; exact HZS.out) HONE.out ?_))
    refine bodyPost_ret (results_M2 rfl _ (.int .i64 0) rfl rfl (by exact (Blk.new' (by simp)).row cs) HSZ.out) rfl ?_
    exact ⟨cs, rfl, HM.out, ((Kept.refl [] w).alloc _ |>.alloc _ |>.alloc _ |>.alloc _ |>.setRow _ (.inr (by omega)) _).below (Nat.le_refl _) (by simp)⟩
  · have d4 : (kind == 4) = false := by simpa using hk4
    clear h4 h0 hk4
    by_cases hk3 : kind = 3
    · subst hk3
      have h5 : (err != 13) = true := by
        rcases h3 with h | h
        · exact absurd rfl h
        · simpa using h
      clear h3 d4
      go_enter Try.func26, Try.ntmps26
      go_upto_region 1 with (first | (refine Go.Great.wpList_allocTo rfl (some 8) rfl (.pointer (some ⟨w.heap.size + 1 + 1 + 1, 0, none⟩)) (.cells Z 59) (run_allocN _ (by simp) rfl HZZ.out) ?_))
      go_upto_region 7 with (fail)
      go_wp2_with (first | (refine wpList_load_row rfl 59 _ rfl w.heap.size rfl 59 cs (0, 0) _ (by exact (((Blk.new w _ _).alloc _).alloc _).alloc _) Try.underlying59 rfl (by rw [HSZ.out]; kernel_rfl) ?_) | (refine wpList_store_rowTo rfl 59 _ _ rfl rfl (w.heap.size + 1 + 1 + 1) cs rfl rfl 59 Z (by exact Blk.new' (by simp)) (by rw [HSZ.out]; kernel_rfl) (by rw [HSZ.out]; exact HZS.out) HONE.out ?_))
      refine bodyPost_ret (results_M2 rfl _ (.int .i64 0) rfl rfl (by exact (Blk.new' (by simp)).row cs) HSZ.out) rfl ?_
      exact ⟨cs, rfl, HM.out, ((Kept.refl [] w).alloc _ |>.alloc _ |>.alloc _ |>.alloc _ |>.setRow _ (.inr (by omega)) _).below (Nat.le_refl _) (by simp)⟩
    · have d3 : (kind != 3) = true := by simpa using hk3
      clear h3 hk3
      go_enter Try.func26, Try.ntmps26
      go_upto_region 1 with (first | (refine Go.Great.wpList_allocTo rfl (some 8) rfl (.pointer (some ⟨w.heap.size + 1 + 1 + 1, 0, none⟩)) (.cells Z 59) (run_allocN _ (by simp) rfl HZZ.out) ?_))
      go_upto_region 7 with (fail)
      go_wp2_with (first | (refine wpList_load_row rfl 59 _ rfl w.heap.size rfl 59 cs (0, 0) _ (by exact (((Blk.new w _ _).alloc _).alloc _).alloc _) Try.underlying59 rfl (by rw [HSZ.out]; kernel_rfl) ?_) | (refine wpList_store_rowTo rfl 59 _ _ rfl rfl (w.heap.size + 1 + 1 + 1) cs rfl rfl 59 Z (by exact Blk.new' (by simp)) (by rw [HSZ.out]; kernel_rfl) (by rw [HSZ.out]; exact HZS.out) HONE.out ?_))
      refine bodyPost_ret (results_M2 rfl _ (.int .i64 0) rfl rfl (by exact (Blk.new' (by simp)).row cs) HSZ.out) rfl ?_
      exact ⟨cs, rfl, HM.out, ((Kept.refl [] w).alloc _ |>.alloc _ |>.alloc _ |>.alloc _ |>.setRow _ (.inr (by omega)) _).below (Nat.le_refl _) (by simp)⟩
set_option maxRecDepth 100000 in
set_option maxHeartbeats 4000000 in
theorem rdo_else (cs : Array Value) (m : Mq) (hm : MRow cs m) (a s0 : Nat) (ha : a < 2) (hs0 : s0 < 256) (kind n an : Int) (body ab : ByteArray) (h2 : kind ≠ 2) (h3 : kind ≠ 3) (h4 : kind ≠ 4) (h5 : kind ≠ 5) (w : World) :
    Calls Try.prog 26 #[.agg cs, .int .i64 (a : Int), .agg #[.int .i64 kind, .int .i64 (s0 : Int), .int .i64 n, .string body], .agg #[.int .i64 an, .string ab, .int .i64 0]] w (RDo w m 0) := by
  obtain ⟨Z, hZr, hZz⟩ := mZ_ex
  have HZS := Lib.hid hZr.size
  have HZZ := Lib.hid hZz
  clear hZr hZz
  have HSZ := Lib.hid hm.size
  have HONE := Lib.hid hm.one
  have HM := Lib.hid hm
  have a0 : decide ((a : Int) < 0) = false := by rw [decide_eq_false_iff_not]; omega
  have a1 : decide ((1 : Int) < (a : Int)) = false := by rw [decide_eq_false_iff_not]; omega
  have s1 : decide ((s0 : Int) < 0) = false := by rw [decide_eq_false_iff_not]; omega
  have s2 : decide ((255 : Int) < (s0 : Int)) = false := by rw [decide_eq_false_iff_not]; omega
  clear hm
  have d4 : (kind == 4) = false := by simpa using h4
  have d2 : (kind == 2) = false := by simpa using h2
  have d3 : (kind == 3) = false := by simpa using h3
  have d5 : (kind == 5) = false := by simpa using h5
  clear h4 h2 h3 h5
  go_enter Try.func26, Try.ntmps26
  go_upto_region 1 with (first | (refine Go.Great.wpList_allocTo rfl (some 8) rfl (.pointer (some ⟨w.heap.size + 1 + 1 + 1, 0, none⟩)) (.cells Z 59) (run_allocN _ (by simp) rfl HZZ.out) ?_))
  go_upto_region 18 with (fail)
  go_wp2_with (first | (refine wpList_load_row rfl 59 _ rfl w.heap.size rfl 59 cs (0, 0) _ (by exact (((Blk.new w _ _).alloc _).alloc _).alloc _) Try.underlying59 rfl (by rw [HSZ.out]; kernel_rfl) ?_) | (refine wpList_store_rowTo rfl 59 _ _ rfl rfl (w.heap.size + 1 + 1 + 1) cs rfl rfl 59 Z (by exact Blk.new' (by simp)) (by rw [HSZ.out]; kernel_rfl) (by rw [HSZ.out]; exact HZS.out) HONE.out ?_))
  refine bodyPost_ret (results_M2 rfl _ (.int .i64 0) rfl rfl (by exact (Blk.new' (by simp)).row cs) HSZ.out) rfl ?_
  exact ⟨cs, rfl, HM.out, ((Kept.refl [] w).alloc _ |>.alloc _ |>.alloc _ |>.alloc _ |>.setRow _ (.inr (by omega)) _).below (Nat.le_refl _) (by simp)⟩
set_option maxRecDepth 100000 in
set_option maxHeartbeats 4000000 in
theorem rdo_close (cs : Array Value) (m : Mq) (hm : MRow cs m) (a s0 : Nat) (ha : a < 2) (hs0 : s0 < 256) (n an err : Int) (he : err = 0 ∨ err = 11 ∨ err = 12) (body ab : ByteArray) (w : World) :
    Calls Try.prog 26 #[.agg cs, .int .i64 (a : Int), .agg #[.int .i64 4, .int .i64 (s0 : Int), .int .i64 n, .string body], .agg #[.int .i64 an, .string ab, .int .i64 err]] w (RDo w (m.put a s0 ((m.q a s0).1, true)) 0) := by
  obtain ⟨Z, hZr, hZz⟩ := mZ_ex
  have HZS := Lib.hid hZr.size
  have HZZ := Lib.hid hZz
  clear hZr hZz
  have HSZ := Lib.hid hm.size
  have HONE := Lib.hid hm.one
  have HM := Lib.hid hm
  have a0 : decide ((a : Int) < 0) = false := by rw [decide_eq_false_iff_not]; omega
  have a1 : decide ((1 : Int) < (a : Int)) = false := by rw [decide_eq_false_iff_not]; omega
  have s1 : decide ((s0 : Int) < 0) = false := by rw [decide_eq_false_iff_not]; omega
  have s2 : decide ((255 : Int) < (s0 : Int)) = false := by rw [decide_eq_false_iff_not]; omega
  clear hm
  rcases he with rfl | rfl | rfl
  ·
    go_enter Try.func26, Try.ntmps26
    go_upto_region 1 with (first | (refine Go.Great.wpList_allocTo rfl (some 8) rfl (.pointer (some ⟨w.heap.size + 1 + 1 + 1, 0, none⟩)) (.cells Z 59) (run_allocN _ (by simp) rfl HZZ.out) ?_))
    go_wp2
    have ia : (a : Int) < 2 := by omega
    have is : (s0 : Int) < 256 := by omega
    generalize hwa : World.alloc (World.alloc (World.alloc (World.alloc w _) _) _) _ = wa
    have hM : Blk wa w.heap.size cs 59 := by rw [← hwa]; exact (((Blk.new w _ _).alloc _).alloc _).alloc _
    have hC : Blk wa (w.heap.size + 1) #[.int .i64 4, .int .i64 (s0 : Int), .int .i64 n, .string body] 36 := by rw [← hwa]; exact ((Blk.new' (by simp)).alloc _).alloc _
    have hA : Blk wa (w.heap.size + 1 + 1) #[.int .i64 an, .string ab, .int .i64 0] 38 := by rw [← hwa]; exact (Blk.new' (by simp)).alloc _
    have hZ : Blk wa (w.heap.size + 1 + 1 + 1) Z 59 := by rw [← hwa]; exact Blk.new' (by simp)
    have hK : Kept [] w wa := by rw [← hwa]; exact (((Kept.refl [] w).alloc _).alloc _).alloc _ |>.alloc _
    have hsz : wa.heap.size = w.heap.size + 1 + 1 + 1 + 1 := by rw [← hwa]; simp
    clear hwa
    have c0 : wa.cell? ⟨w.heap.size + 1, 0, none⟩ = some (.int .i64 4) := hC.cell 0
    have c1 : wa.cell? ⟨w.heap.size + 1, 1, none⟩ = some (.int .i64 (s0 : Int)) := hC.cell 1
    have c2 : wa.cell? ⟨w.heap.size + 1, 2, none⟩ = some (.int .i64 n) := hC.cell 2
    have c3 : wa.cell? ⟨w.heap.size + 1, 3, none⟩ = some (.string body) := hC.cell 3
    have e0 : wa.cell? ⟨w.heap.size + 1 + 1, 0, none⟩ = some (.int .i64 an) := hA.cell 0
    have e1 : wa.cell? ⟨w.heap.size + 1 + 1, 1, none⟩ = some (.string ab) := hA.cell 1
    have e2 : wa.cell? ⟨w.heap.size + 1 + 1, 2, none⟩ = some (.int .i64 0) := hA.cell 2
    have fr := hM.free (a * 512 + s0 * 2 + 1)
    have cl : wa.cell? ⟨w.heap.size, (a * 512 + s0 * 2 + 1), none⟩ = some (.bool (m.q a s0).2) := (hM.cell _).trans (by exact HM.out.clo ha hs0)
    go_region
    have hM2 := (hM.set (a * 512 + s0 * 2 + 1) (.bool true)).drew
    have hC2 := (hC.other ⟨w.heap.size, a * 512 + s0 * 2 + 1, none⟩ (by simp) (.bool true)).drew
    have hA2 := (hA.other ⟨w.heap.size, a * 512 + s0 * 2 + 1, none⟩ (by simp; omega) (.bool true)).drew
    have hZ2 := (hZ.other ⟨w.heap.size, a * 512 + s0 * 2 + 1, none⟩ (by simp; omega) (.bool true)).drew
    have hK2 : Kept [] w ((wa.setCell ⟨w.heap.size, a * 512 + s0 * 2 + 1, none⟩ (.bool true)).drew) := (hK.set _ (.inr (by simp)) _).drew
    have hR2 := HM.out.setc ha hs0 true
    clear c0 c1 c2 c3 e0 e1 e2 fr cl hM hC hA hZ hK ia is
    generalize World.drew _ = wb at *
    generalize Array.setIfInBounds cs _ _ = cs2 at *
    have c0 : wb.cell? ⟨w.heap.size + 1, 0, none⟩ = some (.int .i64 4) := hC2.cell 0
    have e2 : wb.cell? ⟨w.heap.size + 1 + 1, 2, none⟩ = some (.int .i64 0) := hA2.cell 2
    clear hC2 hA2
    have HR2 := Lib.hid hR2
    have HS2 := Lib.hid hR2.size
    have HO2 := Lib.hid hR2.one
    have HM2 := Lib.hid hM2
    have HZ2 := Lib.hid hZ2
    have HK2 := Lib.hid hK2
    clear hR2 hM2 hZ2 hK2
    go_wp2_with (first | (refine wpList_load_row rfl 59 _ rfl w.heap.size rfl 59 cs2 (0, 0) _ (by exact HM2.out) Try.underlying59 rfl (by rw [HS2.out]; kernel_rfl) ?_) | (refine wpList_store_rowTo rfl 59 _ _ rfl rfl (w.heap.size + 1 + 1 + 1) cs2 rfl rfl 59 Z (by exact HZ2.out) (by rw [HS2.out]; kernel_rfl) (by rw [HS2.out]; exact HZS.out) HO2.out ?_))
    refine bodyPost_ret (results_M2 rfl _ (.int .i64 0) rfl rfl (by exact HZ2.out.row cs2) HS2.out) rfl ?_
    exact ⟨cs2, rfl, HR2.out, (HK2.out.setRow _ (.inr (by omega)) _).below (Nat.le_refl _) (by simp)⟩
  ·
    go_enter Try.func26, Try.ntmps26
    go_upto_region 1 with (first | (refine Go.Great.wpList_allocTo rfl (some 8) rfl (.pointer (some ⟨w.heap.size + 1 + 1 + 1, 0, none⟩)) (.cells Z 59) (run_allocN _ (by simp) rfl HZZ.out) ?_))
    go_wp2
    have ia : (a : Int) < 2 := by omega
    have is : (s0 : Int) < 256 := by omega
    generalize hwa : World.alloc (World.alloc (World.alloc (World.alloc w _) _) _) _ = wa
    have hM : Blk wa w.heap.size cs 59 := by rw [← hwa]; exact (((Blk.new w _ _).alloc _).alloc _).alloc _
    have hC : Blk wa (w.heap.size + 1) #[.int .i64 4, .int .i64 (s0 : Int), .int .i64 n, .string body] 36 := by rw [← hwa]; exact ((Blk.new' (by simp)).alloc _).alloc _
    have hA : Blk wa (w.heap.size + 1 + 1) #[.int .i64 an, .string ab, .int .i64 11] 38 := by rw [← hwa]; exact (Blk.new' (by simp)).alloc _
    have hZ : Blk wa (w.heap.size + 1 + 1 + 1) Z 59 := by rw [← hwa]; exact Blk.new' (by simp)
    have hK : Kept [] w wa := by rw [← hwa]; exact (((Kept.refl [] w).alloc _).alloc _).alloc _ |>.alloc _
    have hsz : wa.heap.size = w.heap.size + 1 + 1 + 1 + 1 := by rw [← hwa]; simp
    clear hwa
    have c0 : wa.cell? ⟨w.heap.size + 1, 0, none⟩ = some (.int .i64 4) := hC.cell 0
    have c1 : wa.cell? ⟨w.heap.size + 1, 1, none⟩ = some (.int .i64 (s0 : Int)) := hC.cell 1
    have c2 : wa.cell? ⟨w.heap.size + 1, 2, none⟩ = some (.int .i64 n) := hC.cell 2
    have c3 : wa.cell? ⟨w.heap.size + 1, 3, none⟩ = some (.string body) := hC.cell 3
    have e0 : wa.cell? ⟨w.heap.size + 1 + 1, 0, none⟩ = some (.int .i64 an) := hA.cell 0
    have e1 : wa.cell? ⟨w.heap.size + 1 + 1, 1, none⟩ = some (.string ab) := hA.cell 1
    have e2 : wa.cell? ⟨w.heap.size + 1 + 1, 2, none⟩ = some (.int .i64 11) := hA.cell 2
    have fr := hM.free (a * 512 + s0 * 2 + 1)
    have cl : wa.cell? ⟨w.heap.size, (a * 512 + s0 * 2 + 1), none⟩ = some (.bool (m.q a s0).2) := (hM.cell _).trans (by exact HM.out.clo ha hs0)
    go_region
    have hM2 := (hM.set (a * 512 + s0 * 2 + 1) (.bool true)).drew
    have hC2 := (hC.other ⟨w.heap.size, a * 512 + s0 * 2 + 1, none⟩ (by simp) (.bool true)).drew
    have hA2 := (hA.other ⟨w.heap.size, a * 512 + s0 * 2 + 1, none⟩ (by simp; omega) (.bool true)).drew
    have hZ2 := (hZ.other ⟨w.heap.size, a * 512 + s0 * 2 + 1, none⟩ (by simp; omega) (.bool true)).drew
    have hK2 : Kept [] w ((wa.setCell ⟨w.heap.size, a * 512 + s0 * 2 + 1, none⟩ (.bool true)).drew) := (hK.set _ (.inr (by simp)) _).drew
    have hR2 := HM.out.setc ha hs0 true
    clear c0 c1 c2 c3 e0 e1 e2 fr cl hM hC hA hZ hK ia is
    generalize World.drew _ = wb at *
    generalize Array.setIfInBounds cs _ _ = cs2 at *
    have c0 : wb.cell? ⟨w.heap.size + 1, 0, none⟩ = some (.int .i64 4) := hC2.cell 0
    have e2 : wb.cell? ⟨w.heap.size + 1 + 1, 2, none⟩ = some (.int .i64 11) := hA2.cell 2
    clear hC2 hA2
    have HR2 := Lib.hid hR2
    have HS2 := Lib.hid hR2.size
    have HO2 := Lib.hid hR2.one
    have HM2 := Lib.hid hM2
    have HZ2 := Lib.hid hZ2
    have HK2 := Lib.hid hK2
    clear hR2 hM2 hZ2 hK2
    go_wp2_with (first | (refine wpList_load_row rfl 59 _ rfl w.heap.size rfl 59 cs2 (0, 0) _ (by exact HM2.out) Try.underlying59 rfl (by rw [HS2.out]; kernel_rfl) ?_) | (refine wpList_store_rowTo rfl 59 _ _ rfl rfl (w.heap.size + 1 + 1 + 1) cs2 rfl rfl 59 Z (by exact HZ2.out) (by rw [HS2.out]; kernel_rfl) (by rw [HS2.out]; exact HZS.out) HO2.out ?_))
    refine bodyPost_ret (results_M2 rfl _ (.int .i64 0) rfl rfl (by exact HZ2.out.row cs2) HS2.out) rfl ?_
    exact ⟨cs2, rfl, HR2.out, (HK2.out.setRow _ (.inr (by omega)) _).below (Nat.le_refl _) (by simp)⟩
  ·
    go_enter Try.func26, Try.ntmps26
    go_upto_region 1 with (first | (refine Go.Great.wpList_allocTo rfl (some 8) rfl (.pointer (some ⟨w.heap.size + 1 + 1 + 1, 0, none⟩)) (.cells Z 59) (run_allocN _ (by simp) rfl HZZ.out) ?_))
    go_wp2
    have ia : (a : Int) < 2 := by omega
    have is : (s0 : Int) < 256 := by omega
    generalize hwa : World.alloc (World.alloc (World.alloc (World.alloc w _) _) _) _ = wa
    have hM : Blk wa w.heap.size cs 59 := by rw [← hwa]; exact (((Blk.new w _ _).alloc _).alloc _).alloc _
    have hC : Blk wa (w.heap.size + 1) #[.int .i64 4, .int .i64 (s0 : Int), .int .i64 n, .string body] 36 := by rw [← hwa]; exact ((Blk.new' (by simp)).alloc _).alloc _
    have hA : Blk wa (w.heap.size + 1 + 1) #[.int .i64 an, .string ab, .int .i64 12] 38 := by rw [← hwa]; exact (Blk.new' (by simp)).alloc _
    have hZ : Blk wa (w.heap.size + 1 + 1 + 1) Z 59 := by rw [← hwa]; exact Blk.new' (by simp)
    have hK : Kept [] w wa := by rw [← hwa]; exact (((Kept.refl [] w).alloc _).alloc _).alloc _ |>.alloc _
    have hsz : wa.heap.size = w.heap.size + 1 + 1 + 1 + 1 := by rw [← hwa]; simp
    clear hwa
    have c0 : wa.cell? ⟨w.heap.size + 1, 0, none⟩ = some (.int .i64 4) := hC.cell 0
    have c1 : wa.cell? ⟨w.heap.size + 1, 1, none⟩ = some (.int .i64 (s0 : Int)) := hC.cell 1
    have c2 : wa.cell? ⟨w.heap.size + 1, 2, none⟩ = some (.int .i64 n) := hC.cell 2
    have c3 : wa.cell? ⟨w.heap.size + 1, 3, none⟩ = some (.string body) := hC.cell 3
    have e0 : wa.cell? ⟨w.heap.size + 1 + 1, 0, none⟩ = some (.int .i64 an) := hA.cell 0
    have e1 : wa.cell? ⟨w.heap.size + 1 + 1, 1, none⟩ = some (.string ab) := hA.cell 1
    have e2 : wa.cell? ⟨w.heap.size + 1 + 1, 2, none⟩ = some (.int .i64 12) := hA.cell 2
    have fr := hM.free (a * 512 + s0 * 2 + 1)
    have cl : wa.cell? ⟨w.heap.size, (a * 512 + s0 * 2 + 1), none⟩ = some (.bool (m.q a s0).2) := (hM.cell _).trans (by exact HM.out.clo ha hs0)
    go_region
    have hM2 := (hM.set (a * 512 + s0 * 2 + 1) (.bool true)).drew
    have hC2 := (hC.other ⟨w.heap.size, a * 512 + s0 * 2 + 1, none⟩ (by simp) (.bool true)).drew
    have hA2 := (hA.other ⟨w.heap.size, a * 512 + s0 * 2 + 1, none⟩ (by simp; omega) (.bool true)).drew
    have hZ2 := (hZ.other ⟨w.heap.size, a * 512 + s0 * 2 + 1, none⟩ (by simp; omega) (.bool true)).drew
    have hK2 : Kept [] w ((wa.setCell ⟨w.heap.size, a * 512 + s0 * 2 + 1, none⟩ (.bool true)).drew) := (hK.set _ (.inr (by simp)) _).drew
    have hR2 := HM.out.setc ha hs0 true
    clear c0 c1 c2 c3 e0 e1 e2 fr cl hM hC hA hZ hK ia is
    generalize World.drew _ = wb at *
    generalize Array.setIfInBounds cs _ _ = cs2 at *
    have c0 : wb.cell? ⟨w.heap.size + 1, 0, none⟩ = some (.int .i64 4) := hC2.cell 0
    have e2 : wb.cell? ⟨w.heap.size + 1 + 1, 2, none⟩ = some (.int .i64 12) := hA2.cell 2
    clear hC2 hA2
    have HR2 := Lib.hid hR2
    have HS2 := Lib.hid hR2.size
    have HO2 := Lib.hid hR2.one
    have HM2 := Lib.hid hM2
    have HZ2 := Lib.hid hZ2
    have HK2 := Lib.hid hK2
    clear hR2 hM2 hZ2 hK2
    go_wp2_with (first | (refine wpList_load_row rfl 59 _ rfl w.heap.size rfl 59 cs2 (0, 0) _ (by exact HM2.out) Try.underlying59 rfl (by rw [HS2.out]; kernel_rfl) ?_) | (refine wpList_store_rowTo rfl 59 _ _ rfl rfl (w.heap.size + 1 + 1 + 1) cs2 rfl rfl 59 Z (by exact HZ2.out) (by rw [HS2.out]; kernel_rfl) (by rw [HS2.out]; exact HZS.out) HO2.out ?_))
    refine bodyPost_ret (results_M2 rfl _ (.int .i64 0) rfl rfl (by exact HZ2.out.row cs2) HS2.out) rfl ?_
    exact ⟨cs2, rfl, HR2.out, (HK2.out.setRow _ (.inr (by omega)) _).below (Nat.le_refl _) (by simp)⟩
end Go.Proofs.Ytpojophpbggkcaa
