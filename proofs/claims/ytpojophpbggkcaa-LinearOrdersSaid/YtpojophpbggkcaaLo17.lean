/- lightshipref34.Do by value: abort, write, read. -/
import Derived.Test.YtpojophpbggkcaaLo16
import Derived.Great.Walk
import Derived.IntWalk
import Derived.Deep.Cut
namespace Go.Proofs.Ytpojophpbggkcaa
open Go.ChangeShapes Go.WideShapes Go.ChangeAt Go.RowKit
set_option linter.unusedVariables false

set_option maxRecDepth 100000 in
set_option maxHeartbeats 2000000 in
theorem rdo_write (cs : Array Value) (m : Mq) (hm : MRow cs m) (a s0 : Nat) (ha : a < 2) (hs0 : s0 < 256) (n an : Int) (body ab : ByteArray) (hb : body.size ≤ 1000000) (hs : (m.q a s0).1.size ≤ 1000000) (w : World) :
    Calls Try.prog 26 #[.agg cs, .int .i64 (a : Int), .agg #[.int .i64 2, .int .i64 (s0 : Int), .int .i64 n, .string body], .agg #[.int .i64 an, .string ab, .int .i64 0]] w (RDo w (m.put a s0 (wrS (m.q a s0) body an)) (wrK (m.q a s0) body an)) := by
  have HW := Lib.hid (fun w => rwrite_is (m.q a s0) 2 (s0 : Int) n an body ab 0 hb hs w)
  unfold QSays qV at HW
  clear hb hs
  generalize wrK (m.q a s0) body an = k at *
  generalize hv' : wrS (m.q a s0) body an = v0 at *
  clear hv'
  obtain ⟨Z, hZr, hZz⟩ := mZ_ex
  have HZS := Lib.hid hZr.size
  have HZZ := Lib.hid hZz
  clear hZr hZz
  have HSZ := Lib.hid hm.size
  have HONE := Lib.hid hm.one
  have HM := Lib.hid hm
  have a0 : decide ((a : Int) < 0) = false := by rw [decide_eq_false_iff_not]; omega
  have a1 : decide ((1 : Int) < (a : Int)) = false := by rw [decide_eq_false_iff_not]; omega
  have s1 : decide ((s0 : Int) < 0) = false := by rw [decide_eq_false_iff_not]; omega
  have s2 : decide ((255 : Int) < (s0 : Int)) = false := by rw [decide_eq_false_iff_not]; omega
  clear hm
  have m0' := HM.out.str ha hs0
  have m1' := HM.out.clo ha hs0
  have m2' := HM.out.bro hs0
  have ia : (a : Int) < 2 := by omega
  have is : (s0 : Int) < 256 := by omega
  generalize m.br s0 = br at *
  generalize m.q a s0 = v at *
  generalize v0 = v' at *
  have HR2 : Hid (MRow ((cs.setIfInBounds (a * 512 + s0 * 2) (.string v'.1)).setIfInBounds (a * 512 + s0 * 2 + 1) (.bool v'.2)) (m.put a s0 v')) := Lib.hid (HM.out.setq ha hs0 v')
  clear HM
  generalize v.1 = s at *
  generalize v.2 = c at *
  generalize v'.1 = s' at *
  generalize v'.2 = c' at *
  go_enter Try.func26, Try.ntmps26
  go_upto_region 1 with (first | (refine Go.Great.wpList_allocTo rfl (some 8) rfl (.pointer (some ⟨w.heap.size + 1 + 1 + 1, 0, none⟩)) (.cells Z 59) (run_allocN _ (by simp) rfl HZZ.out) ?_))
  go_wp2
  generalize hwa : World.alloc (World.alloc (World.alloc (World.alloc w _) _) _) _ = wa
  have hM : Blk wa w.heap.size cs 59 := by rw [← hwa]; exact (((Blk.new w _ _).alloc _).alloc _).alloc _
  have hC : Blk wa (w.heap.size + 1) #[.int .i64 2, .int .i64 (s0 : Int), .int .i64 n, .string body] 36 := by rw [← hwa]; exact ((Blk.new' (by simp)).alloc _).alloc _
  have hA : Blk wa (w.heap.size + 1 + 1) #[.int .i64 an, .string ab, .int .i64 0] 38 := by rw [← hwa]; exact (Blk.new' (by simp)).alloc _
  have hZ : Blk wa (w.heap.size + 1 + 1 + 1) Z 59 := by rw [← hwa]; exact Blk.new' (by simp)
  have hK : Kept [] w wa := by rw [← hwa]; exact (((Kept.refl [] w).alloc _).alloc _).alloc _ |>.alloc _
  have hsz : wa.heap.size = w.heap.size + 1 + 1 + 1 + 1 := by rw [← hwa]; simp
  clear hwa
  have m0 : wa.cell? ⟨w.heap.size, a * 512 + s0 * 2, none⟩ = some (.string s) := (hM.cell _).trans m0'
  have m1 : wa.cell? ⟨w.heap.size, a * 512 + s0 * 2 + 1, none⟩ = some (.bool c) := (hM.cell _).trans m1'
  have m2 : wa.cell? ⟨w.heap.size, 1024 + s0, none⟩ = some (.bool br) := (hM.cell _).trans m2'
  have c0 : wa.cell? ⟨w.heap.size + 1, 0, none⟩ = some (.int .i64 2) := hC.cell 0
  have c1 : wa.cell? ⟨w.heap.size + 1, 1, none⟩ = some (.int .i64 (s0 : Int)) := hC.cell 1
  have c2 : wa.cell? ⟨w.heap.size + 1, 2, none⟩ = some (.int .i64 n) := hC.cell 2
  have c3 : wa.cell? ⟨w.heap.size + 1, 3, none⟩ = some (.string body) := hC.cell 3
  have e0 : wa.cell? ⟨w.heap.size + 1 + 1, 0, none⟩ = some (.int .i64 an) := hA.cell 0
  have e1 : wa.cell? ⟨w.heap.size + 1 + 1, 1, none⟩ = some (.string ab) := hA.cell 1
  have e2 : wa.cell? ⟨w.heap.size + 1 + 1, 2, none⟩ = some (.int .i64 0) := hA.cell 2
  have HMa := Lib.hid hM
  have HCa := Lib.hid hC
  have HAa := Lib.hid hA
  have HZa := Lib.hid hZ
  have HKa := Lib.hid hK
  clear hM hC hA hZ hK
  have hl : w.heap.size + 1 + 1 + 1 < wa.heap.size := by omega
  clear hsz
  go_region_held3 (fun w' => w'.cell? ⟨w.heap.size + 1, 0, none⟩ = some (.int .i64 2) ∧ w'.cell? ⟨w.heap.size + 1, 1, none⟩ = some (.int .i64 (s0 : Int)) ∧ w'.cell? ⟨w.heap.size + 1, 2, none⟩ = some (.int .i64 n) ∧ w'.cell? ⟨w.heap.size + 1, 3, none⟩ = some (.string body) ∧ w'.cell? ⟨w.heap.size + 1 + 1, 0, none⟩ = some (.int .i64 an) ∧ w'.cell? ⟨w.heap.size + 1 + 1, 1, none⟩ = some (.string ab) ∧ w'.cell? ⟨w.heap.size + 1 + 1, 2, none⟩ = some (.int .i64 0) ∧ w'.cell? ⟨w.heap.size, a * 512 + s0 * 2, none⟩ = some (.string s) ∧ w'.cell? ⟨w.heap.size, a * 512 + s0 * 2 + 1, none⟩ = some (.bool c) ∧ w'.cell? ⟨w.heap.size, 1024 + s0, none⟩ = some (.bool br)) (first | exact ⟨c0, c1, c2, c3, e0, e1, e2, m0, m1, m2⟩ | (exact ⟨kbelow hb3 (by simp; omega) c0, kbelow hb3 (by simp; omega) c1, kbelow hb3 (by simp; omega) c2, kbelow hb3 (by simp; omega) c3, kbelow hb3 (by simp; omega) e0, kbelow hb3 (by simp; omega) e1, kbelow hb3 (by simp; omega) e2, kbelow hb3 (by simp; omega) m0, kbelow hb3 (by simp; omega) m1, kbelow hb3 (by simp; omega) m2⟩) | (exact ⟨kbelow (Below.alloc hb3 hb3.size _) (by simp; omega) c0, kbelow (Below.alloc hb3 hb3.size _) (by simp; omega) c1, kbelow (Below.alloc hb3 hb3.size _) (by simp; omega) c2, kbelow (Below.alloc hb3 hb3.size _) (by simp; omega) c3, kbelow (Below.alloc hb3 hb3.size _) (by simp; omega) e0, kbelow (Below.alloc hb3 hb3.size _) (by simp; omega) e1, kbelow (Below.alloc hb3 hb3.size _) (by simp; omega) e2, kbelow (Below.alloc hb3 hb3.size _) (by simp; omega) m0, kbelow (Below.alloc hb3 hb3.size _) (by simp; omega) m1, kbelow (Below.alloc hb3 hb3.size _) (by simp; omega) m2⟩) | (exact ⟨kbelow (Below.drew (Below.alloc (Below.refl wa.heap.size wa) (Nat.le_refl _) _)) (by simp; omega) c0, kbelow (Below.drew (Below.alloc (Below.refl wa.heap.size wa) (Nat.le_refl _) _)) (by simp; omega) c1, kbelow (Below.drew (Below.alloc (Below.refl wa.heap.size wa) (Nat.le_refl _) _)) (by simp; omega) c2, kbelow (Below.drew (Below.alloc (Below.refl wa.heap.size wa) (Nat.le_refl _) _)) (by simp; omega) c3, kbelow (Below.drew (Below.alloc (Below.refl wa.heap.size wa) (Nat.le_refl _) _)) (by simp; omega) e0, kbelow (Below.drew (Below.alloc (Below.refl wa.heap.size wa) (Nat.le_refl _) _)) (by simp; omega) e1, kbelow (Below.drew (Below.alloc (Below.refl wa.heap.size wa) (Nat.le_refl _) _)) (by simp; omega) e2, kbelow (Below.drew (Below.alloc (Below.refl wa.heap.size wa) (Nat.le_refl _) _)) (by simp; omega) m0, kbelow (Below.drew (Below.alloc (Below.refl wa.heap.size wa) (Nat.le_refl _) _)) (by simp; omega) m1, kbelow (Below.drew (Below.alloc (Below.refl wa.heap.size wa) (Nat.le_refl _) _)) (by simp; omega) m2⟩) | (exact ⟨kbelow ((Below.drew (Below.alloc (Below.refl wa.heap.size wa) (Nat.le_refl _) _)).trans (hb3.mono (by simp))) (by simp; omega) c0, kbelow ((Below.drew (Below.alloc (Below.refl wa.heap.size wa) (Nat.le_refl _) _)).trans (hb3.mono (by simp))) (by simp; omega) c1, kbelow ((Below.drew (Below.alloc (Below.refl wa.heap.size wa) (Nat.le_refl _) _)).trans (hb3.mono (by simp))) (by simp; omega) c2, kbelow ((Below.drew (Below.alloc (Below.refl wa.heap.size wa) (Nat.le_refl _) _)).trans (hb3.mono (by simp))) (by simp; omega) c3, kbelow ((Below.drew (Below.alloc (Below.refl wa.heap.size wa) (Nat.le_refl _) _)).trans (hb3.mono (by simp))) (by simp; omega) e0, kbelow ((Below.drew (Below.alloc (Below.refl wa.heap.size wa) (Nat.le_refl _) _)).trans (hb3.mono (by simp))) (by simp; omega) e1, kbelow ((Below.drew (Below.alloc (Below.refl wa.heap.size wa) (Nat.le_refl _) _)).trans (hb3.mono (by simp))) (by simp; omega) e2, kbelow ((Below.drew (Below.alloc (Below.refl wa.heap.size wa) (Nat.le_refl _) _)).trans (hb3.mono (by simp))) (by simp; omega) m0, kbelow ((Below.drew (Below.alloc (Below.refl wa.heap.size wa) (Nat.le_refl _) _)).trans (hb3.mono (by simp))) (by simp; omega) m1, kbelow ((Below.drew (Below.alloc (Below.refl wa.heap.size wa) (Nat.le_refl _) _)).trans (hb3.mono (by simp))) (by simp; omega) m2⟩) | (exact ⟨kbelow ((((Below.drew (Below.alloc (Below.refl wa.heap.size wa) (Nat.le_refl _) _)).trans (hb3.mono (by simp))).setCell (p := ⟨wa.heap.size, 0, none⟩) (by simp) _).setCell (p := ⟨wa.heap.size, 1, none⟩) (by simp) _) (by simp; omega) c0, kbelow ((((Below.drew (Below.alloc (Below.refl wa.heap.size wa) (Nat.le_refl _) _)).trans (hb3.mono (by simp))).setCell (p := ⟨wa.heap.size, 0, none⟩) (by simp) _).setCell (p := ⟨wa.heap.size, 1, none⟩) (by simp) _) (by simp; omega) c1, kbelow ((((Below.drew (Below.alloc (Below.refl wa.heap.size wa) (Nat.le_refl _) _)).trans (hb3.mono (by simp))).setCell (p := ⟨wa.heap.size, 0, none⟩) (by simp) _).setCell (p := ⟨wa.heap.size, 1, none⟩) (by simp) _) (by simp; omega) c2, kbelow ((((Below.drew (Below.alloc (Below.refl wa.heap.size wa) (Nat.le_refl _) _)).trans (hb3.mono (by simp))).setCell (p := ⟨wa.heap.size, 0, none⟩) (by simp) _).setCell (p := ⟨wa.heap.size, 1, none⟩) (by simp) _) (by simp; omega) c3, kbelow ((((Below.drew (Below.alloc (Below.refl wa.heap.size wa) (Nat.le_refl _) _)).trans (hb3.mono (by simp))).setCell (p := ⟨wa.heap.size, 0, none⟩) (by simp) _).setCell (p := ⟨wa.heap.size, 1, none⟩) (by simp) _) (by simp; omega) e0, kbelow ((((Below.drew (Below.alloc (Below.refl wa.heap.size wa) (Nat.le_refl _) _)).trans (hb3.mono (by simp))).setCell (p := ⟨wa.heap.size, 0, none⟩) (by simp) _).setCell (p := ⟨wa.heap.size, 1, none⟩) (by simp) _) (by simp; omega) e1, kbelow ((((Below.drew (Below.alloc (Below.refl wa.heap.size wa) (Nat.le_refl _) _)).trans (hb3.mono (by simp))).setCell (p := ⟨wa.heap.size, 0, none⟩) (by simp) _).setCell (p := ⟨wa.heap.size, 1, none⟩) (by simp) _) (by simp; omega) e2, kbelow ((((Below.drew (Below.alloc (Below.refl wa.heap.size wa) (Nat.le_refl _) _)).trans (hb3.mono (by simp))).setCell (p := ⟨wa.heap.size, 0, none⟩) (by simp) _).setCell (p := ⟨wa.heap.size, 1, none⟩) (by simp) _) (by simp; omega) m0, kbelow ((((Below.drew (Below.alloc (Below.refl wa.heap.size wa) (Nat.le_refl _) _)).trans (hb3.mono (by simp))).setCell (p := ⟨wa.heap.size, 0, none⟩) (by simp) _).setCell (p := ⟨wa.heap.size, 1, none⟩) (by simp) _) (by simp; omega) m1, kbelow ((((Below.drew (Below.alloc (Below.refl wa.heap.size wa) (Nat.le_refl _) _)).trans (hb3.mono (by simp))).setCell (p := ⟨wa.heap.size, 0, none⟩) (by simp) _).setCell (p := ⟨wa.heap.size, 1, none⟩) (by simp) _) (by simp; omega) m2⟩)) ((go_at_call 36; refine (HW.out _).mono ?_; rintro e w3 ⟨rfl, hb3⟩; (try (have hx : Blk w3 wa.heap.size #[.string ⟨#[]⟩, .bool false] 54 := ((Blk.new wa _ _).drew).below hb3 (by simp); have x0 := hx.cell 0; have x1 := hx.cell 1; have x2 := hx.free 0; have x3 := hx.free 1; simp at x0 x1))))
  · have hk : Kept [] wa (w3.alloc (.cells #[.string s', .bool c'] 54)) := ((Kept.refl [] wa).drew.trans (Kept.of_below hb3 []) (by simp)).alloc _
    have hx4 := Blk.new w3 #[.string s', .bool c'] 54
    have hlx : w.heap.size < w3.heap.size := by have := hb3.size; simp at this; omega
    generalize World.alloc w3 _ = wb at *
    generalize w3.heap.size = x at *
    have hM := HMa.out.kept hk (by simp)
    have hC := HCa.out.kept hk (by simp)
    have hA := HAa.out.kept hk (by simp)
    have hZ := HZa.out.kept hk (by simp)
    have hK := HKa.out.trans hk (by simp)
    clear c0 c1 c2 c3 e0 e1 e2 m0 m1 m2 hk hl hb3
    have m0 : wb.cell? ⟨w.heap.size, a * 512 + s0 * 2, none⟩ = some (.string s) := (hM.cell _).trans m0'
    have m1 : wb.cell? ⟨w.heap.size, a * 512 + s0 * 2 + 1, none⟩ = some (.bool c) := (hM.cell _).trans m1'
    have f0 := hM.free (a * 512 + s0 * 2)
    have f1 := hM.free (a * 512 + s0 * 2 + 1)
    have x0 : wb.cell? ⟨x, 0, none⟩ = some (.string s') := hx4.cell 0
    have x1 : wb.cell? ⟨x, 1, none⟩ = some (.bool c') := hx4.cell 1
    have c1 : wb.cell? ⟨w.heap.size + 1, 1, none⟩ = some (.int .i64 (s0 : Int)) := hC.cell 1
    go_wp2
    go_region
    have hM2 := ((hM.set (a * 512 + s0 * 2) (.string s')).set (a * 512 + s0 * 2 + 1) (.bool c')).drew
    have hC2 := ((hC.other ⟨w.heap.size, a * 512 + s0 * 2, none⟩ (by simp) (.string s')).other ⟨w.heap.size, a * 512 + s0 * 2 + 1, none⟩ (by simp) (.bool c')).drew
    have hZ2 := ((hZ.other ⟨w.heap.size, a * 512 + s0 * 2, none⟩ (by simp; omega) (.string s')).other ⟨w.heap.size, a * 512 + s0 * 2 + 1, none⟩ (by simp; omega) (.bool c')).drew
    have hK2 : Kept [] w ((wb.setCell ⟨w.heap.size, a * 512 + s0 * 2, none⟩ (.string s')).setCell ⟨w.heap.size, a * 512 + s0 * 2 + 1, none⟩ (.bool c')).drew := ((hK.set _ (.inr (by simp)) _).set _ (.inr (by simp)) _).drew
    have hR2 := HR2.out
    clear HR2 m0 m1 f0 f1 x0 x1 c1 hM hC hA hZ hK hx4 hlx
    generalize World.drew _ = wd at *
    generalize Array.setIfInBounds (Array.setIfInBounds cs _ _) _ _ = cs2 at *
    have c0 : wd.cell? ⟨w.heap.size + 1, 0, none⟩ = some (.int .i64 2) := hC2.cell 0
    clear hC2
    have HR2 := Lib.hid hR2
    have HS2 := Lib.hid hR2.size
    have HO2 := Lib.hid hR2.one
    have HM2 := Lib.hid hM2
    have HZ2 := Lib.hid hZ2
    have HK2 := Lib.hid hK2
    clear hR2 hM2 hZ2 hK2
    go_wp2_with (first | (refine wpList_load_row rfl 59 _ rfl w.heap.size rfl 59 cs2 (0, 0) _ (by exact HM2.out) Try.underlying59 rfl (by rw [HS2.out]; kernel_rfl) ?_) | (refine wpList_store_rowTo rfl 59 _ _ rfl rfl (w.heap.size + 1 + 1 + 1) cs2 rfl rfl 59 Z (by exact HZ2.out) (by rw [HS2.out]; kernel_rfl) (by rw [HS2.out]; exact HZS.out) HO2.out ?_))
    refine bodyPost_ret (results_M2 rfl _ (.int .i64 k) rfl rfl (by exact HZ2.out.row cs2) HS2.out) rfl ?_
    exact ⟨cs2, rfl, HR2.out, (HK2.out.setRow _ (.inr (by omega)) _).below (Nat.le_refl _) (by simp)⟩
  · have hk : Kept [] wa ((w3.setCell ⟨wa.heap.size, 0, none⟩ (.string s')).setCell ⟨wa.heap.size, 1, none⟩ (.bool c')) := ((((Kept.refl [] wa).alloc _).drew.trans (Kept.of_below hb3 []) (by simp)).set _ (.inr (Nat.le_refl _)) _).set _ (.inr (Nat.le_refl _)) _
    have hx4 : Blk ((w3.setCell ⟨wa.heap.size, 0, none⟩ (.string s')).setCell ⟨wa.heap.size, 1, none⟩ (.bool c')) wa.heap.size #[.string s', .bool c'] 54 := (hx.set 0 (.string s')).set 1 (.bool c')
    have hlx : w.heap.size < wa.heap.size := by omega
    clear hx x0 x1 x2 x3
    generalize World.setCell (World.setCell _ _ _) _ _ = wb at *
    generalize wa.heap.size = x at *
    have hM := HMa.out.kept hk (by simp)
    have hC := HCa.out.kept hk (by simp)
    have hA := HAa.out.kept hk (by simp)
    have hZ := HZa.out.kept hk (by simp)
    have hK := HKa.out.trans hk (by simp)
    clear c0 c1 c2 c3 e0 e1 e2 m0 m1 m2 hk hl hb3
    have m0 : wb.cell? ⟨w.heap.size, a * 512 + s0 * 2, none⟩ = some (.string s) := (hM.cell _).trans m0'
    have m1 : wb.cell? ⟨w.heap.size, a * 512 + s0 * 2 + 1, none⟩ = some (.bool c) := (hM.cell _).trans m1'
    have f0 := hM.free (a * 512 + s0 * 2)
    have f1 := hM.free (a * 512 + s0 * 2 + 1)
    have x0 : wb.cell? ⟨x, 0, none⟩ = some (.string s') := hx4.cell 0
    have x1 : wb.cell? ⟨x, 1, none⟩ = some (.bool c') := hx4.cell 1
    have c1 : wb.cell? ⟨w.heap.size + 1, 1, none⟩ = some (.int .i64 (s0 : Int)) := hC.cell 1
    go_wp2
    go_region
    have hM2 := ((hM.set (a * 512 + s0 * 2) (.string s')).set (a * 512 + s0 * 2 + 1) (.bool c')).drew
    have hC2 := ((hC.other ⟨w.heap.size, a * 512 + s0 * 2, none⟩ (by simp) (.string s')).other ⟨w.heap.size, a * 512 + s0 * 2 + 1, none⟩ (by simp) (.bool c')).drew
    have hZ2 := ((hZ.other ⟨w.heap.size, a * 512 + s0 * 2, none⟩ (by simp; omega) (.string s')).other ⟨w.heap.size, a * 512 + s0 * 2 + 1, none⟩ (by simp; omega) (.bool c')).drew
    have hK2 : Kept [] w ((wb.setCell ⟨w.heap.size, a * 512 + s0 * 2, none⟩ (.string s')).setCell ⟨w.heap.size, a * 512 + s0 * 2 + 1, none⟩ (.bool c')).drew := ((hK.set _ (.inr (by simp)) _).set _ (.inr (by simp)) _).drew
    have hR2 := HR2.out
    clear HR2 m0 m1 f0 f1 x0 x1 c1 hM hC hA hZ hK hx4 hlx
    generalize World.drew _ = wd at *
    generalize Array.setIfInBounds (Array.setIfInBounds cs _ _) _ _ = cs2 at *
    have c0 : wd.cell? ⟨w.heap.size + 1, 0, none⟩ = some (.int .i64 2) := hC2.cell 0
    clear hC2
    have HR2 := Lib.hid hR2
    have HS2 := Lib.hid hR2.size
    have HO2 := Lib.hid hR2.one
    have HM2 := Lib.hid hM2
    have HZ2 := Lib.hid hZ2
    have HK2 := Lib.hid hK2
    clear hR2 hM2 hZ2 hK2
    go_wp2_with (first | (refine wpList_load_row rfl 59 _ rfl w.heap.size rfl 59 cs2 (0, 0) _ (by exact HM2.out) Try.underlying59 rfl (by rw [HS2.out]; kernel_rfl) ?_) | (refine wpList_store_rowTo rfl 59 _ _ rfl rfl (w.heap.size + 1 + 1 + 1) cs2 rfl rfl 59 Z (by exact HZ2.out) (by rw [HS2.out]; kernel_rfl) (by rw [HS2.out]; exact HZS.out) HO2.out ?_))
    refine bodyPost_ret (results_M2 rfl _ (.int .i64 k) rfl rfl (by exact HZ2.out.row cs2) HS2.out) rfl ?_
    exact ⟨cs2, rfl, HR2.out, (HK2.out.setRow _ (.inr (by omega)) _).below (Nat.le_refl _) (by simp)⟩
set_option maxRecDepth 100000 in
set_option maxHeartbeats 2000000 in
theorem rdo_read0 (cs : Array Value) (m : Mq) (hm : MRow cs m) (a b s0 : Nat) (ha : a < 2) (hab : a + b = 1) (hs0 : s0 < 256) (n an : Int) (body ab : ByteArray) (w : World) :
    Calls Try.prog 26 #[.agg cs, .int .i64 (a : Int), .agg #[.int .i64 3, .int .i64 (s0 : Int), .int .i64 n, .string body], .agg #[.int .i64 an, .string ab, .int .i64 0]] w (RDo w (m.put b s0 (rdS (m.q b s0).1 ab n, (m.q b s0).2)) (rdK (m.q b s0).1 ab n)) := by
  have HW := Lib.hid (fun w => rread_is (m.q b s0) (m.br s0) 3 (s0 : Int) n body ab an w)
  unfold QSays qV at HW
  generalize rdK (m.q b s0).1 ab n = k at *
  generalize hv' : (rdS (m.q b s0).1 ab n, (m.q b s0).2) = v0 at *
  clear hv'
  obtain ⟨Z, hZr, hZz⟩ := mZ_ex
  have HZS := Lib.hid hZr.size
  have HZZ := Lib.hid hZz
  clear hZr hZz
  have HSZ := Lib.hid hm.size
  have HONE := Lib.hid hm.one
  have HM := Lib.hid hm
  have a0 : decide ((a : Int) < 0) = false := by rw [decide_eq_false_iff_not]; omega
  have a1 : decide ((1 : Int) < (a : Int)) = false := by rw [decide_eq_false_iff_not]; omega
  have s1 : decide ((s0 : Int) < 0) = false := by rw [decide_eq_false_iff_not]; omega
  have s2 : decide ((255 : Int) < (s0 : Int)) = false := by rw [decide_eq_false_iff_not]; omega
  clear hm
  have hb2 : b < 2 := by omega
  have hwr : IntKind.i64.wrap (1 - (a : Int)) = (b : Int) := by rw [IntWalk.i64_in _ (by omega)]; omega
  clear hab
  have m0' := HM.out.str hb2 hs0
  have m1' := HM.out.clo hb2 hs0
  have m2' := HM.out.bro hs0
  have ia : (b : Int) < 2 := by omega
  have is : (s0 : Int) < 256 := by omega
  generalize m.br s0 = br at *
  generalize m.q b s0 = v at *
  generalize v0 = v' at *
  have HR2 : Hid (MRow ((cs.setIfInBounds (b * 512 + s0 * 2) (.string v'.1)).setIfInBounds (b * 512 + s0 * 2 + 1) (.bool v'.2)) (m.put b s0 v')) := Lib.hid (HM.out.setq hb2 hs0 v')
  clear HM
  generalize v.1 = s at *
  generalize v.2 = c at *
  generalize v'.1 = s' at *
  generalize v'.2 = c' at *
  go_enter Try.func26, Try.ntmps26
  go_upto_region 1 with (first | (refine Go.Great.wpList_allocTo rfl (some 8) rfl (.pointer (some ⟨w.heap.size + 1 + 1 + 1, 0, none⟩)) (.cells Z 59) (run_allocN _ (by simp) rfl HZZ.out) ?_))
  go_wp2
  generalize hwa : World.alloc (World.alloc (World.alloc (World.alloc w _) _) _) _ = wa
  have hM : Blk wa w.heap.size cs 59 := by rw [← hwa]; exact (((Blk.new w _ _).alloc _).alloc _).alloc _
  have hC : Blk wa (w.heap.size + 1) #[.int .i64 3, .int .i64 (s0 : Int), .int .i64 n, .string body] 36 := by rw [← hwa]; exact ((Blk.new' (by simp)).alloc _).alloc _
  have hA : Blk wa (w.heap.size + 1 + 1) #[.int .i64 an, .string ab, .int .i64 0] 38 := by rw [← hwa]; exact (Blk.new' (by simp)).alloc _
  have hZ : Blk wa (w.heap.size + 1 + 1 + 1) Z 59 := by rw [← hwa]; exact Blk.new' (by simp)
  have hK : Kept [] w wa := by rw [← hwa]; exact (((Kept.refl [] w).alloc _).alloc _).alloc _ |>.alloc _
  have hsz : wa.heap.size = w.heap.size + 1 + 1 + 1 + 1 := by rw [← hwa]; simp
  clear hwa
  have m0 : wa.cell? ⟨w.heap.size, b * 512 + s0 * 2, none⟩ = some (.string s) := (hM.cell _).trans m0'
  have m1 : wa.cell? ⟨w.heap.size, b * 512 + s0 * 2 + 1, none⟩ = some (.bool c) := (hM.cell _).trans m1'
  have m2 : wa.cell? ⟨w.heap.size, 1024 + s0, none⟩ = some (.bool br) := (hM.cell _).trans m2'
  have c0 : wa.cell? ⟨w.heap.size + 1, 0, none⟩ = some (.int .i64 3) := hC.cell 0
  have c1 : wa.cell? ⟨w.heap.size + 1, 1, none⟩ = some (.int .i64 (s0 : Int)) := hC.cell 1
  have c2 : wa.cell? ⟨w.heap.size + 1, 2, none⟩ = some (.int .i64 n) := hC.cell 2
  have c3 : wa.cell? ⟨w.heap.size + 1, 3, none⟩ = some (.string body) := hC.cell 3
  have e0 : wa.cell? ⟨w.heap.size + 1 + 1, 0, none⟩ = some (.int .i64 an) := hA.cell 0
  have e1 : wa.cell? ⟨w.heap.size + 1 + 1, 1, none⟩ = some (.string ab) := hA.cell 1
  have e2 : wa.cell? ⟨w.heap.size + 1 + 1, 2, none⟩ = some (.int .i64 0) := hA.cell 2
  have HMa := Lib.hid hM
  have HCa := Lib.hid hC
  have HAa := Lib.hid hA
  have HZa := Lib.hid hZ
  have HKa := Lib.hid hK
  clear hM hC hA hZ hK
  have hl : w.heap.size + 1 + 1 + 1 < wa.heap.size := by omega
  clear hsz
  go_region_held3 (fun w' => w'.cell? ⟨w.heap.size + 1, 0, none⟩ = some (.int .i64 3) ∧ w'.cell? ⟨w.heap.size + 1, 1, none⟩ = some (.int .i64 (s0 : Int)) ∧ w'.cell? ⟨w.heap.size + 1, 2, none⟩ = some (.int .i64 n) ∧ w'.cell? ⟨w.heap.size + 1, 3, none⟩ = some (.string body) ∧ w'.cell? ⟨w.heap.size + 1 + 1, 0, none⟩ = some (.int .i64 an) ∧ w'.cell? ⟨w.heap.size + 1 + 1, 1, none⟩ = some (.string ab) ∧ w'.cell? ⟨w.heap.size + 1 + 1, 2, none⟩ = some (.int .i64 0) ∧ w'.cell? ⟨w.heap.size, b * 512 + s0 * 2, none⟩ = some (.string s) ∧ w'.cell? ⟨w.heap.size, b * 512 + s0 * 2 + 1, none⟩ = some (.bool c) ∧ w'.cell? ⟨w.heap.size, 1024 + s0, none⟩ = some (.bool br)) (first | exact ⟨c0, c1, c2, c3, e0, e1, e2, m0, m1, m2⟩ | (exact ⟨kbelow hb3 (by simp; omega) c0, kbelow hb3 (by simp; omega) c1, kbelow hb3 (by simp; omega) c2, kbelow hb3 (by simp; omega) c3, kbelow hb3 (by simp; omega) e0, kbelow hb3 (by simp; omega) e1, kbelow hb3 (by simp; omega) e2, kbelow hb3 (by simp; omega) m0, kbelow hb3 (by simp; omega) m1, kbelow hb3 (by simp; omega) m2⟩) | (exact ⟨kbelow (Below.alloc hb3 hb3.size _) (by simp; omega) c0, kbelow (Below.alloc hb3 hb3.size _) (by simp; omega) c1, kbelow (Below.alloc hb3 hb3.size _) (by simp; omega) c2, kbelow (Below.alloc hb3 hb3.size _) (by simp; omega) c3, kbelow (Below.alloc hb3 hb3.size _) (by simp; omega) e0, kbelow (Below.alloc hb3 hb3.size _) (by simp; omega) e1, kbelow (Below.alloc hb3 hb3.size _) (by simp; omega) e2, kbelow (Below.alloc hb3 hb3.size _) (by simp; omega) m0, kbelow (Below.alloc hb3 hb3.size _) (by simp; omega) m1, kbelow (Below.alloc hb3 hb3.size _) (by simp; omega) m2⟩) | (exact ⟨kbelow (Below.drew (Below.alloc (Below.refl wa.heap.size wa) (Nat.le_refl _) _)) (by simp; omega) c0, kbelow (Below.drew (Below.alloc (Below.refl wa.heap.size wa) (Nat.le_refl _) _)) (by simp; omega) c1, kbelow (Below.drew (Below.alloc (Below.refl wa.heap.size wa) (Nat.le_refl _) _)) (by simp; omega) c2, kbelow (Below.drew (Below.alloc (Below.refl wa.heap.size wa) (Nat.le_refl _) _)) (by simp; omega) c3, kbelow (Below.drew (Below.alloc (Below.refl wa.heap.size wa) (Nat.le_refl _) _)) (by simp; omega) e0, kbelow (Below.drew (Below.alloc (Below.refl wa.heap.size wa) (Nat.le_refl _) _)) (by simp; omega) e1, kbelow (Below.drew (Below.alloc (Below.refl wa.heap.size wa) (Nat.le_refl _) _)) (by simp; omega) e2, kbelow (Below.drew (Below.alloc (Below.refl wa.heap.size wa) (Nat.le_refl _) _)) (by simp; omega) m0, kbelow (Below.drew (Below.alloc (Below.refl wa.heap.size wa) (Nat.le_refl _) _)) (by simp; omega) m1, kbelow (Below.drew (Below.alloc (Below.refl wa.heap.size wa) (Nat.le_refl _) _)) (by simp; omega) m2⟩) | (exact ⟨kbelow ((Below.drew (Below.alloc (Below.refl wa.heap.size wa) (Nat.le_refl _) _)).trans (hb3.mono (by simp))) (by simp; omega) c0, kbelow ((Below.drew (Below.alloc (Below.refl wa.heap.size wa) (Nat.le_refl _) _)).trans (hb3.mono (by simp))) (by simp; omega) c1, kbelow ((Below.drew (Below.alloc (Below.refl wa.heap.size wa) (Nat.le_refl _) _)).trans (hb3.mono (by simp))) (by simp; omega) c2, kbelow ((Below.drew (Below.alloc (Below.refl wa.heap.size wa) (Nat.le_refl _) _)).trans (hb3.mono (by simp))) (by simp; omega) c3, kbelow ((Below.drew (Below.alloc (Below.refl wa.heap.size wa) (Nat.le_refl _) _)).trans (hb3.mono (by simp))) (by simp; omega) e0, kbelow ((Below.drew (Below.alloc (Below.refl wa.heap.size wa) (Nat.le_refl _) _)).trans (hb3.mono (by simp))) (by simp; omega) e1, kbelow ((Below.drew (Below.alloc (Below.refl wa.heap.size wa) (Nat.le_refl _) _)).trans (hb3.mono (by simp))) (by simp; omega) e2, kbelow ((Below.drew (Below.alloc (Below.refl wa.heap.size wa) (Nat.le_refl _) _)).trans (hb3.mono (by simp))) (by simp; omega) m0, kbelow ((Below.drew (Below.alloc (Below.refl wa.heap.size wa) (Nat.le_refl _) _)).trans (hb3.mono (by simp))) (by simp; omega) m1, kbelow ((Below.drew (Below.alloc (Below.refl wa.heap.size wa) (Nat.le_refl _) _)).trans (hb3.mono (by simp))) (by simp; omega) m2⟩) | (exact ⟨kbelow ((((Below.drew (Below.alloc (Below.refl wa.heap.size wa) (Nat.le_refl _) _)).trans (hb3.mono (by simp))).setCell (p := ⟨wa.heap.size, 0, none⟩) (by simp) _).setCell (p := ⟨wa.heap.size, 1, none⟩) (by simp) _) (by simp; omega) c0, kbelow ((((Below.drew (Below.alloc (Below.refl wa.heap.size wa) (Nat.le_refl _) _)).trans (hb3.mono (by simp))).setCell (p := ⟨wa.heap.size, 0, none⟩) (by simp) _).setCell (p := ⟨wa.heap.size, 1, none⟩) (by simp) _) (by simp; omega) c1, kbelow ((((Below.drew (Below.alloc (Below.refl wa.heap.size wa) (Nat.le_refl _) _)).trans (hb3.mono (by simp))).setCell (p := ⟨wa.heap.size, 0, none⟩) (by simp) _).setCell (p := ⟨wa.heap.size, 1, none⟩) (by simp) _) (by simp; omega) c2, kbelow ((((Below.drew (Below.alloc (Below.refl wa.heap.size wa) (Nat.le_refl _) _)).trans (hb3.mono (by simp))).setCell (p := ⟨wa.heap.size, 0, none⟩) (by simp) _).setCell (p := ⟨wa.heap.size, 1, none⟩) (by simp) _) (by simp; omega) c3, kbelow ((((Below.drew (Below.alloc (Below.refl wa.heap.size wa) (Nat.le_refl _) _)).trans (hb3.mono (by simp))).setCell (p := ⟨wa.heap.size, 0, none⟩) (by simp) _).setCell (p := ⟨wa.heap.size, 1, none⟩) (by simp) _) (by simp; omega) e0, kbelow ((((Below.drew (Below.alloc (Below.refl wa.heap.size wa) (Nat.le_refl _) _)).trans (hb3.mono (by simp))).setCell (p := ⟨wa.heap.size, 0, none⟩) (by simp) _).setCell (p := ⟨wa.heap.size, 1, none⟩) (by simp) _) (by simp; omega) e1, kbelow ((((Below.drew (Below.alloc (Below.refl wa.heap.size wa) (Nat.le_refl _) _)).trans (hb3.mono (by simp))).setCell (p := ⟨wa.heap.size, 0, none⟩) (by simp) _).setCell (p := ⟨wa.heap.size, 1, none⟩) (by simp) _) (by simp; omega) e2, kbelow ((((Below.drew (Below.alloc (Below.refl wa.heap.size wa) (Nat.le_refl _) _)).trans (hb3.mono (by simp))).setCell (p := ⟨wa.heap.size, 0, none⟩) (by simp) _).setCell (p := ⟨wa.heap.size, 1, none⟩) (by simp) _) (by simp; omega) m0, kbelow ((((Below.drew (Below.alloc (Below.refl wa.heap.size wa) (Nat.le_refl _) _)).trans (hb3.mono (by simp))).setCell (p := ⟨wa.heap.size, 0, none⟩) (by simp) _).setCell (p := ⟨wa.heap.size, 1, none⟩) (by simp) _) (by simp; omega) m1, kbelow ((((Below.drew (Below.alloc (Below.refl wa.heap.size wa) (Nat.le_refl _) _)).trans (hb3.mono (by simp))).setCell (p := ⟨wa.heap.size, 0, none⟩) (by simp) _).setCell (p := ⟨wa.heap.size, 1, none⟩) (by simp) _) (by simp; omega) m2⟩)) ((go_at_call 37; refine (HW.out _).mono ?_; rintro e w3 ⟨rfl, hb3⟩; (try (have hx : Blk w3 wa.heap.size #[.string ⟨#[]⟩, .bool false] 54 := ((Blk.new wa _ _).drew).below hb3 (by simp); have x0 := hx.cell 0; have x1 := hx.cell 1; have x2 := hx.free 0; have x3 := hx.free 1; simp at x0 x1))))
  · have hk : Kept [] wa (w3.alloc (.cells #[.string s', .bool c'] 54)) := ((Kept.refl [] wa).drew.trans (Kept.of_below hb3 []) (by simp)).alloc _
    have hx4 := Blk.new w3 #[.string s', .bool c'] 54
    have hlx : w.heap.size < w3.heap.size := by have := hb3.size; simp at this; omega
    generalize World.alloc w3 _ = wb at *
    generalize w3.heap.size = x at *
    have hM := HMa.out.kept hk (by simp)
    have hC := HCa.out.kept hk (by simp)
    have hA := HAa.out.kept hk (by simp)
    have hZ := HZa.out.kept hk (by simp)
    have hK := HKa.out.trans hk (by simp)
    clear c0 c1 c2 c3 e0 e1 e2 m0 m1 m2 hk hl hb3
    have m0 : wb.cell? ⟨w.heap.size, b * 512 + s0 * 2, none⟩ = some (.string s) := (hM.cell _).trans m0'
    have m1 : wb.cell? ⟨w.heap.size, b * 512 + s0 * 2 + 1, none⟩ = some (.bool c) := (hM.cell _).trans m1'
    have f0 := hM.free (b * 512 + s0 * 2)
    have f1 := hM.free (b * 512 + s0 * 2 + 1)
    have x0 : wb.cell? ⟨x, 0, none⟩ = some (.string s') := hx4.cell 0
    have x1 : wb.cell? ⟨x, 1, none⟩ = some (.bool c') := hx4.cell 1
    have c1 : wb.cell? ⟨w.heap.size + 1, 1, none⟩ = some (.int .i64 (s0 : Int)) := hC.cell 1
    go_wp2
    go_region
    have hM2 := ((hM.set (b * 512 + s0 * 2) (.string s')).set (b * 512 + s0 * 2 + 1) (.bool c')).drew
    have hC2 := ((hC.other ⟨w.heap.size, b * 512 + s0 * 2, none⟩ (by simp) (.string s')).other ⟨w.heap.size, b * 512 + s0 * 2 + 1, none⟩ (by simp) (.bool c')).drew
    have hZ2 := ((hZ.other ⟨w.heap.size, b * 512 + s0 * 2, none⟩ (by simp; omega) (.string s')).other ⟨w.heap.size, b * 512 + s0 * 2 + 1, none⟩ (by simp; omega) (.bool c')).drew
    have hK2 : Kept [] w ((wb.setCell ⟨w.heap.size, b * 512 + s0 * 2, none⟩ (.string s')).setCell ⟨w.heap.size, b * 512 + s0 * 2 + 1, none⟩ (.bool c')).drew := ((hK.set _ (.inr (by simp)) _).set _ (.inr (by simp)) _).drew
    have hR2 := HR2.out
    clear HR2 m0 m1 f0 f1 x0 x1 c1 hM hC hA hZ hK hx4 hlx
    generalize World.drew _ = wd at *
    generalize Array.setIfInBounds (Array.setIfInBounds cs _ _) _ _ = cs2 at *
    have c0 : wd.cell? ⟨w.heap.size + 1, 0, none⟩ = some (.int .i64 3) := hC2.cell 0
    clear hC2
    have HR2 := Lib.hid hR2
    have HS2 := Lib.hid hR2.size
    have HO2 := Lib.hid hR2.one
    have HM2 := Lib.hid hM2
    have HZ2 := Lib.hid hZ2
    have HK2 := Lib.hid hK2
    clear hR2 hM2 hZ2 hK2
    go_wp2_with (first | (refine wpList_load_row rfl 59 _ rfl w.heap.size rfl 59 cs2 (0, 0) _ (by exact HM2.out) Try.underlying59 rfl (by rw [HS2.out]; kernel_rfl) ?_) | (refine wpList_store_rowTo rfl 59 _ _ rfl rfl (w.heap.size + 1 + 1 + 1) cs2 rfl rfl 59 Z (by exact HZ2.out) (by rw [HS2.out]; kernel_rfl) (by rw [HS2.out]; exact HZS.out) HO2.out ?_))
    refine bodyPost_ret (results_M2 rfl _ (.int .i64 k) rfl rfl (by exact HZ2.out.row cs2) HS2.out) rfl ?_
    exact ⟨cs2, rfl, HR2.out, (HK2.out.setRow _ (.inr (by omega)) _).below (Nat.le_refl _) (by simp)⟩
  · have hk : Kept [] wa ((w3.setCell ⟨wa.heap.size, 0, none⟩ (.string s')).setCell ⟨wa.heap.size, 1, none⟩ (.bool c')) := ((((Kept.refl [] wa).alloc _).drew.trans (Kept.of_below hb3 []) (by simp)).set _ (.inr (Nat.le_refl _)) _).set _ (.inr (Nat.le_refl _)) _
    have hx4 : Blk ((w3.setCell ⟨wa.heap.size, 0, none⟩ (.string s')).setCell ⟨wa.heap.size, 1, none⟩ (.bool c')) wa.heap.size #[.string s', .bool c'] 54 := (hx.set 0 (.string s')).set 1 (.bool c')
    have hlx : w.heap.size < wa.heap.size := by omega
    clear hx x0 x1 x2 x3
    generalize World.setCell (World.setCell _ _ _) _ _ = wb at *
    generalize wa.heap.size = x at *
    have hM := HMa.out.kept hk (by simp)
    have hC := HCa.out.kept hk (by simp)
    have hA := HAa.out.kept hk (by simp)
    have hZ := HZa.out.kept hk (by simp)
    have hK := HKa.out.trans hk (by simp)
    clear c0 c1 c2 c3 e0 e1 e2 m0 m1 m2 hk hl hb3
    have m0 : wb.cell? ⟨w.heap.size, b * 512 + s0 * 2, none⟩ = some (.string s) := (hM.cell _).trans m0'
    have m1 : wb.cell? ⟨w.heap.size, b * 512 + s0 * 2 + 1, none⟩ = some (.bool c) := (hM.cell _).trans m1'
    have f0 := hM.free (b * 512 + s0 * 2)
    have f1 := hM.free (b * 512 + s0 * 2 + 1)
    have x0 : wb.cell? ⟨x, 0, none⟩ = some (.string s') := hx4.cell 0
    have x1 : wb.cell? ⟨x, 1, none⟩ = some (.bool c') := hx4.cell 1
    have c1 : wb.cell? ⟨w.heap.size + 1, 1, none⟩ = some (.int .i64 (s0 : Int)) := hC.cell 1
    go_wp2
    go_region
    have hM2 := ((hM.set (b * 512 + s0 * 2) (.string s')).set (b * 512 + s0 * 2 + 1) (.bool c')).drew
    have hC2 := ((hC.other ⟨w.heap.size, b * 512 + s0 * 2, none⟩ (by simp) (.string s')).other ⟨w.heap.size, b * 512 + s0 * 2 + 1, none⟩ (by simp) (.bool c')).drew
    have hZ2 := ((hZ.other ⟨w.heap.size, b * 512 + s0 * 2, none⟩ (by simp; omega) (.string s')).other ⟨w.heap.size, b * 512 + s0 * 2 + 1, none⟩ (by simp; omega) (.bool c')).drew
    have hK2 : Kept [] w ((wb.setCell ⟨w.heap.size, b * 512 + s0 * 2, none⟩ (.string s')).setCell ⟨w.heap.size, b * 512 + s0 * 2 + 1, none⟩ (.bool c')).drew := ((hK.set _ (.inr (by simp)) _).set _ (.inr (by simp)) _).drew
    have hR2 := HR2.out
    clear HR2 m0 m1 f0 f1 x0 x1 c1 hM hC hA hZ hK hx4 hlx
    generalize World.drew _ = wd at *
    generalize Array.setIfInBounds (Array.setIfInBounds cs _ _) _ _ = cs2 at *
    have c0 : wd.cell? ⟨w.heap.size + 1, 0, none⟩ = some (.int .i64 3) := hC2.cell 0
    clear hC2
    have HR2 := Lib.hid hR2
    have HS2 := Lib.hid hR2.size
    have HO2 := Lib.hid hR2.one
    have HM2 := Lib.hid hM2
    have HZ2 := Lib.hid hZ2
    have HK2 := Lib.hid hK2
    clear hR2 hM2 hZ2 hK2
    go_wp2_with (first | (refine wpList_load_row rfl 59 _ rfl w.heap.size rfl 59 cs2 (0, 0) _ (by exact HM2.out) Try.underlying59 rfl (by rw [HS2.out]; kernel_rfl) ?_) | (refine wpList_store_rowTo rfl 59 _ _ rfl rfl (w.heap.size + 1 + 1 + 1) cs2 rfl rfl 59 Z (by exact HZ2.out) (by rw [HS2.out]; kernel_rfl) (by rw [HS2.out]; exact HZS.out) HO2.out ?_))
    refine bodyPost_ret (results_M2 rfl _ (.int .i64 k) rfl rfl (by exact HZ2.out.row cs2) HS2.out) rfl ?_
    exact ⟨cs2, rfl, HR2.out, (HK2.out.setRow _ (.inr (by omega)) _).below (Nat.le_refl _) (by simp)⟩
set_option maxRecDepth 100000 in
set_option maxHeartbeats 2000000 in
theorem rdo_read13 (cs : Array Value) (m : Mq) (hm : MRow cs m) (a b s0 : Nat) (ha : a < 2) (hab : a + b = 1) (hs0 : s0 < 256) (n an : Int) (body ab : ByteArray) (w : World) :
    Calls Try.prog 26 #[.agg cs, .int .i64 (a : Int), .agg #[.int .i64 3, .int .i64 (s0 : Int), .int .i64 n, .string body], .agg #[.int .i64 an, .string ab, .int .i64 13]] w (RDo w m (enK (m.q b s0) (m.br s0))) := by
  obtain ⟨v0, hv0⟩ : ∃ v0, v0 = m.q b s0 := ⟨_, rfl⟩
  obtain ⟨k, hk0⟩ : ∃ k, k = enK (m.q b s0) (m.br s0) := ⟨_, rfl⟩
  have HW : Hid (∀ w, Calls Try.prog 37 #[qV (m.q b s0), .bool (m.br s0), .agg #[.int .i64 3, .int .i64 (s0 : Int), .int .i64 n, .string body], .agg #[.int .i64 an, .string ab, .int .i64 13]] w (QSays w v0 k)) := Lib.hid (fun w => by rw [hv0, hk0]; exact rread_eof (m.q b s0) (m.br s0) 3 (s0 : Int) n body ab an w)
  have e : RDo w m k = RDo w (m.put b s0 v0) k := by rw [hv0, Mq.put_same]
  rw [← hk0, e]
  clear e hk0 hv0
  unfold QSays qV at HW
  obtain ⟨Z, hZr, hZz⟩ := mZ_ex
  have HZS := Lib.hid hZr.size
  have HZZ := Lib.hid hZz
  clear hZr hZz
  have HSZ := Lib.hid hm.size
  have HONE := Lib.hid hm.one
  have HM := Lib.hid hm
  have a0 : decide ((a : Int) < 0) = false := by rw [decide_eq_false_iff_not]; omega
  have a1 : decide ((1 : Int) < (a : Int)) = false := by rw [decide_eq_false_iff_not]; omega
  have s1 : decide ((s0 : Int) < 0) = false := by rw [decide_eq_false_iff_not]; omega
  have s2 : decide ((255 : Int) < (s0 : Int)) = false := by rw [decide_eq_false_iff_not]; omega
  clear hm
  have hb2 : b < 2 := by omega
  have hwr : IntKind.i64.wrap (1 - (a : Int)) = (b : Int) := by rw [IntWalk.i64_in _ (by omega)]; omega
  clear hab
  have m0' := HM.out.str hb2 hs0
  have m1' := HM.out.clo hb2 hs0
  have m2' := HM.out.bro hs0
  have ia : (b : Int) < 2 := by omega
  have is : (s0 : Int) < 256 := by omega
  generalize m.br s0 = br at *
  generalize m.q b s0 = v at *
  generalize v0 = v' at *
  have HR2 : Hid (MRow ((cs.setIfInBounds (b * 512 + s0 * 2) (.string v'.1)).setIfInBounds (b * 512 + s0 * 2 + 1) (.bool v'.2)) (m.put b s0 v')) := Lib.hid (HM.out.setq hb2 hs0 v')
  clear HM
  generalize v.1 = s at *
  generalize v.2 = c at *
  generalize v'.1 = s' at *
  generalize v'.2 = c' at *
  go_enter Try.func26, Try.ntmps26
  go_upto_region 1 with (first | (refine Go.Great.wpList_allocTo rfl (some 8) rfl (.pointer (some ⟨w.heap.size + 1 + 1 + 1, 0, none⟩)) (.cells Z 59) (run_allocN _ (by simp) rfl HZZ.out) ?_))
  go_wp2
  generalize hwa : World.alloc (World.alloc (World.alloc (World.alloc w _) _) _) _ = wa
  have hM : Blk wa w.heap.size cs 59 := by rw [← hwa]; exact (((Blk.new w _ _).alloc _).alloc _).alloc _
  have hC : Blk wa (w.heap.size + 1) #[.int .i64 3, .int .i64 (s0 : Int), .int .i64 n, .string body] 36 := by rw [← hwa]; exact ((Blk.new' (by simp)).alloc _).alloc _
  have hA : Blk wa (w.heap.size + 1 + 1) #[.int .i64 an, .string ab, .int .i64 13] 38 := by rw [← hwa]; exact (Blk.new' (by simp)).alloc _
  have hZ : Blk wa (w.heap.size + 1 + 1 + 1) Z 59 := by rw [← hwa]; exact Blk.new' (by simp)
  have hK : Kept [] w wa := by rw [← hwa]; exact (((Kept.refl [] w).alloc _).alloc _).alloc _ |>.alloc _
  have hsz : wa.heap.size = w.heap.size + 1 + 1 + 1 + 1 := by rw [← hwa]; simp
  clear hwa
  have m0 : wa.cell? ⟨w.heap.size, b * 512 + s0 * 2, none⟩ = some (.string s) := (hM.cell _).trans m0'
  have m1 : wa.cell? ⟨w.heap.size, b * 512 + s0 * 2 + 1, none⟩ = some (.bool c) := (hM.cell _).trans m1'
  have m2 : wa.cell? ⟨w.heap.size, 1024 + s0, none⟩ = some (.bool br) := (hM.cell _).trans m2'
  have c0 : wa.cell? ⟨w.heap.size + 1, 0, none⟩ = some (.int .i64 3) := hC.cell 0
  have c1 : wa.cell? ⟨w.heap.size + 1, 1, none⟩ = some (.int .i64 (s0 : Int)) := hC.cell 1
  have c2 : wa.cell? ⟨w.heap.size + 1, 2, none⟩ = some (.int .i64 n) := hC.cell 2
  have c3 : wa.cell? ⟨w.heap.size + 1, 3, none⟩ = some (.string body) := hC.cell 3
  have e0 : wa.cell? ⟨w.heap.size + 1 + 1, 0, none⟩ = some (.int .i64 an) := hA.cell 0
  have e1 : wa.cell? ⟨w.heap.size + 1 + 1, 1, none⟩ = some (.string ab) := hA.cell 1
  have e2 : wa.cell? ⟨w.heap.size + 1 + 1, 2, none⟩ = some (.int .i64 13) := hA.cell 2
  have HMa := Lib.hid hM
  have HCa := Lib.hid hC
  have HAa := Lib.hid hA
  have HZa := Lib.hid hZ
  have HKa := Lib.hid hK
  clear hM hC hA hZ hK
  have hl : w.heap.size + 1 + 1 + 1 < wa.heap.size := by omega
  clear hsz
  go_region_held3 (fun w' => w'.cell? ⟨w.heap.size + 1, 0, none⟩ = some (.int .i64 3) ∧ w'.cell? ⟨w.heap.size + 1, 1, none⟩ = some (.int .i64 (s0 : Int)) ∧ w'.cell? ⟨w.heap.size + 1, 2, none⟩ = some (.int .i64 n) ∧ w'.cell? ⟨w.heap.size + 1, 3, none⟩ = some (.string body) ∧ w'.cell? ⟨w.heap.size + 1 + 1, 0, none⟩ = some (.int .i64 an) ∧ w'.cell? ⟨w.heap.size + 1 + 1, 1, none⟩ = some (.string ab) ∧ w'.cell? ⟨w.heap.size + 1 + 1, 2, none⟩ = some (.int .i64 13) ∧ w'.cell? ⟨w.heap.size, b * 512 + s0 * 2, none⟩ = some (.string s) ∧ w'.cell? ⟨w.heap.size, b * 512 + s0 * 2 + 1, none⟩ = some (.bool c) ∧ w'.cell? ⟨w.heap.size, 1024 + s0, none⟩ = some (.bool br)) (first | exact ⟨c0, c1, c2, c3, e0, e1, e2, m0, m1, m2⟩ | (exact ⟨kbelow hb3 (by simp; omega) c0, kbelow hb3 (by simp; omega) c1, kbelow hb3 (by simp; omega) c2, kbelow hb3 (by simp; omega) c3, kbelow hb3 (by simp; omega) e0, kbelow hb3 (by simp; omega) e1, kbelow hb3 (by simp; omega) e2, kbelow hb3 (by simp; omega) m0, kbelow hb3 (by simp; omega) m1, kbelow hb3 (by simp; omega) m2⟩) | (exact ⟨kbelow (Below.alloc hb3 hb3.size _) (by simp; omega) c0, kbelow (Below.alloc hb3 hb3.size _) (by simp; omega) c1, kbelow (Below.alloc hb3 hb3.size _) (by simp; omega) c2, kbelow (Below.alloc hb3 hb3.size _) (by simp; omega) c3, kbelow (Below.alloc hb3 hb3.size _) (by simp; omega) e0, kbelow (Below.alloc hb3 hb3.size _) (by simp; omega) e1, kbelow (Below.alloc hb3 hb3.size _) (by simp; omega) e2, kbelow (Below.alloc hb3 hb3.size _) (by simp; omega) m0, kbelow (Below.alloc hb3 hb3.size _) (by simp; omega) m1, kbelow (Below.alloc hb3 hb3.size _) (by simp; omega) m2⟩) | (exact ⟨kbelow (Below.drew (Below.alloc (Below.refl wa.heap.size wa) (Nat.le_refl _) _)) (by simp; omega) c0, kbelow (Below.drew (Below.alloc (Below.refl wa.heap.size wa) (Nat.le_refl _) _)) (by simp; omega) c1, kbelow (Below.drew (Below.alloc (Below.refl wa.heap.size wa) (Nat.le_refl _) _)) (by simp; omega) c2, kbelow (Below.drew (Below.alloc (Below.refl wa.heap.size wa) (Nat.le_refl _) _)) (by simp; omega) c3, kbelow (Below.drew (Below.alloc (Below.refl wa.heap.size wa) (Nat.le_refl _) _)) (by simp; omega) e0, kbelow (Below.drew (Below.alloc (Below.refl wa.heap.size wa) (Nat.le_refl _) _)) (by simp; omega) e1, kbelow (Below.drew (Below.alloc (Below.refl wa.heap.size wa) (Nat.le_refl _) _)) (by simp; omega) e2, kbelow (Below.drew (Below.alloc (Below.refl wa.heap.size wa) (Nat.le_refl _) _)) (by simp; omega) m0, kbelow (Below.drew (Below.alloc (Below.refl wa.heap.size wa) (Nat.le_refl _) _)) (by simp; omega) m1, kbelow (Below.drew (Below.alloc (Below.refl wa.heap.size wa) (Nat.le_refl _) _)) (by simp; omega) m2⟩) | (exact ⟨kbelow ((Below.drew (Below.alloc (Below.refl wa.heap.size wa) (Nat.le_refl _) _)).trans (hb3.mono (by simp))) (by simp; omega) c0, kbelow ((Below.drew (Below.alloc (Below.refl wa.heap.size wa) (Nat.le_refl _) _)).trans (hb3.mono (by simp))) (by simp; omega) c1, kbelow ((Below.drew (Below.alloc (Below.refl wa.heap.size wa) (Nat.le_refl _) _)).trans (hb3.mono (by simp))) (by simp; omega) c2, kbelow ((Below.drew (Below.alloc (Below.refl wa.heap.size wa) (Nat.le_refl _) _)).trans (hb3.mono (by simp))) (by simp; omega) c3, kbelow ((Below.drew (Below.alloc (Below.refl wa.heap.size wa) (Nat.le_refl _) _)).trans (hb3.mono (by simp))) (by simp; omega) e0, kbelow ((Below.drew (Below.alloc (Below.refl wa.heap.size wa) (Nat.le_refl _) _)).trans (hb3.mono (by simp))) (by simp; omega) e1, kbelow ((Below.drew (Below.alloc (Below.refl wa.heap.size wa) (Nat.le_refl _) _)).trans (hb3.mono (by simp))) (by simp; omega) e2, kbelow ((Below.drew (Below.alloc (Below.refl wa.heap.size wa) (Nat.le_refl _) _)).trans (hb3.mono (by simp))) (by simp; omega) m0, kbelow ((Below.drew (Below.alloc (Below.refl wa.heap.size wa) (Nat.le_refl _) _)).trans (hb3.mono (by simp))) (by simp; omega) m1, kbelow ((Below.drew (Below.alloc (Below.refl wa.heap.size wa) (Nat.le_refl _) _)).trans (hb3.mono (by simp))) (by simp; omega) m2⟩) | (exact ⟨kbelow ((((Below.drew (Below.alloc (Below.refl wa.heap.size wa) (Nat.le_refl _) _)).trans (hb3.mono (by simp))).setCell (p := ⟨wa.heap.size, 0, none⟩) (by simp) _).setCell (p := ⟨wa.heap.size, 1, none⟩) (by simp) _) (by simp; omega) c0, kbelow ((((Below.drew (Below.alloc (Below.refl wa.heap.size wa) (Nat.le_refl _) _)).trans (hb3.mono (by simp))).setCell (p := ⟨wa.heap.size, 0, none⟩) (by simp) _).setCell (p := ⟨wa.heap.size, 1, none⟩) (by simp) _) (by simp; omega) c1, kbelow ((((Below.drew (Below.alloc (Below.refl wa.heap.size wa) (Nat.le_refl _) _)).trans (hb3.mono (by simp))).setCell (p := ⟨wa.heap.size, 0, none⟩) (by simp) _).setCell (p := ⟨wa.heap.size, 1, none⟩) (by simp) _) (by simp; omega) c2, kbelow ((((Below.drew (Below.alloc (Below.refl wa.heap.size wa) (Nat.le_refl _) _)).trans (hb3.mono (by simp))).setCell (p := ⟨wa.heap.size, 0, none⟩) (by simp) _).setCell (p := ⟨wa.heap.size, 1, none⟩) (by simp) _) (by simp; omega) c3, kbelow ((((Below.drew (Below.alloc (Below.refl wa.heap.size wa) (Nat.le_refl _) _)).trans (hb3.mono (by simp))).setCell (p := ⟨wa.heap.size, 0, none⟩) (by simp) _).setCell (p := ⟨wa.heap.size, 1, none⟩) (by simp) _) (by simp; omega) e0, kbelow ((((Below.drew (Below.alloc (Below.refl wa.heap.size wa) (Nat.le_refl _) _)).trans (hb3.mono (by simp))).setCell (p := ⟨wa.heap.size, 0, none⟩) (by simp) _).setCell (p := ⟨wa.heap.size, 1, none⟩) (by simp) _) (by simp; omega) e1, kbelow ((((Below.drew (Below.alloc (Below.refl wa.heap.size wa) (Nat.le_refl _) _)).trans (hb3.mono (by simp))).setCell (p := ⟨wa.heap.size, 0, none⟩) (by simp) _).setCell (p := ⟨wa.heap.size, 1, none⟩) (by simp) _) (by simp; omega) e2, kbelow ((((Below.drew (Below.alloc (Below.refl wa.heap.size wa) (Nat.le_refl _) _)).trans (hb3.mono (by simp))).setCell (p := ⟨wa.heap.size, 0, none⟩) (by simp) _).setCell (p := ⟨wa.heap.size, 1, none⟩) (by simp) _) (by simp; omega) m0, kbelow ((((Below.drew (Below.alloc (Below.refl wa.heap.size wa) (Nat.le_refl _) _)).trans (hb3.mono (by simp))).setCell (p := ⟨wa.heap.size, 0, none⟩) (by simp) _).setCell (p := ⟨wa.heap.size, 1, none⟩) (by simp) _) (by simp; omega) m1, kbelow ((((Below.drew (Below.alloc (Below.refl wa.heap.size wa) (Nat.le_refl _) _)).trans (hb3.mono (by simp))).setCell (p := ⟨wa.heap.size, 0, none⟩) (by simp) _).setCell (p := ⟨wa.heap.size, 1, none⟩) (by simp) _) (by simp; omega) m2⟩)) ((go_at_call 37; refine (HW.out _).mono ?_; rintro e w3 ⟨rfl, hb3⟩; (try (have hx : Blk w3 wa.heap.size #[.string ⟨#[]⟩, .bool false] 54 := ((Blk.new wa _ _).drew).below hb3 (by simp); have x0 := hx.cell 0; have x1 := hx.cell 1; have x2 := hx.free 0; have x3 := hx.free 1; simp at x0 x1))))
  · have hk : Kept [] wa (w3.alloc (.cells #[.string s', .bool c'] 54)) := ((Kept.refl [] wa).drew.trans (Kept.of_below hb3 []) (by simp)).alloc _
    have hx4 := Blk.new w3 #[.string s', .bool c'] 54
    have hlx : w.heap.size < w3.heap.size := by have := hb3.size; simp at this; omega
    generalize World.alloc w3 _ = wb at *
    generalize w3.heap.size = x at *
    have hM := HMa.out.kept hk (by simp)
    have hC := HCa.out.kept hk (by simp)
    have hA := HAa.out.kept hk (by simp)
    have hZ := HZa.out.kept hk (by simp)
    have hK := HKa.out.trans hk (by simp)
    clear c0 c1 c2 c3 e0 e1 e2 m0 m1 m2 hk hl hb3
    have m0 : wb.cell? ⟨w.heap.size, b * 512 + s0 * 2, none⟩ = some (.string s) := (hM.cell _).trans m0'
    have m1 : wb.cell? ⟨w.heap.size, b * 512 + s0 * 2 + 1, none⟩ = some (.bool c) := (hM.cell _).trans m1'
    have f0 := hM.free (b * 512 + s0 * 2)
    have f1 := hM.free (b * 512 + s0 * 2 + 1)
    have x0 : wb.cell? ⟨x, 0, none⟩ = some (.string s') := hx4.cell 0
    have x1 : wb.cell? ⟨x, 1, none⟩ = some (.bool c') := hx4.cell 1
    have c1 : wb.cell? ⟨w.heap.size + 1, 1, none⟩ = some (.int .i64 (s0 : Int)) := hC.cell 1
    go_wp2
    go_region
    have hM2 := ((hM.set (b * 512 + s0 * 2) (.string s')).set (b * 512 + s0 * 2 + 1) (.bool c')).drew
    have hC2 := ((hC.other ⟨w.heap.size, b * 512 + s0 * 2, none⟩ (by simp) (.string s')).other ⟨w.heap.size, b * 512 + s0 * 2 + 1, none⟩ (by simp) (.bool c')).drew
    have hZ2 := ((hZ.other ⟨w.heap.size, b * 512 + s0 * 2, none⟩ (by simp; omega) (.string s')).other ⟨w.heap.size, b * 512 + s0 * 2 + 1, none⟩ (by simp; omega) (.bool c')).drew
    have hK2 : Kept [] w ((wb.setCell ⟨w.heap.size, b * 512 + s0 * 2, none⟩ (.string s')).setCell ⟨w.heap.size, b * 512 + s0 * 2 + 1, none⟩ (.bool c')).drew := ((hK.set _ (.inr (by simp)) _).set _ (.inr (by simp)) _).drew
    have hR2 := HR2.out
    clear HR2 m0 m1 f0 f1 x0 x1 c1 hM hC hA hZ hK hx4 hlx
    generalize World.drew _ = wd at *
    generalize Array.setIfInBounds (Array.setIfInBounds cs _ _) _ _ = cs2 at *
    have c0 : wd.cell? ⟨w.heap.size + 1, 0, none⟩ = some (.int .i64 3) := hC2.cell 0
    clear hC2
    have HR2 := Lib.hid hR2
    have HS2 := Lib.hid hR2.size
    have HO2 := Lib.hid hR2.one
    have HM2 := Lib.hid hM2
    have HZ2 := Lib.hid hZ2
    have HK2 := Lib.hid hK2
    clear hR2 hM2 hZ2 hK2
    go_wp2_with (first | (refine wpList_load_row rfl 59 _ rfl w.heap.size rfl 59 cs2 (0, 0) _ (by exact HM2.out) Try.underlying59 rfl (by rw [HS2.out]; kernel_rfl) ?_) | (refine wpList_store_rowTo rfl 59 _ _ rfl rfl (w.heap.size + 1 + 1 + 1) cs2 rfl rfl 59 Z (by exact HZ2.out) (by rw [HS2.out]; kernel_rfl) (by rw [HS2.out]; exact HZS.out) HO2.out ?_))
    refine bodyPost_ret (results_M2 rfl _ (.int .i64 k) rfl rfl (by exact HZ2.out.row cs2) HS2.out) rfl ?_
    exact ⟨cs2, rfl, HR2.out, (HK2.out.setRow _ (.inr (by omega)) _).below (Nat.le_refl _) (by simp)⟩
  · have hk : Kept [] wa ((w3.setCell ⟨wa.heap.size, 0, none⟩ (.string s')).setCell ⟨wa.heap.size, 1, none⟩ (.bool c')) := ((((Kept.refl [] wa).alloc _).drew.trans (Kept.of_below hb3 []) (by simp)).set _ (.inr (Nat.le_refl _)) _).set _ (.inr (Nat.le_refl _)) _
    have hx4 : Blk ((w3.setCell ⟨wa.heap.size, 0, none⟩ (.string s')).setCell ⟨wa.heap.size, 1, none⟩ (.bool c')) wa.heap.size #[.string s', .bool c'] 54 := (hx.set 0 (.string s')).set 1 (.bool c')
    have hlx : w.heap.size < wa.heap.size := by omega
    clear hx x0 x1 x2 x3
    generalize World.setCell (World.setCell _ _ _) _ _ = wb at *
    generalize wa.heap.size = x at *
    have hM := HMa.out.kept hk (by simp)
    have hC := HCa.out.kept hk (by simp)
    have hA := HAa.out.kept hk (by simp)
    have hZ := HZa.out.kept hk (by simp)
    have hK := HKa.out.trans hk (by simp)
    clear c0 c1 c2 c3 e0 e1 e2 m0 m1 m2 hk hl hb3
    have m0 : wb.cell? ⟨w.heap.size, b * 512 + s0 * 2, none⟩ = some (.string s) := (hM.cell _).trans m0'
    have m1 : wb.cell? ⟨w.heap.size, b * 512 + s0 * 2 + 1, none⟩ = some (.bool c) := (hM.cell _).trans m1'
    have f0 := hM.free (b * 512 + s0 * 2)
    have f1 := hM.free (b * 512 + s0 * 2 + 1)
    have x0 : wb.cell? ⟨x, 0, none⟩ = some (.string s') := hx4.cell 0
    have x1 : wb.cell? ⟨x, 1, none⟩ = some (.bool c') := hx4.cell 1
    have c1 : wb.cell? ⟨w.heap.size + 1, 1, none⟩ = some (.int .i64 (s0 : Int)) := hC.cell 1
    go_wp2
    go_region
    have hM2 := ((hM.set (b * 512 + s0 * 2) (.string s')).set (b * 512 + s0 * 2 + 1) (.bool c')).drew
    have hC2 := ((hC.other ⟨w.heap.size, b * 512 + s0 * 2, none⟩ (by simp) (.string s')).other ⟨w.heap.size, b * 512 + s0 * 2 + 1, none⟩ (by simp) (.bool c')).drew
    have hZ2 := ((hZ.other ⟨w.heap.size, b * 512 + s0 * 2, none⟩ (by simp; omega) (.string s')).other ⟨w.heap.size, b * 512 + s0 * 2 + 1, none⟩ (by simp; omega) (.bool c')).drew
    have hK2 : Kept [] w ((wb.setCell ⟨w.heap.size, b * 512 + s0 * 2, none⟩ (.string s')).setCell ⟨w.heap.size, b * 512 + s0 * 2 + 1, none⟩ (.bool c')).drew := ((hK.set _ (.inr (by simp)) _).set _ (.inr (by simp)) _).drew
    have hR2 := HR2.out
    clear HR2 m0 m1 f0 f1 x0 x1 c1 hM hC hA hZ hK hx4 hlx
    generalize World.drew _ = wd at *
    generalize Array.setIfInBounds (Array.setIfInBounds cs _ _) _ _ = cs2 at *
    have c0 : wd.cell? ⟨w.heap.size + 1, 0, none⟩ = some (.int .i64 3) := hC2.cell 0
    clear hC2
    have HR2 := Lib.hid hR2
    have HS2 := Lib.hid hR2.size
    have HO2 := Lib.hid hR2.one
    have HM2 := Lib.hid hM2
    have HZ2 := Lib.hid hZ2
    have HK2 := Lib.hid hK2
    clear hR2 hM2 hZ2 hK2
    go_wp2_with (first | (refine wpList_load_row rfl 59 _ rfl w.heap.size rfl 59 cs2 (0, 0) _ (by exact HM2.out) Try.underlying59 rfl (by rw [HS2.out]; kernel_rfl) ?_) | (refine wpList_store_rowTo rfl 59 _ _ rfl rfl (w.heap.size + 1 + 1 + 1) cs2 rfl rfl 59 Z (by exact HZ2.out) (by rw [HS2.out]; kernel_rfl) (by rw [HS2.out]; exact HZS.out) HO2.out ?_))
    refine bodyPost_ret (results_M2 rfl _ (.int .i64 k) rfl rfl (by exact HZ2.out.row cs2) HS2.out) rfl ?_
    exact ⟨cs2, rfl, HR2.out, (HK2.out.setRow _ (.inr (by omega)) _).below (Nat.le_refl _) (by simp)⟩
set_option maxRecDepth 100000 in
set_option maxHeartbeats 1000000 in
theorem rdo_abort (cs : Array Value) (m : Mq) (hm : MRow cs m) (a s0 : Nat) (ha : a < 2) (hs0 : s0 < 256) (n an : Int) (body ab : ByteArray) (w : World) :
    Calls Try.prog 26 #[.agg cs, .int .i64 (a : Int), .agg #[.int .i64 5, .int .i64 (s0 : Int), .int .i64 n, .string body], .agg #[.int .i64 an, .string ab, .int .i64 0]] w (RDo w ⟨m.q, updB m.br s0⟩ 0) := by
  obtain ⟨Z, hZr, hZz⟩ := mZ_ex
  have HZS := Lib.hid hZr.size
  have HZZ := Lib.hid hZz
  clear hZr hZz
  have HSZ := Lib.hid hm.size
  have HONE := Lib.hid hm.one
  have HM := Lib.hid hm
  have a0 : decide ((a : Int) < 0) = false := by rw [decide_eq_false_iff_not]; omega
  have a1 : decide ((1 : Int) < (a : Int)) = false := by rw [decide_eq_false_iff_not]; omega
  have s1 : decide ((s0 : Int) < 0) = false := by rw [decide_eq_false_iff_not]; omega
  have s2 : decide ((255 : Int) < (s0 : Int)) = false := by rw [decide_eq_false_iff_not]; omega
  clear hm
  have ia : (a : Int) < 2 := by omega
  have is : (s0 : Int) < 256 := by omega
  have hb := HM.out.bro hs0
  have HR2 := Lib.hid (HM.out.setb hs0)
  have HS2 := Lib.hid HR2.out.size
  have HO2 := Lib.hid HR2.out.one
  go_enter Try.func26, Try.ntmps26
  go_upto_region 1 with (first | (refine Go.Great.wpList_allocTo rfl (some 8) rfl (.pointer (some ⟨w.heap.size + 1 + 1 + 1, 0, none⟩)) (.cells Z 59) (run_allocN _ (by simp) rfl HZZ.out) ?_))
  go_upto_region 9 with (fail)
  go_wp2_with (first | (refine wpList_load_row rfl 59 _ rfl w.heap.size rfl 59 (cs.setIfInBounds (1024 + s0) (.bool true)) (0, 0) _ (by exact ((((Blk.new w _ _).alloc _).alloc _).alloc _)) Try.underlying59 rfl (by rw [HS2.out]; kernel_rfl) ?_) | (refine wpList_store_rowTo rfl 59 _ _ rfl rfl (w.heap.size + 1 + 1 + 1) (cs.setIfInBounds (1024 + s0) (.bool true)) rfl rfl 59 Z (by exact Blk.new' (by simp)) (by rw [HS2.out]; kernel_rfl) (by rw [HS2.out]; exact HZS.out) HO2.out ?_))
  refine bodyPost_ret (results_M2 rfl _ (.int .i64 0) rfl rfl (by exact (Blk.new' (by simp)).row _) HS2.out) rfl ?_
  generalize cs.setIfInBounds _ _ = cs2 at *
  exact ⟨cs2, rfl, HR2.out, ((Kept.refl [] w).alloc _ |>.alloc _ |>.alloc _ |>.alloc _ |>.setRow _ (.inr (by omega)) _).below (Nat.le_refl _) (by simp)⟩
end Go.Proofs.Ytpojophpbggkcaa
