/- lightshipref28: Fin -/
import Derived.Test.YtdggnhgflfaffaaInbRef
namespace Go.Proofs.Ytdggnhgflfaffaa
set_option maxRecDepth 20000
open Go.ChangeShapes Go.WideShapes Go.ChangeAt Go.RowKit
set_option linter.unusedVariables false
set_option linter.unusedSimpArgs false
set_option maxHeartbeats 4000000 in
theorem rfin (C : Nat → Int) (win que k : Nat) (x : Ist) (p : Option Addr) (cap : Nat) (q : Option Addr) (cap2 block : Nat) (hx : block < 4294967296) (hf : Fine x win que k) (hxs : ∀ p ∈ x.L, p.1 < 4294967296) (hwin : C 3 = (win : Int)) (w : World) (h : RefAt w x p cap q cap2) :
    Calls Try.prog 33 #[.agg (rC C win x p cap q cap2), .int .u32 (block : Int)] w (RPost w C win (finX x win block) p q (fun o => .tuple #[o, .int .i64 (finK x win block)])) := by
  have hbase : x.base < 4294967296 := by have := hf.base; have := hf.small; omega
  have HA := Lib.hid (fun w => refAhead (x.base : Int) (block : Int) (by omega) (by omega) (by omega) (by omega) w)
  have HL := Lib.hid (fun (y : Nat) (hy : y < 4294967296) w => refLess (y : Int) (block : Int) (by omega) (by omega) (by omega) (by omega) w)
  have hL : x.L.length ≤ 64 := hf.len
  have hfin := hf.fin
  have hw2 := hf.w2
  clear hf
  have hX2 : rC C win { x with fin := block, known := true } p cap q cap2 = ((rC C win x p cap q cap2).setIfInBounds 17 (.bool true)).setIfInBounds 16 (.int .u32 (block : Int)) := rfl
  obtain ⟨c0, c1, c2, c3, c4, c5, c6, c7, c8, c9, c10, c11, c12, c13, c14, c15, c16, c17⟩ := rGet C win x p cap q cap2
  rw [hwin] at c3
  have HSZ : Hid ((rC C win x p cap q cap2).size = 18) := Lib.hid rfl
  have HONE := Lib.hid (rC_one C win x p cap q cap2)
  have H := Lib.hid h
  generalize hcv : rC C win x p cap q cap2 = cv at *
  have HCV := Lib.hid hcv
  clear hcv h
  have HX : Hid (finX x win block = if finK x win block = 0 then { x with fin := block, known := true } else x) := Lib.hid rfl
  have HKK : Hid (finK x win block = if ahead (x.base : Int) (block : Int) < 0 then 2 else if (win : Int) < ahead (x.base : Int) (block : Int) then 2 else if aheadB x block = false then 2 else if x.known = true ∧ x.fin ≠ block then 16 else 0) := Lib.hid rfl
  have HAB : Hid (aheadB x block = decide (∀ p ∈ x.L, lessB (p.1 : Int) (block : Int) = true)) := Lib.hid rfl
  have HX2 := Lib.hid hX2
  clear hX2
  have hab : -2147483648 ≤ ahead (x.base : Int) (block : Int) ∧ ahead (x.base : Int) (block : Int) < 2147483648 := by unfold ahead; omega
  generalize finX x win block = sx at *
  generalize finK x win block = sk at *
  generalize ahead (x.base : Int) (block : Int) = d at *
  generalize aheadB x block = ab at *
  go_enter Try.func33, Try.ntmps33
  go_wp2_with fail
  generalize hwa : (w.alloc _).alloc _ = wa
  have hba : Below w.heap.size w wa := by rw [← hwa]; exact below2 _ _ _
  have hsza : wa.heap.size = w.heap.size + 2 := by rw [← hwa]; simp
  have hB0 : Blk wa w.heap.size cv 38 := by
    rw [← hwa]
    exact (Blk.new _ _ _).alloc _
  have HB : Hid (Blk wa w.heap.size cv 38) := Lib.hid hB0
  have HE : Hid (Blk wa (w.heap.size + 1) rZ 38) := Lib.hid (by rw [← hwa]; exact Blk.new' (by simp))
  have HBA : Hid (Below w.heap.size w wa) := Lib.hid hba
  clear hwa hba
  have d3 := (hB0.cell 3).trans c3
  have d11 := (hB0.cell 11).trans c11
  have d13 := (hB0.cell 13).trans c13
  have d16 := (hB0.cell 16).trans c16
  have d17 := (hB0.cell 17).trans c17
  have hlt := hB0.lt
  have fd := hB0.free
  clear hB0 c0 c1 c2 c3 c4 c5 c6 c7 c8 c9 c10 c11 c12 c13 c14 c15 c16 c17
  refine (HA.out _).mono ?_
  rintro e w' ⟨rfl, rfl⟩
  clear HA
  by_cases hd : d < 0 ∨ (win : Int) < d
  · obtain rfl : sk = 2 := by rw [HKK.out]; rcases hd with h | h; rw [if_pos h]; split; rfl; rfl
    obtain rfl : x = sx := by rw [HX.out]; rfl
    rcases hd with hd | hd
    · go_wp2_with (first | (refine wpList_load_row rfl 38 _ rfl w.heap.size rfl 38 cv (0, 0) _ (by exact HB.out) Try.underlying38 rfl (by rw [HSZ.out]; kernel_rfl) ?_) | (refine wpList_store_rowTo rfl 38 _ _ rfl rfl (w.heap.size + 1) cv rfl rfl 38 rZ (by exact HE.out) (by rw [HSZ.out]; kernel_rfl) (by rw [HSZ.out]; exact rfl) HONE.out ?_))
      refine bodyPost_ret (results_I2 rfl _ (.int .i64 2) rfl rfl (HE.out.row cv) HSZ.out) rfl ?_
      rw [← HCV.out]
      exact rpost_same H.out HBA.out (fun o => .tuple #[o, .int .i64 2]) _ (Nat.le_succ _) _
    · by_cases hd0 : d < 0
      · go_wp2_with (first | (refine wpList_load_row rfl 38 _ rfl w.heap.size rfl 38 cv (0, 0) _ (by exact HB.out) Try.underlying38 rfl (by rw [HSZ.out]; kernel_rfl) ?_) | (refine wpList_store_rowTo rfl 38 _ _ rfl rfl (w.heap.size + 1) cv rfl rfl 38 rZ (by exact HE.out) (by rw [HSZ.out]; kernel_rfl) (by rw [HSZ.out]; exact rfl) HONE.out ?_))
        refine bodyPost_ret (results_I2 rfl _ (.int .i64 2) rfl rfl (HE.out.row cv) HSZ.out) rfl ?_
        rw [← HCV.out]
        exact rpost_same H.out HBA.out (fun o => .tuple #[o, .int .i64 2]) _ (Nat.le_succ _) _
      · go_wp2_with (first | (refine wpList_load_row rfl 38 _ rfl w.heap.size rfl 38 cv (0, 0) _ (by exact HB.out) Try.underlying38 rfl (by rw [HSZ.out]; kernel_rfl) ?_) | (refine wpList_store_rowTo rfl 38 _ _ rfl rfl (w.heap.size + 1) cv rfl rfl 38 rZ (by exact HE.out) (by rw [HSZ.out]; kernel_rfl) (by rw [HSZ.out]; exact rfl) HONE.out ?_))
        refine bodyPost_ret (results_I2 rfl _ (.int .i64 2) rfl rfl (HE.out.row cv) HSZ.out) rfl ?_
        rw [← HCV.out]
        exact rpost_same H.out HBA.out (fun o => .tuple #[o, .int .i64 2]) _ (Nat.le_succ _) _
  · have hd1 : ¬ d < 0 := fun h => hd (.inl h)
    have hd2 : ¬ (win : Int) < d := fun h => hd (.inr h)
    replace HKK : Hid (sk = if ab = false then 2 else if x.known = true ∧ x.fin ≠ block then 16 else 0) := Lib.hid (by rw [HKK.out, if_neg hd1, if_neg hd2])
    clear hd
    obtain ⟨n, hnl⟩ : ∃ n, n = x.L.length := ⟨_, rfl⟩
    have HN := Lib.hid hnl
    have HS : Hid (Src wa p n cap 2 (xl x.L)) := Lib.hid (by rw [hnl]; exact (H.out.ro.below HBA.out).src)
    rw [← hnl] at d13 hL
    have HXS := Lib.hid hxs
    clear hnl hxs
    go_wp2_with fail
    go_loopw [7] (fun iv wr => ∃ i : Nat, iv = .int .i64 (i : Int) ∧ i ≤ n ∧ (∀ j, (hj : j < x.L.length) → j < i → lessB ((x.L[j]'hj).1 : Int) (block : Int) = true) ∧ wr = wa) (fun iv _ => n - (intOf iv).toNat)
    case atStart => exact ⟨0, rfl, Nat.zero_le _, (fun j _ h => by omega), rfl⟩
    case round =>
      obtain ⟨i, rfl, hin, hall, rfl⟩ := hrel
      have HALL := Lib.hid hall
      clear hall
      by_cases hlti : i < n
      · obtain ⟨lb, off, rfl⟩ := HS.out.of_pos (by have := HS.out.fits; omega)
        have hiL : i < x.L.length := by rw [← HN.out]; exact hlti
        have y0 := HS.out.at_ (i * 2) _ (by have := xl_get x.L i 0 hiL (by omega); simpa [xc] using this)
        have hyx := HXS.out _ (List.getElem_mem hiL)
        have HLI := Lib.hid (HL.out _ hyx)
        have HM : Hid ((x.L[i]'hiL) ∈ x.L) := Lib.hid (List.getElem_mem hiL)
        have HSTEP : Hid (lessB ((x.L[i]'hiL).1 : Int) (block : Int) = true → ∀ j, (hj : j < x.L.length) → j < i + 1 → lessB ((x.L[j]'hj).1 : Int) (block : Int) = true) := Lib.hid (fun hl j hj hji => by
          by_cases e : j = i
          · subst e; exact hl
          · exact HALL.out j hj (by omega))
        have HBAD : Hid (lessB ((x.L[i]'hiL).1 : Int) (block : Int) = false → ab = false) := Lib.hid (fun hl => by
          rw [HAB.out, decide_eq_false_iff_not]
          intro hh
          have := hh _ (List.getElem_mem hiL)
          rw [hl] at this; exact Bool.noConfusion this)
        generalize (x.L[i]'hiL).1 = ki at *
        cases hl : lessB (ki : Int) (block : Int) with
        | false =>
          have hab0 := HBAD.out hl
          subst hab0
          obtain rfl : sk = 2 := by rw [HKK.out]; rfl
          obtain rfl : x = sx := by rw [HX.out]; rfl
          rw [hl] at HLI
          clear hl HSTEP HBAD HM HALL
          go_wp2_with (first | (go_at_call 56; refine (HLI.out _).mono ?_; rintro e w' ⟨rfl, rfl⟩) | (refine wpList_load_row rfl 38 _ rfl w.heap.size rfl 38 cv (0, 0) _ (by exact HB.out) Try.underlying38 rfl (by rw [HSZ.out]; kernel_rfl) ?_) | (refine wpList_store_rowTo rfl 38 _ _ rfl rfl (w.heap.size + 1) cv rfl rfl 38 rZ (by exact HE.out) (by rw [HSZ.out]; kernel_rfl) (by rw [HSZ.out]; exact rfl) HONE.out ?_))
          refine bodyPost_ret (results_I2 rfl _ (.int .i64 2) rfl rfl (HE.out.row cv) HSZ.out) rfl ?_
          rw [← HCV.out]
          exact rpost_same H.out HBA.out (fun o => .tuple #[o, .int .i64 2]) _ (Nat.le_succ _) _
        | true =>
          have HST := Lib.hid (HSTEP.out hl)
          rw [hl] at HLI
          clear hl HSTEP HBAD HM HALL
          go_wp2_with (go_at_call 56; refine (HLI.out _).mono ?_; rintro e w' ⟨rfl, rfl⟩)
          go_roundw
          case rel => exact ⟨i + 1, by go_num, by omega, HST.out, by first | rfl | trivial⟩
          case measure => simp [intOf]; omega
      · have hab1 : ab = true := by
          rw [HAB.out, decide_eq_true_iff]
          intro y hy
          obtain ⟨j, hj, rfl⟩ := List.mem_iff_getElem.1 hy
          exact HALL.out j hj (by have := HN.out; omega)
        subst hab1
        clear HALL HAB
        replace HKK : Hid (sk = if x.known = true ∧ x.fin ≠ block then 16 else 0) := Lib.hid (by rw [HKK.out]; rfl)
        by_cases hkn : x.known = true ∧ x.fin ≠ block
        · obtain rfl : sk = 16 := by rw [HKK.out, if_pos hkn]
          obtain rfl : x = sx := by rw [HX.out]; rfl
          obtain ⟨hk1, hk2⟩ := hkn
          rw [hk1] at d17
          have bn : ((x.fin : Int) != (block : Int)) = true := by rw [bne_iff_ne]; omega
          have be : ((x.fin : Int) == (block : Int)) = false := by rw [beq_eq_false_iff_ne]; omega
          clear hk1 hk2
          go_wp2_with (first | (refine wpList_load_row rfl 38 _ rfl w.heap.size rfl 38 cv (0, 0) _ (by exact HB.out) Try.underlying38 rfl (by rw [HSZ.out]; kernel_rfl) ?_) | (refine wpList_store_rowTo rfl 38 _ _ rfl rfl (w.heap.size + 1) cv rfl rfl 38 rZ (by exact HE.out) (by rw [HSZ.out]; kernel_rfl) (by rw [HSZ.out]; exact rfl) HONE.out ?_))
          refine bodyPost_ret (results_I2 rfl _ (.int .i64 16) rfl rfl (HE.out.row cv) HSZ.out) rfl ?_
          rw [← HCV.out]
          exact rpost_same H.out HBA.out (fun o => .tuple #[o, .int .i64 16]) _ (Nat.le_succ _) _
        · obtain rfl : sk = 0 := by rw [HKK.out, if_neg hkn]
          obtain rfl : sx = { x with fin := block, known := true } := by rw [HX.out]; rfl
          obtain ⟨cv2, hcv2⟩ : ∃ cv2, cv2 = (cv.setIfInBounds 17 (.bool true)).setIfInBounds 16 (.int .u32 (block : Int)) := ⟨_, rfl⟩
          have HC2 := Lib.hid hcv2
          have HSZ2 : Hid (cv2.size = 18) := Lib.hid (by rw [hcv2, Array.size_setIfInBounds, Array.size_setIfInBounds]; exact HSZ.out)
          have HR2 : Hid (rC C win { x with fin := block, known := true } p cap q cap2 = cv2) := Lib.hid (by rw [hcv2]; exact HX2.out)
          have HONE2 : Hid (cv2.all (·.oneCell') = true) := Lib.hid (by rw [← HR2.out]; exact rC_one _ _ _ _ _ _ _)
          clear hcv2
          cases hk : x.known with
          | false =>
            rw [hk] at d17
            clear hkn hk
            go_wp2_with (first | (refine wpList_load_row rfl 38 _ rfl w.heap.size rfl 38 cv2 (0, 0) _ (by rw [HC2.out]; exact (HB.out.set 17 _).set 16 _) Try.underlying38 rfl (by rw [HSZ2.out]; kernel_rfl) ?_) | (refine wpList_store_rowTo rfl 38 _ _ rfl rfl (w.heap.size + 1) cv2 rfl rfl 38 rZ (by exact (HE.out.other _ (by simp) _).other _ (by simp) _) (by rw [HSZ2.out]; kernel_rfl) (by rw [HSZ2.out]; exact rfl) HONE2.out ?_))
            refine bodyPost_ret (results_I2 rfl _ (.int .i64 0) rfl rfl (((HE.out.other _ (by simp) _).other _ (by simp) _).row cv2) HSZ2.out) rfl ?_
            have hk6 := (((Kept.refl [w.heap.size, w.heap.size + 1] wr).set ⟨w.heap.size, 17, none⟩ (.inl (by simp)) (.bool true)).set ⟨w.heap.size, 16, none⟩ (.inl (by simp)) (.int .u32 (block : Int))).setRow (w.heap.size + 1) (.inl (by simp)) cv2
            have hbf := ((Kept.of_below HBA.out []).trans hk6 (fun y hy => .inr (by simp at hy; omega))).below (Nat.le_refl _) (by simp)
            rw [← HR2.out] at hk6 hbf ⊢
            exact rpost_gen (x' := { x with fin := block, known := true }) H.out (W3 := wr) (by omega) ⟨(H.out.below HBA.out).ro, (H.out.below HBA.out).ru⟩ (Near.same _ _) (Near.same _ _) (fun o => .tuple #[o, .int .i64 0]) (by simp; omega) hk6 hbf
          | true =>
            rw [hk] at d17
            have hk2 : x.fin = block := Classical.byContradiction (fun h => hkn ⟨hk, h⟩)
            have bn : ((x.fin : Int) != (block : Int)) = false := by rw [hk2]; simp
            have be : ((x.fin : Int) == (block : Int)) = true := by rw [hk2]; simp
            clear hkn hk hk2
            go_wp2_with (first | (refine wpList_load_row rfl 38 _ rfl w.heap.size rfl 38 cv2 (0, 0) _ (by rw [HC2.out]; exact (HB.out.set 17 _).set 16 _) Try.underlying38 rfl (by rw [HSZ2.out]; kernel_rfl) ?_) | (refine wpList_store_rowTo rfl 38 _ _ rfl rfl (w.heap.size + 1) cv2 rfl rfl 38 rZ (by exact (HE.out.other _ (by simp) _).other _ (by simp) _) (by rw [HSZ2.out]; kernel_rfl) (by rw [HSZ2.out]; exact rfl) HONE2.out ?_))
            refine bodyPost_ret (results_I2 rfl _ (.int .i64 0) rfl rfl (((HE.out.other _ (by simp) _).other _ (by simp) _).row cv2) HSZ2.out) rfl ?_
            have hk6 := (((Kept.refl [w.heap.size, w.heap.size + 1] wr).set ⟨w.heap.size, 17, none⟩ (.inl (by simp)) (.bool true)).set ⟨w.heap.size, 16, none⟩ (.inl (by simp)) (.int .u32 (block : Int))).setRow (w.heap.size + 1) (.inl (by simp)) cv2
            have hbf := ((Kept.of_below HBA.out []).trans hk6 (fun y hy => .inr (by simp at hy; omega))).below (Nat.le_refl _) (by simp)
            rw [← HR2.out] at hk6 hbf ⊢
            exact rpost_gen (x' := { x with fin := block, known := true }) H.out (W3 := wr) (by omega) ⟨(H.out.below HBA.out).ro, (H.out.below HBA.out).ru⟩ (Near.same _ _) (Near.same _ _) (fun o => .tuple #[o, .int .i64 0]) (by simp; omega) hk6 hbf
end Go.Proofs.Ytdggnhgflfaffaa
