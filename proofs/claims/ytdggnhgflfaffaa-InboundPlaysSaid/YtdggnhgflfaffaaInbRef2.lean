/- lightshipref28: Saw -/
import Derived.Test.YtdggnhgflfaffaaInbRef1
namespace Go.Proofs.Ytdggnhgflfaffaa
set_option maxRecDepth 20000
open Go.ChangeShapes Go.WideShapes Go.ChangeAt Go.RowKit
set_option linter.unusedVariables false
set_option maxHeartbeats 2000000 in
theorem rsaw (C : Nat → Int) (win que k : Nat) (x : Ist) (p : Option Addr) (cap : Nat) (q : Option Addr) (cap2 block : Nat) (hx : block < 4294967296) (hf : Fine x win que k) (hwin : C 3 = (win : Int)) (w : World) (h : RefAt w x p cap q cap2) :
    Calls Try.prog 31 #[.agg (rC C win x p cap q cap2), .int .u32 (block : Int)] w (RPost w C win (sawX x win block) p q (fun o => .tuple #[o, .int .i64 (sawK x win block)])) := by
  have hbase : x.base < 4294967296 := by have := hf.base; have := hf.small; omega
  have hfin := hf.fin
  have hS : x.S.length ≤ 1000 := by have := hf.slen; have := hf.small; omega
  have hL : x.L.length ≤ 1000 := by have := hf.len; omega
  have HL := Lib.hid (fun w => refLess (block : Int) (x.base : Int) (by omega) (by omega) (by omega) (by omega) w)
  have HW : Hid (∀ w, Calls Try.prog 57 #[.int .u32 (block : Int), .int .u32 (x.base : Int), .int .i64 (win : Int)] w fun e w' => e = .returned (.bool (keyIn x.base win block)) ∧ w = w') := Lib.hid (fun w => refWithin (block : Int) (x.base : Int) (win : Int) (by omega) (by omega) (by omega) (by omega) w)
  have HBH := Lib.hid (fun w => rbehind C win x p cap q cap2 block hx hfin w)
  have HH := Lib.hid (fun w hs => rhas_any x.base win p cap x.L block hL w hs)
  have HS0 := Lib.hid (fun w hs => rsaw0 C win x p cap q cap2 block hx hS w hs)
  clear hf hfin hS
  obtain ⟨c0, c1, c2, c3, c4, c5, c6, c7, c8, c9, c10, c11, c12, c13, c14, c15, c16, c17⟩ := rGet C win x p cap q cap2
  rw [hwin] at c3
  have HSZ : Hid ((rC C win x p cap q cap2).size = 18) := Lib.hid rfl
  have HONE := Lib.hid (rC_one C win x p cap q cap2)
  have H := Lib.hid h
  generalize hcv : rC C win x p cap q cap2 = cv at *
  have HCV := Lib.hid hcv
  clear hcv h
  have HX : Hid (sawX x win block = if sawK x win block = 3 then noteX x block else x) := Lib.hid rfl
  have HKK : Hid (sawK x win block = if lessB (block : Int) (x.base : Int) then 0 else if keyIn x.base win block = false then 1 else if behB x block then 1 else if hasR x.L block then 2 else 3) := Lib.hid rfl
  generalize sawK x win block = sk at *
  generalize sawX x win block = sx at *
  generalize lessB (block : Int) (x.base : Int) = l at *
  generalize keyIn x.base win block = kk at *
  generalize behB x block = bb at *
  generalize hasR x.L block = hr at *
  go_enter Try.func31, Try.ntmps31
  go_wp2_with fail
  generalize hwa : (w.alloc _).alloc _ = wa
  have hba : Below w.heap.size w wa := by rw [← hwa]; exact below2 _ _ _
  have hsza : wa.heap.size = w.heap.size + 2 := by rw [← hwa]; simp
  have hB0 : Blk wa w.heap.size cv 38 := by
    rw [← hwa]
    exact (Blk.new _ _ _).alloc _
  have HB : Hid (Blk wa w.heap.size cv 38) := Lib.hid hB0
  have HE : Hid (Blk wa (w.heap.size + 1) rZ 38) := Lib.hid (by rw [← hwa]; exact Blk.new' (by simp))
  have HBA : Hid (Below w.heap.size w wa) := Lib.hid hba
  clear hwa hba
  have d3 := (hB0.cell 3).trans c3
  have d11 := (hB0.cell 11).trans c11
  have d12 := (hB0.cell 12).trans c12
  have d13 := (hB0.cell 13).trans c13
  have hlt := hB0.lt
  clear hB0 c0 c1 c2 c3 c4 c5 c6 c7 c8 c9 c10 c11 c12 c13 c14 c15 c16 c17
  refine (HL.out _).mono ?_
  rintro e w' ⟨rfl, rfl⟩
  clear HL
  cases l with
  | true =>
    obtain rfl : sk = 0 := by rw [HKK.out]; rfl
    obtain rfl : sx = x := by rw [HX.out]; rfl
    go_wp2_with (first | (refine BigFrame.wpList_want rfl (fun K hK => wp_load_row 38 (.tmp 2) rfl w.heap.size rfl 38 cv (0, 0) _ (by first | exact HB.out | exact HB.out.alloc _) Try.underlying38 rfl (by rw [HSZ.out]; kernel_rfl) (hK _ _ ?_))) | (refine wpList_load_row rfl 38 _ rfl w.heap.size rfl 38 cv (0, 0) _ (by first | exact HB.out | exact HB.out.alloc _) Try.underlying38 rfl (by rw [HSZ.out]; kernel_rfl) ?_) | (refine wpList_store_rowTo rfl 38 _ _ rfl rfl (w.heap.size + 1) cv rfl rfl 38 rZ (by first | exact HE.out | exact HE.out.alloc _) (by rw [HSZ.out]; kernel_rfl) (by rw [HSZ.out]; rfl) HONE.out ?_) | (go_at_call 57; refine (HW.out _).mono ?_; rintro e w' ⟨rfl, rfl⟩) | (go_at_call 58; refine (HBH.out _).mono ?_; rintro e w' ⟨rfl, rfl⟩))
    refine bodyPost_ret (results_I2 rfl _ (.int .i64 0) rfl rfl ((HE.out).row cv) HSZ.out) rfl ?_
    rw [← HCV.out]
    exact rpost_same H.out (HBA.out) (fun o => .tuple #[o, .int .i64 0]) _ (Nat.le_succ _) _
  | false =>
    cases kk with
    | false =>
      obtain rfl : sk = 1 := by rw [HKK.out]; rfl
      obtain rfl : sx = x := by rw [HX.out]; rfl
      go_wp2_with (first | (refine BigFrame.wpList_want rfl (fun K hK => wp_load_row 38 (.tmp 2) rfl w.heap.size rfl 38 cv (0, 0) _ (by first | exact HB.out | exact HB.out.alloc _) Try.underlying38 rfl (by rw [HSZ.out]; kernel_rfl) (hK _ _ ?_))) | (refine wpList_load_row rfl 38 _ rfl w.heap.size rfl 38 cv (0, 0) _ (by first | exact HB.out | exact HB.out.alloc _) Try.underlying38 rfl (by rw [HSZ.out]; kernel_rfl) ?_) | (refine wpList_store_rowTo rfl 38 _ _ rfl rfl (w.heap.size + 1) cv rfl rfl 38 rZ (by first | exact HE.out | exact HE.out.alloc _) (by rw [HSZ.out]; kernel_rfl) (by rw [HSZ.out]; rfl) HONE.out ?_) | (go_at_call 57; refine (HW.out _).mono ?_; rintro e w' ⟨rfl, rfl⟩) | (go_at_call 58; refine (HBH.out _).mono ?_; rintro e w' ⟨rfl, rfl⟩))
      refine bodyPost_ret (results_I2 rfl _ (.int .i64 1) rfl rfl ((HE.out).row cv) HSZ.out) rfl ?_
      rw [← HCV.out]
      exact rpost_same H.out (HBA.out) (fun o => .tuple #[o, .int .i64 1]) _ (Nat.le_succ _) _
    | true =>
      cases bb with
      | true =>
        obtain rfl : sk = 1 := by rw [HKK.out]; rfl
        obtain rfl : sx = x := by rw [HX.out]; rfl
        go_wp2_with (first | (refine BigFrame.wpList_want rfl (fun K hK => wp_load_row 38 (.tmp 2) rfl w.heap.size rfl 38 cv (0, 0) _ (by first | exact HB.out | exact HB.out.alloc _) Try.underlying38 rfl (by rw [HSZ.out]; kernel_rfl) (hK _ _ ?_))) | (refine wpList_load_row rfl 38 _ rfl w.heap.size rfl 38 cv (0, 0) _ (by first | exact HB.out | exact HB.out.alloc _) Try.underlying38 rfl (by rw [HSZ.out]; kernel_rfl) ?_) | (refine wpList_store_rowTo rfl 38 _ _ rfl rfl (w.heap.size + 1) cv rfl rfl 38 rZ (by first | exact HE.out | exact HE.out.alloc _) (by rw [HSZ.out]; kernel_rfl) (by rw [HSZ.out]; rfl) HONE.out ?_) | (go_at_call 57; refine (HW.out _).mono ?_; rintro e w' ⟨rfl, rfl⟩) | (go_at_call 58; refine (HBH.out _).mono ?_; rintro e w' ⟨rfl, rfl⟩))
        refine bodyPost_ret (results_I2 rfl _ (.int .i64 1) rfl rfl ((HE.out.alloc _).row cv) HSZ.out) rfl ?_
        rw [← HCV.out]
        exact rpost_same H.out (HBA.out.alloc HBA.out.size _) (fun o => .tuple #[o, .int .i64 1]) _ (Nat.le_succ _) _
      | false =>
        go_wp2_with (first | (refine BigFrame.wpList_want rfl (fun K hK => wp_load_row 38 (.tmp 2) rfl w.heap.size rfl 38 cv (0, 0) _ (by first | exact HB.out | exact HB.out.alloc _) Try.underlying38 rfl (by rw [HSZ.out]; kernel_rfl) (hK _ _ ?_))) | (refine wpList_load_row rfl 38 _ rfl w.heap.size rfl 38 cv (0, 0) _ (by first | exact HB.out | exact HB.out.alloc _) Try.underlying38 rfl (by rw [HSZ.out]; kernel_rfl) ?_) | (refine wpList_store_rowTo rfl 38 _ _ rfl rfl (w.heap.size + 1) cv rfl rfl 38 rZ (by first | exact HE.out | exact HE.out.alloc _) (by rw [HSZ.out]; kernel_rfl) (by rw [HSZ.out]; rfl) HONE.out ?_) | (go_at_call 57; refine (HW.out _).mono ?_; rintro e w' ⟨rfl, rfl⟩) | (go_at_call 58; refine (HBH.out _).mono ?_; rintro e w' ⟨rfl, rfl⟩))
        refine (HH.out _ (H.out.ro.below (HBA.out.alloc HBA.out.size _))).mono ?_
        rintro e w3 ⟨rfl, hb3⟩
        have hb3' : Below wa.heap.size wa w3 := ((Below.refl _ _).alloc (Nat.le_refl _) _).trans (hb3.mono (by simp))
        replace HB : Hid (Blk w3 w.heap.size cv 38) := Lib.hid (HB.out.below hb3' hlt)
        replace HE : Hid (Blk w3 (w.heap.size + 1) rZ 38) := Lib.hid (HE.out.below hb3' (by omega))
        replace HBA : Hid (Below w.heap.size w w3) := Lib.hid (HBA.out.trans (hb3'.mono (by omega)))
        have hlt3 := HE.out.lt
        clear hb3 hb3' d3 d11 d12 d13 HBH HW HH
        cases hr with
        | true =>
          obtain rfl : sk = 2 := by rw [HKK.out]; rfl
          obtain rfl : sx = x := by rw [HX.out]; rfl
          go_wp2_with (first | (refine BigFrame.wpList_want rfl (fun K hK => wp_load_row 38 (.tmp 2) rfl w.heap.size rfl 38 cv (0, 0) _ (by first | exact HB.out | exact HB.out.alloc _) Try.underlying38 rfl (by rw [HSZ.out]; kernel_rfl) (hK _ _ ?_))) | (refine wpList_load_row rfl 38 _ rfl w.heap.size rfl 38 cv (0, 0) _ (by first | exact HB.out | exact HB.out.alloc _) Try.underlying38 rfl (by rw [HSZ.out]; kernel_rfl) ?_) | (refine wpList_store_rowTo rfl 38 _ _ rfl rfl (w.heap.size + 1) cv rfl rfl 38 rZ (by first | exact HE.out | exact HE.out.alloc _) (by rw [HSZ.out]; kernel_rfl) (by rw [HSZ.out]; rfl) HONE.out ?_))
          refine bodyPost_ret (results_I2 rfl _ (.int .i64 2) rfl rfl (HE.out.row cv) HSZ.out) rfl ?_
          rw [← HCV.out]
          exact rpost_same H.out HBA.out (fun o => .tuple #[o, .int .i64 2]) _ (Nat.le_succ _) _
        | false =>
          obtain rfl : sk = 3 := by rw [HKK.out]; rfl
          obtain rfl : sx = noteX x block := by rw [HX.out]; rfl
          go_wp2_with (first | (refine BigFrame.wpList_want rfl (fun K hK => wp_load_row 38 (.tmp 2) rfl w.heap.size rfl 38 cv (0, 0) _ (by first | exact HB.out | exact HB.out.alloc _) Try.underlying38 rfl (by rw [HSZ.out]; kernel_rfl) (hK _ _ ?_))) | (refine wpList_load_row rfl 38 _ rfl w.heap.size rfl 38 cv (0, 0) _ (by first | exact HB.out | exact HB.out.alloc _) Try.underlying38 rfl (by rw [HSZ.out]; kernel_rfl) ?_) | (refine wpList_store_rowTo rfl 38 _ _ rfl rfl (w.heap.size + 1) cv rfl rfl 38 rZ (by first | exact HE.out | exact HE.out.alloc _) (by rw [HSZ.out]; kernel_rfl) (by rw [HSZ.out]; rfl) HONE.out ?_))
          refine (HS0.out _ (H.out.below HBA.out)).mono ?_
          rintro e w4 ⟨p', cap', q', cap2', rfl, hra, hn1, hn2, hb4⟩
          simp only [id_eq]
          have HE4 := Lib.hid (HE.out.below hb4 hlt3)
          obtain ⟨cr, hcr⟩ : ∃ cr, cr = rC C win (noteX x block) p' cap' q' cap2' := ⟨_, rfl⟩
          rw [← hcr]
          have HCR := Lib.hid hcr
          have HRZ : Hid (cr.size = 18) := Lib.hid (by rw [hcr]; rfl)
          have HRO : Hid (cr.all (·.oneCell') = true) := Lib.hid (by rw [hcr]; exact rC_one _ _ _ _ _ _ _)
          have HP := Lib.hid (And.intro hra (And.intro hn1 (And.intro hn2 hb4)))
          clear hcr hra hn1 hn2 hb4
          go_wp2_with (refine wpList_store_rowTo rfl 38 _ _ rfl rfl (w.heap.size + 1) cr rfl rfl 38 rZ (by exact HE4.out) (by rw [HRZ.out]; kernel_rfl) (by rw [HRZ.out]; rfl) HRO.out ?_)
          refine bodyPost_ret (results_I2 rfl _ (.int .i64 3) rfl rfl (HE4.out.row cr) HRZ.out) rfl ?_
          obtain ⟨hra, hn1, hn2, hb4⟩ := HP.out
          rw [HCR.out]
          exact rpost_new H.out HBA.out hra hn1 hn2 hb4 (fun o => .tuple #[o, .int .i64 3]) _ (Nat.le_succ _) hlt3 _
end Go.Proofs.Ytdggnhgflfaffaa
