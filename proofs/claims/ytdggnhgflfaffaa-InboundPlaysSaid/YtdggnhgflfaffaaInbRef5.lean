/- lightshipref28: Put -/
import Derived.Test.YtdggnhgflfaffaaInbRef1
namespace Go.Proofs.Ytdggnhgflfaffaa
set_option maxRecDepth 20000
open Go.ChangeShapes Go.WideShapes Go.ChangeAt Go.RowKit
set_option linter.unusedVariables false
set_option linter.unusedSimpArgs false

def iputX0 (x : Ist) (block : Nat) (body : ByteArray) : Ist := { x with L := x.L ++ [(block, body)], S := x.S ++ [block] }
set_option maxHeartbeats 4000000 in
theorem rput (C : Nat → Int) (win que k : Nat) (x : Ist) (p : Option Addr) (cap : Nat) (q : Option Addr) (cap2 block : Nat) (body : ByteArray) (hx : block < 4294967296) (hf : Fine x win que k) (hwin : C 3 = (win : Int)) (w : World) (h : RefAt w x p cap q cap2) :
    Calls Try.prog 32 #[.agg (rC C win x p cap q cap2), .int .u32 (block : Int), .string body] w (RPost w C win (iputX x win block body) p q (fun o => .tuple #[o, .int .i64 (iputK x win block body)])) := by
  have hbase : x.base < 4294967296 := by have := hf.base; have := hf.small; omega
  have hfin := hf.fin
  have hS : x.S.length ≤ 1000 := by have := hf.slen; have := hf.small; omega
  have hL : x.L.length ≤ 1000 := by have := hf.len; omega
  have HL := Lib.hid (fun w => refLess (block : Int) (x.base : Int) (by omega) (by omega) (by omega) (by omega) w)
  have HBH := Lib.hid (fun w => rbehind C win x p cap q cap2 block hx hfin w)
  have HPU := Lib.hid (fun w hs => rput_any x.base win p cap x.L block body hL hbase hx w hs)
  have HS0 : Hid (∀ (p' : Option Addr) (cap' : Nat) w, RefAt w { x with L := x.L ++ [(block, body)] } p' cap' q cap2 → Calls Try.prog 59 #[.agg (rC C win { x with L := x.L ++ [(block, body)] } p' cap' q cap2), .int .u32 (block : Int)] w (RPost w C win (iputX0 x block body) p' q id)) := Lib.hid (fun p' cap' w hs => rsaw0 C win { x with L := x.L ++ [(block, body)] } p' cap' q cap2 block hx hS w hs)
  clear hf hfin hS
  obtain ⟨c0, c1, c2, c3, c4, c5, c6, c7, c8, c9, c10, c11, c12, c13, c14, c15, c16, c17⟩ := rGet C win x p cap q cap2
  rw [hwin] at c3
  have HSZ : Hid ((rC C win x p cap q cap2).size = 18) := Lib.hid rfl
  have HONE := Lib.hid (rC_one C win x p cap q cap2)
  have H := Lib.hid h
  generalize hcv : rC C win x p cap q cap2 = cv at *
  have HCV := Lib.hid hcv
  clear hcv h
  have HX : Hid (iputX x win block body = if iputK x win block body = 3 then iputX0 x block body else x) := Lib.hid rfl
  have HKK : Hid (iputK x win block body = if (behB x block && !lessB (block : Int) (x.base : Int)) = true then 1 else putK x.base win x.L block body) := Lib.hid rfl
  have HLX : Hid (putLx x.base win x.L block body = if putK x.base win x.L block body = 3 then x.L ++ [(block, body)] else x.L) := Lib.hid rfl
  generalize iputK x win block body = sk at *
  generalize iputX x win block body = sx at *
  generalize lessB (block : Int) (x.base : Int) = l at *
  generalize behB x block = bb at *
  generalize putK x.base win x.L block body = pk at *
  generalize putLx x.base win x.L block body = pl at *
  go_enter Try.func32, Try.ntmps32
  go_wp2_with (refine wpList_load_row rfl 38 _ rfl w.heap.size rfl 38 cv (0, 0) _ (by exact (Blk.new _ _ _).alloc _) Try.underlying38 rfl (by rw [HSZ.out]; kernel_rfl) ?_)
  generalize hwa : (w.alloc _).alloc _ = wa
  have hba : Below w.heap.size w wa := by rw [← hwa]; exact below2 _ _ _
  have hsza : wa.heap.size = w.heap.size + 2 := by rw [← hwa]; simp
  have hB0 : Blk wa w.heap.size cv 38 := by
    rw [← hwa]
    exact (Blk.new _ _ _).alloc _
  have HB : Hid (Blk wa w.heap.size cv 38) := Lib.hid hB0
  have HE : Hid (Blk wa (w.heap.size + 1) rZ 38) := Lib.hid (by rw [← hwa]; exact Blk.new' (by simp))
  have HBA : Hid (Below w.heap.size w wa) := Lib.hid hba
  clear hwa hba
  refine (HBH.out _).mono ?_
  rintro e w' ⟨rfl, rfl⟩
  generalize hwc : wa.alloc _ = wc
  have hbc : Below wa.heap.size wa wc := by rw [← hwc]; exact below1 _ _
  replace HB : Hid (Blk wc w.heap.size cv 38) := Lib.hid (HB.out.below hbc (by omega))
  replace HE : Hid (Blk wc (w.heap.size + 1) rZ 38) := Lib.hid (HE.out.below hbc (by omega))
  replace HBA : Hid (Below w.heap.size w wc) := Lib.hid (HBA.out.trans (hbc.mono (by omega)))
  have hltc : w.heap.size + 1 < wc.heap.size := HE.out.lt
  have d11 := (HB.out.cell 11).trans c11
  have d12 := (HB.out.cell 12).trans c12
  have d13 := (HB.out.cell 13).trans c13
  have HC11 := Lib.hid c11
  have HC12 := Lib.hid c12
  have HC13 := Lib.hid c13
  clear hwc hbc hsza hB0 HBH c0 c1 c2 c3 c4 c5 c6 c7 c8 c9 c10 c11 c12 c13 c14 c15 c16 c17
  have HKQ : Hid ((bb && !l) = false → sk = pk) := Lib.hid (fun h => by rw [HKK.out, h]; rfl)
  have HPUT : Hid ((bb && !l) = false → True) := Lib.hid (fun _ => trivial)
  by_cases hbl : (bb && !l) = true
  · obtain rfl : sk = 1 := by rw [HKK.out, if_pos hbl]
    obtain rfl : x = sx := by rw [HX.out]; rfl
    cases bb with
    | false => simp at hbl
    | true =>
      cases l with
      | true => simp at hbl
      | false =>
        clear hbl
        go_wp2_with (first | (go_at_call 56; refine (HL.out _).mono ?_; rintro e w' ⟨rfl, rfl⟩) | (refine wpList_load_row rfl 38 _ rfl w.heap.size rfl 38 cv (0, 0) _ (by exact HB.out) Try.underlying38 rfl (by rw [HSZ.out]; kernel_rfl) ?_) | (refine wpList_store_rowTo rfl 38 _ _ rfl rfl (w.heap.size + 1) cv rfl rfl 38 rZ (by exact HE.out) (by rw [HSZ.out]; kernel_rfl) (by rw [HSZ.out]; exact rfl) HONE.out ?_))
        refine bodyPost_ret (results_I2 rfl _ (.int .i64 1) rfl rfl (HE.out.row cv) HSZ.out) rfl ?_
        rw [← HCV.out]
        exact rpost_same H.out HBA.out (fun o => .tuple #[o, .int .i64 1]) _ (Nat.le_succ _) _
  · obtain rfl : sk = pk := HKQ.out (by simpa using hbl)
    have hcases : bb = false ∨ bb = true ∧ l = true := by cases bb <;> cases l <;> simp at hbl ⊢
    clear hbl HKQ HKK
    rcases hcases with rfl | ⟨rfl, rfl⟩
    ·
      go_wp2_with (go_at_call 56; refine (HL.out _).mono ?_; rintro e w' ⟨rfl, rfl⟩)
      refine (HPU.out _ (H.out.ro.below HBA.out)).mono ?_
      rintro e w3 ⟨p', cap', rfl, hb3, hown⟩
      obtain ⟨HRO, HNR⟩ : Hid (RO w3 p' cap' pl) ∧ Hid (Near wc p p') := by
        rcases hown with ⟨rfl, rfl, rfl⟩ | h
        · exact ⟨Lib.hid (H.out.ro.below (HBA.out.trans (hb3.mono HBA.out.size))), Lib.hid (Near.same _ _)⟩
        · obtain ⟨p'', cap'', hv, hro⟩ := RO.of_own h
          injection hv with e1 _ e3
          subst e1 e3
          exact ⟨Lib.hid hro, Lib.hid (fun a ha => .inl (own_lt h a.block (by simp [rowOf, Value.ownBlock, ha])).1)⟩
      have HB3 : Hid (Blk w3 w.heap.size cv 38) := Lib.hid (HB.out.below hb3 (by omega))
      have HE3 : Hid (Blk w3 (w.heap.size + 1) rZ 38) := Lib.hid (HE.out.below hb3 hltc)
      have HBW := Lib.hid hb3
      have hlt3 : wc.heap.size ≤ w3.heap.size := hb3.size
      have fd := HB3.out.free
      have hg0 : w.heap.size < w3.heap.size := by omega
      have hg1 : w.heap.size + 1 < w3.heap.size := by omega
      have hra3 : RefAt w3 { x with L := pl } p' cap' q cap2 := ⟨HRO.out, H.out.ru.below (HBA.out.trans (hb3.mono HBA.out.size))⟩
      have HRA3 := Lib.hid hra3
      have HB3W : Hid (Below w.heap.size w w3) := Lib.hid (HBA.out.trans (hb3.mono HBA.out.size))
      clear hra3
      have z11 := (HB3.out.cell 11).trans HC11.out
      have z12 := (HB3.out.cell 12).trans HC12.out
      have z13 := (HB3.out.cell 13).trans HC13.out
      obtain ⟨n', hn'⟩ : ∃ n', n' = pl.length := ⟨_, rfl⟩
      rw [← hn']
      obtain ⟨cv2, hcv2⟩ : ∃ cv2, cv2 = ((cv.setIfInBounds 11 (.int .u32 (x.base : Int))).setIfInBounds 12 (.int .i64 (win : Int))).setIfInBounds 13 (.slice p' n' cap') := ⟨_, rfl⟩
      have HR2 : Hid (rC C win { x with L := pl } p' cap' q cap2 = cv2) := Lib.hid (by rw [hcv2, ← HCV.out, hn']; rfl)
      have HSZ2 : Hid (cv2.size = 18) := Lib.hid (by rw [← HR2.out]; rfl)
      have HONE2 : Hid (cv2.all (·.oneCell') = true) := Lib.hid (by rw [← HR2.out]; exact rC_one _ _ _ _ _ _ _)
      have hB4' := (((HB3.out.set 11 (.int .u32 (x.base : Int))).set 12 (.int .i64 (win : Int))).set 13 (.slice p' n' cap')).alloc (.cells #[.int .u32 (x.base : Int), .int .i64 (win : Int), .slice p' n' cap'] 35)
      rw [← hcv2] at hB4'
      have HB4' := Lib.hid hB4'
      have HE4' := Lib.hid ((((HE3.out.other ⟨w.heap.size, 11, none⟩ (by simp) (.int .u32 (x.base : Int))).other ⟨w.heap.size, 12, none⟩ (by simp) (.int .i64 (win : Int))).other ⟨w.heap.size, 13, none⟩ (by simp) (.slice p' n' cap')).alloc (.cells #[.int .u32 (x.base : Int), .int .i64 (win : Int), .slice p' n' cap'] 35))
      have HK4' := Lib.hid ((((Kept.refl [w.heap.size] w3).set ⟨w.heap.size, 11, none⟩ (.inl (by simp)) (.int .u32 (x.base : Int))).set ⟨w.heap.size, 12, none⟩ (.inl (by simp)) (.int .i64 (win : Int))).set ⟨w.heap.size, 13, none⟩ (.inl (by simp)) (.slice p' n' cap') |>.alloc (.cells #[.int .u32 (x.base : Int), .int .i64 (win : Int), .slice p' n' cap'] 35))
      clear hB4'
      have HC2 := Lib.hid hcv2
      have HN' := Lib.hid hn'
      clear hb3 hown d11 d12 d13 HL HPU hcv2 hn'
      by_cases h3 : sk = 3
      · subst h3
        obtain rfl : sx = iputX0 x block body := by rw [HX.out]; rfl
        obtain rfl : pl = x.L ++ [(block, body)] := by rw [HLX.out]; rfl
        have HSA : Hid (∀ w, RefAt w { x with L := x.L ++ [(block, body)] } p' cap' q cap2 → Calls Try.prog 59 #[.agg cv2, .int .u32 (block : Int)] w (RPost w C win (iputX0 x block body) p' q id)) := Lib.hid (fun w hs => by rw [← HR2.out]; exact HS0.out p' cap' w hs)
        go_wp2_with (refine wpList_load_row rfl 38 _ rfl w.heap.size rfl 38 cv2 (0, 0) _ (by exact HB4'.out) Try.underlying38 rfl (by rw [HSZ2.out]; kernel_rfl) ?_)
        have hk4 := HK4'.out
        have HB4 := HB4'
        have HE4 := HE4'
        generalize hw4 : World.alloc (World.setCell _ _ _) _ = w4 at *
        have hra4 : RefAt w4 { x with L := x.L ++ [(block, body)] } p' cap' q cap2 := refat_gen H.out HRA3.out HNR.out (Near.same _ _) (by simp; omega) hk4
        have HK4 := Lib.hid hk4
        have hs4 := hk4.size
        clear hw4 hk4 z11 z12 z13 fd HB3 HE3 HB4' HE4' HK4'
        refine (HSA.out _ hra4).mono ?_
        rintro e w5 ⟨p2, cp2, q2, cq2, rfl, hra5, hn1, hn2, hb5⟩
        simp only [id_eq]
        have HB5 := Lib.hid (HB4.out.below hb5 (by omega))
        have HE5 := Lib.hid (HE4.out.below hb5 (by omega))
        obtain ⟨cr, hcr⟩ : ∃ cr, cr = rC C win (iputX0 x block body) p2 cp2 q2 cq2 := ⟨_, rfl⟩
        rw [← hcr]
        have HCR := Lib.hid hcr
        have HRZ : Hid (cr.size = 18) := Lib.hid (by rw [hcr]; rfl)
        have HR1 : Hid (cr.all (·.oneCell') = true) := Lib.hid (by rw [hcr]; exact rC_one _ _ _ _ _ _ _)
        have HP := Lib.hid (And.intro hra5 (And.intro hn1 (And.intro hn2 hb5)))
        clear hcr hra5 hn1 hn2 hb5 hra4
        go_wp2_with (first | (refine wpList_store_rowTo rfl 38 _ _ rfl rfl (w.heap.size) cr rfl rfl 38 cv2 (by exact HB5.out) (by rw [HRZ.out]; kernel_rfl) (by rw [HRZ.out]; exact HSZ2.out) HR1.out ?_) | (refine wpList_load_row rfl 38 _ rfl w.heap.size rfl 38 cr (0, 0) _ (by exact HB5.out.row cr) Try.underlying38 rfl (by rw [HRZ.out]; kernel_rfl) ?_) | (refine wpList_store_rowTo rfl 38 _ _ rfl rfl (w.heap.size + 1) cr rfl rfl 38 rZ (by exact HE5.out.rowO (by simp) cr) (by rw [HRZ.out]; kernel_rfl) (by rw [HRZ.out]; exact rfl) HR1.out ?_))
        refine bodyPost_ret (results_I2 rfl _ (.int .i64 3) rfl rfl ((HE5.out.rowO (by simp) cr).row cr) HRZ.out) rfl ?_
        obtain ⟨hra5, hn1, hn2, hb5⟩ := HP.out
        have hk6 : Kept [w.heap.size, w.heap.size + 1] w5 ((w5.setRow w.heap.size cr).setRow (w.heap.size + 1) cr) := ((Kept.refl _ _).setRow _ (.inl (by simp)) _).setRow _ (.inl (by simp)) _
        have hs5 := hb5.size
        have hbf : Below w.heap.size w ((w5.setRow w.heap.size cr).setRow (w.heap.size + 1) cr) := by
          have h1 : Kept [w.heap.size] w w4 := (Kept.of_below HB3W.out _).trans HK4.out (fun y hy => .inl hy)
          have h2 : Below w.heap.size w w5 := (h1.below (Nat.le_refl _) (by simp)).trans (hb5.mono h1.size)
          exact ((Kept.of_below h2 []).trans hk6 (fun y hy => .inr (by simp at hy; omega))).below (Nat.le_refl _) (by simp)
        rw [HCR.out] at hk6 hbf ⊢
        exact rpost_gen H.out (W3 := wc) (by omega) hra5 (Near.trans HNR.out hn1 (by omega)) (fun a ha => (hn2 a ha).imp (fun h => by omega) id) (fun o => .tuple #[o, .int .i64 3]) (by simp; omega) hk6 hbf
      · have b3 : (sk == 3) = false := by rw [beq_eq_false_iff_ne]; exact h3
        obtain rfl : x = sx := by rw [HX.out, if_neg h3]
        obtain rfl : x.L = pl := by rw [HLX.out, if_neg h3]
        go_wp2_with (first | (refine wpList_load_row rfl 38 _ rfl w.heap.size rfl 38 cv2 (0, 0) _ (by exact HB4'.out) Try.underlying38 rfl (by rw [HSZ2.out]; kernel_rfl) ?_) | (refine wpList_store_rowTo rfl 38 _ _ rfl rfl (w.heap.size + 1) cv2 rfl rfl 38 rZ (by exact HE4'.out) (by rw [HSZ2.out]; kernel_rfl) (by rw [HSZ2.out]; exact rfl) HONE2.out ?_))
        have hE6 := HE4'.out
        refine bodyPost_ret (results_I2 rfl _ (.int .i64 sk) rfl rfl (hE6.row cv2) HSZ2.out) rfl ?_
        have hk6 := (HK4'.out.mono (r' := [w.heap.size, w.heap.size + 1]) (fun y hy => .inl (by simp at hy; subst hy; simp))).setRow (w.heap.size + 1) (.inl (by simp)) cv2
        have hbf := ((Kept.of_below HB3W.out []).trans hk6 (fun y hy => .inr (by simp at hy; omega))).below (Nat.le_refl _) (by simp)
        rw [← HR2.out] at hk6 hbf ⊢
        exact rpost_gen H.out (W3 := wc) (by omega) HRA3.out HNR.out (Near.same _ _) (fun o => .tuple #[o, .int .i64 sk]) (by simp; omega) hk6 hbf
    ·
      go_wp2_with (go_at_call 56; refine (HL.out _).mono ?_; rintro e w' ⟨rfl, rfl⟩)
      refine (HPU.out _ (H.out.ro.below HBA.out)).mono ?_
      rintro e w3 ⟨p', cap', rfl, hb3, hown⟩
      obtain ⟨HRO, HNR⟩ : Hid (RO w3 p' cap' pl) ∧ Hid (Near wc p p') := by
        rcases hown with ⟨rfl, rfl, rfl⟩ | h
        · exact ⟨Lib.hid (H.out.ro.below (HBA.out.trans (hb3.mono HBA.out.size))), Lib.hid (Near.same _ _)⟩
        · obtain ⟨p'', cap'', hv, hro⟩ := RO.of_own h
          injection hv with e1 _ e3
          subst e1 e3
          exact ⟨Lib.hid hro, Lib.hid (fun a ha => .inl (own_lt h a.block (by simp [rowOf, Value.ownBlock, ha])).1)⟩
      have HB3 : Hid (Blk w3 w.heap.size cv 38) := Lib.hid (HB.out.below hb3 (by omega))
      have HE3 : Hid (Blk w3 (w.heap.size + 1) rZ 38) := Lib.hid (HE.out.below hb3 hltc)
      have HBW := Lib.hid hb3
      have hlt3 : wc.heap.size ≤ w3.heap.size := hb3.size
      have fd := HB3.out.free
      have hg0 : w.heap.size < w3.heap.size := by omega
      have hg1 : w.heap.size + 1 < w3.heap.size := by omega
      have hra3 : RefAt w3 { x with L := pl } p' cap' q cap2 := ⟨HRO.out, H.out.ru.below (HBA.out.trans (hb3.mono HBA.out.size))⟩
      have HRA3 := Lib.hid hra3
      have HB3W : Hid (Below w.heap.size w w3) := Lib.hid (HBA.out.trans (hb3.mono HBA.out.size))
      clear hra3
      have z11 := (HB3.out.cell 11).trans HC11.out
      have z12 := (HB3.out.cell 12).trans HC12.out
      have z13 := (HB3.out.cell 13).trans HC13.out
      obtain ⟨n', hn'⟩ : ∃ n', n' = pl.length := ⟨_, rfl⟩
      rw [← hn']
      obtain ⟨cv2, hcv2⟩ : ∃ cv2, cv2 = ((cv.setIfInBounds 11 (.int .u32 (x.base : Int))).setIfInBounds 12 (.int .i64 (win : Int))).setIfInBounds 13 (.slice p' n' cap') := ⟨_, rfl⟩
      have HR2 : Hid (rC C win { x with L := pl } p' cap' q cap2 = cv2) := Lib.hid (by rw [hcv2, ← HCV.out, hn']; rfl)
      have HSZ2 : Hid (cv2.size = 18) := Lib.hid (by rw [← HR2.out]; rfl)
      have HONE2 : Hid (cv2.all (·.oneCell') = true) := Lib.hid (by rw [← HR2.out]; exact rC_one _ _ _ _ _ _ _)
      have hB4' := (((HB3.out.set 11 (.int .u32 (x.base : Int))).set 12 (.int .i64 (win : Int))).set 13 (.slice p' n' cap')).alloc (.cells #[.int .u32 (x.base : Int), .int .i64 (win : Int), .slice p' n' cap'] 35)
      rw [← hcv2] at hB4'
      have HB4' := Lib.hid hB4'
      have HE4' := Lib.hid ((((HE3.out.other ⟨w.heap.size, 11, none⟩ (by simp) (.int .u32 (x.base : Int))).other ⟨w.heap.size, 12, none⟩ (by simp) (.int .i64 (win : Int))).other ⟨w.heap.size, 13, none⟩ (by simp) (.slice p' n' cap')).alloc (.cells #[.int .u32 (x.base : Int), .int .i64 (win : Int), .slice p' n' cap'] 35))
      have HK4' := Lib.hid ((((Kept.refl [w.heap.size] w3).set ⟨w.heap.size, 11, none⟩ (.inl (by simp)) (.int .u32 (x.base : Int))).set ⟨w.heap.size, 12, none⟩ (.inl (by simp)) (.int .i64 (win : Int))).set ⟨w.heap.size, 13, none⟩ (.inl (by simp)) (.slice p' n' cap') |>.alloc (.cells #[.int .u32 (x.base : Int), .int .i64 (win : Int), .slice p' n' cap'] 35))
      clear hB4'
      have HC2 := Lib.hid hcv2
      have HN' := Lib.hid hn'
      clear hb3 hown d11 d12 d13 HL HPU hcv2 hn'
      by_cases h3 : sk = 3
      · subst h3
        obtain rfl : sx = iputX0 x block body := by rw [HX.out]; rfl
        obtain rfl : pl = x.L ++ [(block, body)] := by rw [HLX.out]; rfl
        have HSA : Hid (∀ w, RefAt w { x with L := x.L ++ [(block, body)] } p' cap' q cap2 → Calls Try.prog 59 #[.agg cv2, .int .u32 (block : Int)] w (RPost w C win (iputX0 x block body) p' q id)) := Lib.hid (fun w hs => by rw [← HR2.out]; exact HS0.out p' cap' w hs)
        go_wp2_with (refine wpList_load_row rfl 38 _ rfl w.heap.size rfl 38 cv2 (0, 0) _ (by exact HB4'.out) Try.underlying38 rfl (by rw [HSZ2.out]; kernel_rfl) ?_)
        have hk4 := HK4'.out
        have HB4 := HB4'
        have HE4 := HE4'
        generalize hw4 : World.alloc (World.setCell _ _ _) _ = w4 at *
        have hra4 : RefAt w4 { x with L := x.L ++ [(block, body)] } p' cap' q cap2 := refat_gen H.out HRA3.out HNR.out (Near.same _ _) (by simp; omega) hk4
        have HK4 := Lib.hid hk4
        have hs4 := hk4.size
        clear hw4 hk4 z11 z12 z13 fd HB3 HE3 HB4' HE4' HK4'
        refine (HSA.out _ hra4).mono ?_
        rintro e w5 ⟨p2, cp2, q2, cq2, rfl, hra5, hn1, hn2, hb5⟩
        simp only [id_eq]
        have HB5 := Lib.hid (HB4.out.below hb5 (by omega))
        have HE5 := Lib.hid (HE4.out.below hb5 (by omega))
        obtain ⟨cr, hcr⟩ : ∃ cr, cr = rC C win (iputX0 x block body) p2 cp2 q2 cq2 := ⟨_, rfl⟩
        rw [← hcr]
        have HCR := Lib.hid hcr
        have HRZ : Hid (cr.size = 18) := Lib.hid (by rw [hcr]; rfl)
        have HR1 : Hid (cr.all (·.oneCell') = true) := Lib.hid (by rw [hcr]; exact rC_one _ _ _ _ _ _ _)
        have HP := Lib.hid (And.intro hra5 (And.intro hn1 (And.intro hn2 hb5)))
        clear hcr hra5 hn1 hn2 hb5 hra4
        go_wp2_with (first | (refine wpList_store_rowTo rfl 38 _ _ rfl rfl (w.heap.size) cr rfl rfl 38 cv2 (by exact HB5.out) (by rw [HRZ.out]; kernel_rfl) (by rw [HRZ.out]; exact HSZ2.out) HR1.out ?_) | (refine wpList_load_row rfl 38 _ rfl w.heap.size rfl 38 cr (0, 0) _ (by exact HB5.out.row cr) Try.underlying38 rfl (by rw [HRZ.out]; kernel_rfl) ?_) | (refine wpList_store_rowTo rfl 38 _ _ rfl rfl (w.heap.size + 1) cr rfl rfl 38 rZ (by exact HE5.out.rowO (by simp) cr) (by rw [HRZ.out]; kernel_rfl) (by rw [HRZ.out]; exact rfl) HR1.out ?_))
        refine bodyPost_ret (results_I2 rfl _ (.int .i64 3) rfl rfl ((HE5.out.rowO (by simp) cr).row cr) HRZ.out) rfl ?_
        obtain ⟨hra5, hn1, hn2, hb5⟩ := HP.out
        have hk6 : Kept [w.heap.size, w.heap.size + 1] w5 ((w5.setRow w.heap.size cr).setRow (w.heap.size + 1) cr) := ((Kept.refl _ _).setRow _ (.inl (by simp)) _).setRow _ (.inl (by simp)) _
        have hs5 := hb5.size
        have hbf : Below w.heap.size w ((w5.setRow w.heap.size cr).setRow (w.heap.size + 1) cr) := by
          have h1 : Kept [w.heap.size] w w4 := (Kept.of_below HB3W.out _).trans HK4.out (fun y hy => .inl hy)
          have h2 : Below w.heap.size w w5 := (h1.below (Nat.le_refl _) (by simp)).trans (hb5.mono h1.size)
          exact ((Kept.of_below h2 []).trans hk6 (fun y hy => .inr (by simp at hy; omega))).below (Nat.le_refl _) (by simp)
        rw [HCR.out] at hk6 hbf ⊢
        exact rpost_gen H.out (W3 := wc) (by omega) hra5 (Near.trans HNR.out hn1 (by omega)) (fun a ha => (hn2 a ha).imp (fun h => by omega) id) (fun o => .tuple #[o, .int .i64 3]) (by simp; omega) hk6 hbf
      · have b3 : (sk == 3) = false := by rw [beq_eq_false_iff_ne]; exact h3
        obtain rfl : x = sx := by rw [HX.out, if_neg h3]
        obtain rfl : x.L = pl := by rw [HLX.out, if_neg h3]
        go_wp2_with (first | (refine wpList_load_row rfl 38 _ rfl w.heap.size rfl 38 cv2 (0, 0) _ (by exact HB4'.out) Try.underlying38 rfl (by rw [HSZ2.out]; kernel_rfl) ?_) | (refine wpList_store_rowTo rfl 38 _ _ rfl rfl (w.heap.size + 1) cv2 rfl rfl 38 rZ (by exact HE4'.out) (by rw [HSZ2.out]; kernel_rfl) (by rw [HSZ2.out]; exact rfl) HONE2.out ?_))
        have hE6 := HE4'.out
        refine bodyPost_ret (results_I2 rfl _ (.int .i64 sk) rfl rfl (hE6.row cv2) HSZ2.out) rfl ?_
        have hk6 := (HK4'.out.mono (r' := [w.heap.size, w.heap.size + 1]) (fun y hy => .inl (by simp at hy; subst hy; simp))).setRow (w.heap.size + 1) (.inl (by simp)) cv2
        have hbf := ((Kept.of_below HB3W.out []).trans hk6 (fun y hy => .inr (by simp at hy; omega))).below (Nat.le_refl _) (by simp)
        rw [← HR2.out] at hk6 hbf ⊢
        exact rpost_gen H.out (W3 := wc) (by omega) HRA3.out HNR.out (Near.same _ _) (fun o => .tuple #[o, .int .i64 sk]) (by simp; omega) hk6 hbf
end Go.Proofs.Ytdggnhgflfaffaa
