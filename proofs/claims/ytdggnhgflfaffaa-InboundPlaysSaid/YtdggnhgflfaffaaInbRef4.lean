/- lightshipref28: Read -/
import Derived.Test.YtdggnhgflfaffaaInbRef3
namespace Go.Proofs.Ytdggnhgflfaffaa
set_option maxRecDepth 20000
open Go.ChangeShapes Go.WideShapes Go.ChangeAt Go.RowKit
set_option linter.unusedVariables false
set_option linter.unusedSimpArgs false

set_option maxHeartbeats 2000000 in
theorem rread (C : Nat → Int) (win : Nat) (x : Ist) (p : Option Addr) (cap : Nat) (q : Option Addr) (cap2 : Nat) (n : Int) (hn1 : x.s.size ≤ 1048576) (w : World) (h : RefAt w x p cap q cap2) :
    Calls Try.prog 35 #[.agg (rC C win x p cap q cap2), .int .i64 n] w (RPost w C win (rdX x n) p q (fun o => .tuple #[o, .string (rdT x n), .int .i64 (rdK x n)])) := by
  have HEN := Lib.hid (fun w => rended C win x p cap q cap2 w)
  obtain ⟨s, hs⟩ : ∃ s, s = x.s := ⟨_, rfl⟩
  obtain ⟨m, hm⟩ : ∃ m, m = rdM s n := ⟨_, rfl⟩
  have hX2 : rC C win { x with s := s.extract m s.size } p cap q cap2 = (rC C win x p cap q cap2).setIfInBounds 15 (.string (s.extract m s.size)) := rfl
  obtain ⟨c0, c1, c2, c3, c4, c5, c6, c7, c8, c9, c10, c11, c12, c13, c14, c15, c16, c17⟩ := rGet C win x p cap q cap2
  have HSZ : Hid ((rC C win x p cap q cap2).size = 18) := Lib.hid rfl
  have HONE := Lib.hid (rC_one C win x p cap q cap2)
  have H := Lib.hid h
  generalize hcv : rC C win x p cap q cap2 = cv at *
  have HCV := Lib.hid hcv
  clear hcv h
  rw [← hs] at c15 hn1
  clear c0 c1 c2 c3 c4 c5 c6 c7 c8 c9 c10 c11 c12 c13 c14 c16 c17
  have HX : Hid (rdX x n = if n < 1 then x else { x with s := s.extract m s.size }) := Lib.hid (by rw [hm, hs]; rfl)
  have HT : Hid (rdT x n = if n < 1 then ⟨#[]⟩ else s.extract 0 m) := Lib.hid (by rw [hm, hs]; rfl)
  have HKK : Hid (rdK x n = if n < 1 then 1 else if s.size = 0 ∧ endB x = true then 13 else 0) := Lib.hid (by rw [hs]; rfl)
  have HSX := Lib.hid hs
  have HX2 := Lib.hid hX2
  clear hX2
  generalize rdX x n = sx at *
  generalize rdT x n = st at *
  generalize rdK x n = sk at *
  generalize endB x = eb at *
  clear hs
  have HB : Hid (∀ T2 c2, Blk ((w.alloc (.cells cv 38)).alloc (.cells c2 T2)) w.heap.size cv 38) := Lib.hid (fun T2 c2 => (Blk.new _ _ _).alloc _)
  have HE : Hid (∀ c2 c3 T2, Blk ((w.alloc (.cells c3 T2)).alloc (.cells c2 38)) (w.heap.size + 1) c2 38) := Lib.hid (fun c2 c3 T2 => Blk.new' (by simp))
  by_cases h1 : n < 1
  · obtain rfl : x = sx := by rw [HX.out, if_pos h1]
    obtain rfl : st = ⟨#[]⟩ := by rw [HT.out, if_pos h1]
    obtain rfl : sk = 1 := by rw [HKK.out, if_pos h1]
    clear hm hn1
    go_enter Try.func35, Try.ntmps35
    go_wp2_with (first | (refine wpList_load_row rfl 38 _ rfl w.heap.size rfl 38 cv (0, 0) _ (by first | exact HB.out _ _ | exact (HB.out _ _).alloc _) Try.underlying38 rfl (by rw [HSZ.out]; kernel_rfl) ?_) | (refine wpList_store_rowTo rfl 38 _ _ rfl rfl (w.heap.size + 1) cv rfl rfl 38 rZ (by first | exact HE.out rZ _ _ | exact (HE.out rZ _ _).alloc _) (by rw [HSZ.out]; kernel_rfl) (by rw [HSZ.out]; exact rfl) HONE.out ?_))
    refine bodyPost_ret (results_I3 rfl _ (.string ⟨#[]⟩) (.int .i64 1) rfl rfl rfl ((HE.out rZ _ _).row cv) HSZ.out) rfl ?_
    rw [← HCV.out]
    exact rpost_same H.out (below2 _ _ _) (fun o => .tuple #[o, .string ⟨#[]⟩, .int .i64 1]) _ (Nat.le_succ _) _
  · by_cases h0 : s.size = 0
    · have he : s = ⟨#[]⟩ := ByteArray.ext (Array.size_eq_zero_iff.1 h0)
      subst he
      obtain rfl : x = sx := by
        rw [HX.out, if_neg h1, hm]
        have e1 : (⟨#[]⟩ : ByteArray).extract (rdM ⟨#[]⟩ n) (ByteArray.mk #[]).size = x.s := by rw [← HSX.out]; exact ByteArray.ext (Array.size_eq_zero_iff.1 (by simp [ByteArray.extract, ByteArray.size, ByteArray.copySlice]))
        rw [e1]
      obtain rfl : st = ⟨#[]⟩ := by
        rw [HT.out, if_neg h1]
        exact ByteArray.ext (Array.size_eq_zero_iff.1 (by simp [ByteArray.extract, ByteArray.size, ByteArray.copySlice]))
      have b0 : ((⟨#[]⟩ : ByteArray).toList == (⟨#[]⟩ : ByteArray).toList) = true := by simp
      clear hm hn1
      cases eb with
      | false =>
        obtain rfl : sk = 0 := by rw [HKK.out, if_neg h1]; rfl
        go_enter Try.func35, Try.ntmps35
        go_wp2_with (first | (go_at_call 14; refine (HEN.out _).mono ?_; rintro e w' ⟨rfl, rfl⟩) | (refine wpList_load_row rfl 38 _ rfl w.heap.size rfl 38 cv (0, 0) _ (by first | exact HB.out _ _ | exact (HB.out _ _).alloc _) Try.underlying38 rfl (by rw [HSZ.out]; kernel_rfl) ?_) | (refine wpList_store_rowTo rfl 38 _ _ rfl rfl (w.heap.size + 1) cv rfl rfl 38 rZ (by first | exact HE.out rZ _ _ | exact (HE.out rZ _ _).alloc _) (by rw [HSZ.out]; kernel_rfl) (by rw [HSZ.out]; exact rfl) HONE.out ?_))
        refine bodyPost_ret (results_I3 rfl _ (.string ⟨#[]⟩) (.int .i64 0) rfl rfl rfl (((HE.out rZ _ _).alloc _).row cv) HSZ.out) rfl ?_
        rw [← HCV.out]
        exact rpost_same H.out ((below2 _ _ _).alloc (by simp; omega) _) (fun o => .tuple #[o, .string ⟨#[]⟩, .int .i64 0]) _ (Nat.le_succ _) _
      | true =>
        obtain rfl : sk = 13 := by rw [HKK.out, if_neg h1]; rfl
        go_enter Try.func35, Try.ntmps35
        go_wp2_with (first | (go_at_call 14; refine (HEN.out _).mono ?_; rintro e w' ⟨rfl, rfl⟩) | (refine wpList_load_row rfl 38 _ rfl w.heap.size rfl 38 cv (0, 0) _ (by first | exact HB.out _ _ | exact (HB.out _ _).alloc _) Try.underlying38 rfl (by rw [HSZ.out]; kernel_rfl) ?_) | (refine wpList_store_rowTo rfl 38 _ _ rfl rfl (w.heap.size + 1) cv rfl rfl 38 rZ (by first | exact HE.out rZ _ _ | exact (HE.out rZ _ _).alloc _) (by rw [HSZ.out]; kernel_rfl) (by rw [HSZ.out]; exact rfl) HONE.out ?_))
        refine bodyPost_ret (results_I3 rfl _ (.string ⟨#[]⟩) (.int .i64 13) rfl rfl rfl (((HE.out rZ _ _).alloc _).row cv) HSZ.out) rfl ?_
        rw [← HCV.out]
        exact rpost_same H.out ((below2 _ _ _).alloc (by simp; omega) _) (fun o => .tuple #[o, .string ⟨#[]⟩, .int .i64 13]) _ (Nat.le_succ _) _
    · obtain rfl : sx = { x with s := s.extract m s.size } := by rw [HX.out, if_neg h1]
      obtain rfl : st = s.extract 0 m := by rw [HT.out, if_neg h1]
      obtain rfl : sk = 0 := by rw [HKK.out, if_neg h1, if_neg (fun h => h0 h.1)]
      have hne : s ≠ ⟨#[]⟩ := fun e => h0 (by rw [e]; rfl)
      have b0 : (s.toList == (⟨#[]⟩ : ByteArray).toList) = false := by rw [tlist_eq, decide_eq_false hne]
      have b2 : (s.toList != (⟨#[]⟩ : ByteArray).toList) = true := by rw [bne, b0]; rfl
      have b1 : s.toList.isEmpty = false := by
        cases h9 : s.toList.isEmpty with
        | false => rfl
        | true => rw [List.isEmpty_iff.1 h9] at b0; simp at b0
      have b3 : (s.toList == []) = false := by rw [← b0]; simp
      have qm : min n (s.size : Int) = (m : Int) := by rw [hm]; unfold rdM; omega
      have hms : m ≤ s.size := by omega
      have hms2 : (m : Int) ≤ (s.size : Int) := by omega
      clear hm hne
      obtain ⟨cv2, hcv2⟩ : ∃ cv2, cv2 = cv.setIfInBounds 15 (.string (s.extract m s.size)) := ⟨_, rfl⟩
      have HC2 := Lib.hid hcv2
      have HSZ2 : Hid (cv2.size = 18) := Lib.hid (by rw [hcv2, Array.size_setIfInBounds]; exact HSZ.out)
      have HR2 : Hid (rC C win { x with s := s.extract m s.size } p cap q cap2 = cv2) := Lib.hid (by rw [hcv2]; exact HX2.out)
      have HONE2 : Hid (cv2.all (·.oneCell') = true) := Lib.hid (by rw [← HR2.out]; exact rC_one _ _ _ _ _ _ _)
      clear hcv2
      go_enter Try.func35, Try.ntmps35
      go_wp2_with (first | (refine wpList_load_row rfl 38 _ rfl w.heap.size rfl 38 cv2 (0, 0) _ (by rw [HC2.out]; exact (Blk.new _ _ _).alloc _) Try.underlying38 rfl (by rw [HSZ2.out]; kernel_rfl) ?_) | (refine wpList_store_rowTo rfl 38 _ _ rfl rfl (w.heap.size + 1) cv2 rfl rfl 38 rZ (by exact HE.out rZ _ _) (by rw [HSZ2.out]; kernel_rfl) (by rw [HSZ2.out]; exact rfl) HONE2.out ?_))
      refine bodyPost_ret (results_I3 rfl _ (.string (s.extract 0 m)) (.int .i64 0) rfl rfl rfl ((HE.out rZ _ _).row cv2) HSZ2.out) rfl ?_
      have hk6 := (((Kept.refl [] w).alloc (.cells (cv.setIfInBounds 15 (.string (s.extract m s.size))) 38)).alloc (.cells rZ 38)).setRow (w.heap.size + 1) (.inr (Nat.le_succ _)) cv2
      have hbf := hk6.below (Nat.le_refl _) (by simp)
      rw [← HR2.out] at hk6 hbf ⊢
      exact rpost_gen (x' := { x with s := s.extract m s.size }) H.out (W3 := w) (Nat.le_refl _) (w4 := w) ⟨H.out.ro, H.out.ru⟩ (Near.same _ _) (Near.same _ _) (fun o => .tuple #[o, .string (s.extract 0 m), .int .i64 0]) (by simp) hk6 hbf
end Go.Proofs.Ytdggnhgflfaffaa
