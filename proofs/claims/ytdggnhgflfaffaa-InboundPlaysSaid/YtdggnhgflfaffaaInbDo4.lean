/- lightshiplaw28: do -/
import Derived.Test.YtdggnhgflfaffaaInbRef2
import Derived.Test.YtdggnhgflfaffaaInbRef4
import Derived.Test.YtdggnhgflfaffaaInbRef5
import Derived.Test.YtdggnhgflfaffaaInbRef6
import Derived.Test.YtdggnhgflfaffaaInbRef7
import Derived.Test.YtdggnhgflfaffaaInbDo
namespace Go.Proofs.Ytdggnhgflfaffaa
set_option maxRecDepth 20000
open Go.ChangeShapes Go.WideShapes Go.ChangeAt Go.RowKit
set_option linter.unusedVariables false
set_option linter.unusedSimpArgs false

set_option maxHeartbeats 4000000 in
theorem do4 (C : Nat → Int) (win que b : Nat) (R : List Nat) (x : Ist) (p : Option Addr) (cap : Nat) (q : Option Addr) (cap2 : Nat) (X K : Int) (n : Int) (body : ByteArray) (hs : x.s.size ≤ 1048576) (hK : K ≠ 0 ∧ K ≠ 1 ∧ K ≠ 2 ∧ K ≠ 3) (w : World) (hi : In w b R win que C x) (h : RefAt w x p cap q cap2) (hp : ∀ a, p = some a → a.block ∉ R) (hq : ∀ a, q = some a → a.block ∉ R) :
    Calls Try.prog 10 #[.pointer (some ⟨b, 0, none⟩), .agg (rC C win x p cap q cap2), .agg #[.int .i64 K, .int .u32 X, .string body, .int .i64 n]] w (DPost w b R p q win que C (rdX x n)) := by
  have HRS := Lib.hid (fun w hs' => rread C win x p cap q cap2 n hs w hs')
  have HIS := Lib.hid (fun w hs' => iread b R win que C x n w hs')
  have H := Lib.hid h
  have HI := Lib.hid hi
  have HPQ := Lib.hid (And.intro hp hq)
  have HSZ : Hid ((rC C win x p cap q cap2).size = 18) := Lib.hid rfl
  generalize rC C win x p cap q cap2 = cv at *
  generalize rdX x n = x' at *
  generalize rdK x n = kk at *
  generalize rdT x n = st at *
  clear h hi hp hq hs
  have k0 : (K == 0) = false := by rw [beq_eq_false_iff_ne]; exact hK.1
  have k1 : (K == 1) = false := by rw [beq_eq_false_iff_ne]; exact hK.2.1
  have k2 : (K == 2) = false := by rw [beq_eq_false_iff_ne]; exact hK.2.2.1
  have k3 : (K == 3) = false := by rw [beq_eq_false_iff_ne]; exact hK.2.2.2
  clear hK
  go_enter Try.func10, Try.ntmps10
  go_wp2_with (refine wpList_load_row rfl 38 _ rfl (w.heap.size) rfl 38 cv (0, 0) _ (by exact ((Blk.new _ _ _).alloc _).alloc _) Try.underlying38 rfl (by rw [HSZ.out]; kernel_rfl) ?_)
  generalize hwa : ((w.alloc _).alloc _).alloc _ = wa
  have hba : Below w.heap.size w wa := by rw [← hwa]; exact below3 _ _ _ _
  have hsza : wa.heap.size = w.heap.size + 3 := by rw [← hwa]; simp
  have hD : Blk wa (w.heap.size + 1) #[.int .i64 K, .int .u32 X, .string body, .int .i64 n] 41 := by
    rw [← hwa]
    exact (Blk.new' (by simp)).alloc _
  have hE : Blk wa (w.heap.size + 2) rZ 38 := by
    rw [← hwa]
    exact Blk.new' (by simp)
  have hraa := H.out.below hba
  refine (HRS.out _ hraa).mono ?_
  rintro e w1 ⟨p', cap', q', cap2', rfl, hra, hn1, hn2, hb1⟩
  obtain ⟨cr, hcr⟩ : ∃ cr, cr = rC C win x' p' cap' q' cap2' := ⟨_, rfl⟩
  rw [← hcr]
  have HCR := Lib.hid hcr
  have HRZ : Hid (cr.size = 18) := Lib.hid (by rw [hcr]; rfl)
  have HRO : Hid (cr.all (·.oneCell') = true) := Lib.hid (by rw [hcr]; exact rC_one _ _ _ _ _ _ _)
  have HD := Lib.hid (hD.below hb1 (by omega))
  have HE := Lib.hid (hE.below hb1 (by omega))
  have HI1 := Lib.hid (HI.out.kept ((Kept.of_below hba []).trans (Kept.of_below hb1 []) (fun x hx => .inl hx)) (by simp))
  have HP := Lib.hid (And.intro hra (And.intro hn1 hn2))
  have HBW : Hid (Below w.heap.size w w1) := Lib.hid (hba.trans (hb1.mono (by omega)))
  have hs1 : wa.heap.size ≤ w1.heap.size := hb1.size
  have d1 : w1.cell? ⟨w.heap.size + 1, 3, none⟩ = some (.int .i64 n) := HD.out.cell 3
  clear hba hwa hD hE hraa hcr hra hn1 hn2 hb1
  have d3' : ((w1.alloc (.cells rZ 38)).setRow w1.heap.size cr).cell? ⟨w.heap.size + 1, 3, none⟩ = some (.int .i64 n) := (((Kept.refl [] w1).alloc _).setRow _ (.inr (Nat.le_refl _)) _).cell d1 (by simp)
  unfold rZ at d3'
  go_wp2_with (refine wpList_store_rowTo rfl 38 _ _ rfl rfl (w1.heap.size) cr rfl rfl 38 rZ (by exact Blk.new _ _ _) (by rw [HRZ.out]; kernel_rfl) (by rw [HRZ.out]; exact rfl) HRO.out ?_)
  generalize hw2 : World.setRow _ _ _ = w2
  have HB8 : Hid (Blk w2 w1.heap.size cr 38) := Lib.hid (by rw [← hw2]; exact (Blk.new _ _ _).row cr)
  have hk2 : Kept [] w1 w2 := by rw [← hw2]; exact ((Kept.refl _ _).alloc _).setRow _ (.inr (Nat.le_refl _)) _
  have HK2 := Lib.hid hk2
  have e1 := hk2.cell d1 (by simp)
  have HE2 := Lib.hid (HE.out.kept hk2 (by simp))
  have HD2 := Lib.hid (HD.out.kept hk2 (by simp))
  have hs2 := hk2.size
  have hl8 := HB8.out.lt
  clear hw2 hk2 d3'
  refine (HIS.out _ (HI1.out.kept HK2.out (by simp))).mono ?_
  rintro e w4 ⟨rfl, R', hi', hk', hR'⟩
  have hnR : ∀ y, w.heap.size ≤ y → y ∉ R := fun y hy hm => by have := HI.out.lt y hm; omega
  have HB9 := Lib.hid (HB8.out.kept hk' (hnR _ (by have := HBW.out.size; omega)))
  have HE4 := Lib.hid (HE2.out.kept hk' (hnR _ (by omega)))
  have HPP := Lib.hid (And.intro hi' (And.intro hk' hR'))
  have bk : (kk == kk) = true := by simp
  have bs : (st.toList == st.toList) = true := by simp
  clear hi' hk' hR' hnR
  go_wp2_with (first | (refine wpList_load_row rfl 38 _ rfl (w1.heap.size) rfl 38 cr (0, 0) _ (by exact HB9.out) Try.underlying38 rfl (by rw [HRZ.out]; kernel_rfl) ?_) | (refine wpList_store_rowTo rfl 38 _ _ rfl rfl (w.heap.size + 2) cr rfl rfl 38 rZ (by exact HE4.out) (by rw [HRZ.out]; kernel_rfl) (by rw [HRZ.out]; exact rfl) HRO.out ?_))
  obtain ⟨hi', hk', hR'⟩ := HPP.out
  refine bodyPost_ret (results_I2 rfl _ (.bool true) (by kernel_rfl) (by kernel_rfl) (HE4.out.row cr) HRZ.out) rfl ?_
  rw [HCR.out]
  exact do_end HI.out H.out HPQ.out hsza hs1 HP.out.1 HP.out.2.1 HP.out.2.2 HBW.out HK2.out hi' hk' hR' _
end Go.Proofs.Ytdggnhgflfaffaa
