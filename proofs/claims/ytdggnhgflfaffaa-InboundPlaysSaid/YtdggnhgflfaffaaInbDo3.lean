/- lightshiplaw28: do -/
import Derived.Test.YtdggnhgflfaffaaInbRef2
import Derived.Test.YtdggnhgflfaffaaInbRef4
import Derived.Test.YtdggnhgflfaffaaInbRef5
import Derived.Test.YtdggnhgflfaffaaInbRef6
import Derived.Test.YtdggnhgflfaffaaInbRef7
import Derived.Test.YtdggnhgflfaffaaInbDo
namespace Go.Proofs.Ytdggnhgflfaffaa
set_option maxRecDepth 20000
open Go.ChangeShapes Go.WideShapes Go.ChangeAt Go.RowKit
set_option linter.unusedVariables false
set_option linter.unusedSimpArgs false

set_option maxHeartbeats 4000000 in
theorem do3 (C : Nat → Int) (win que k b : Nat) (R : List Nat) (x : Ist) (p : Option Addr) (cap : Nat) (q : Option Addr) (cap2 : Nat) (X : Int) (N : Int) (body : ByteArray) (hf : Fine x win que k) (hs : x.s.size ≤ que) (hque : C 5 = (que : Int)) (w : World) (hi : In w b R win que C x) (h : RefAt w x p cap q cap2) (hp : ∀ a, p = some a → a.block ∉ R) (hq : ∀ a, q = some a → a.block ∉ R) :
    Calls Try.prog 10 #[.pointer (some ⟨b, 0, none⟩), .agg (rC C win x p cap q cap2), .agg #[.int .i64 3, .int .u32 X, .string body, .int .i64 N]] w (DPost w b R p q win que C (delX que x)) := by
  have HRS := Lib.hid (fun w hs' => rdeliver C win que k x p cap q cap2 hf hs hque w hs')
  have HIS := Lib.hid (fun w hs' => ideliver b R win que k C x hf w hs')
  have H := Lib.hid h
  have HI := Lib.hid hi
  have HPQ := Lib.hid (And.intro hp hq)
  have HSZ : Hid ((rC C win x p cap q cap2).size = 18) := Lib.hid rfl
  generalize rC C win x p cap q cap2 = cv at *
  generalize (((delX que x).s.size - x.s.size : Nat) : Int) = kk at *
  generalize delX que x = x' at *
  clear h hi hp hq hf hs hque
  go_enter Try.func10, Try.ntmps10
  go_wp2_with (refine wpList_load_row rfl 38 _ rfl (w.heap.size) rfl 38 cv (0, 0) _ (by exact ((Blk.new _ _ _).alloc _).alloc _) Try.underlying38 rfl (by rw [HSZ.out]; kernel_rfl) ?_)
  generalize hwa : ((w.alloc _).alloc _).alloc _ = wa
  have hba : Below w.heap.size w wa := by rw [← hwa]; exact below3 _ _ _ _
  have hsza : wa.heap.size = w.heap.size + 3 := by rw [← hwa]; simp
  have hD : Blk wa (w.heap.size + 1) #[.int .i64 3, .int .u32 X, .string body, .int .i64 N] 41 := by
    rw [← hwa]
    exact (Blk.new' (by simp)).alloc _
  have hE : Blk wa (w.heap.size + 2) rZ 38 := by
    rw [← hwa]
    exact Blk.new' (by simp)
  have hraa := H.out.below hba
  refine (HRS.out _ hraa).mono ?_
  rintro e w1 ⟨p', cap', q', cap2', rfl, hra, hn1, hn2, hb1⟩
  obtain ⟨cr, hcr⟩ : ∃ cr, cr = rC C win x' p' cap' q' cap2' := ⟨_, rfl⟩
  rw [← hcr]
  have HCR := Lib.hid hcr
  have HRZ : Hid (cr.size = 18) := Lib.hid (by rw [hcr]; rfl)
  have HRO : Hid (cr.all (·.oneCell') = true) := Lib.hid (by rw [hcr]; exact rC_one _ _ _ _ _ _ _)
  have HD := Lib.hid (hD.below hb1 (by omega))
  have HE := Lib.hid (hE.below hb1 (by omega))
  have HI1 := Lib.hid (HI.out.kept ((Kept.of_below hba []).trans (Kept.of_below hb1 []) (fun x hx => .inl hx)) (by simp))
  have HP := Lib.hid (And.intro hra (And.intro hn1 hn2))
  have HBW : Hid (Below w.heap.size w w1) := Lib.hid (hba.trans (hb1.mono (by omega)))
  have hs1 : wa.heap.size ≤ w1.heap.size := hb1.size
  have d1 : w1.cell? ⟨w.heap.size + 1, 1, none⟩ = some (.int .u32 X) := HD.out.cell 1
  clear hba hwa hD hE hraa hcr hra hn1 hn2 hb1
  go_wp2_with (refine wpList_store_rowTo rfl 38 _ _ rfl rfl (w1.heap.size) cr rfl rfl 38 rZ (by exact Blk.new _ _ _) (by rw [HRZ.out]; kernel_rfl) (by rw [HRZ.out]; exact rfl) HRO.out ?_)
  generalize hw2 : World.setRow _ _ _ = w2
  have HB8 : Hid (Blk w2 w1.heap.size cr 38) := Lib.hid (by rw [← hw2]; exact (Blk.new _ _ _).row cr)
  have hk2 : Kept [] w1 w2 := by rw [← hw2]; exact ((Kept.refl _ _).alloc _).setRow _ (.inr (Nat.le_refl _)) _
  have HK2 := Lib.hid hk2
  have e1 := hk2.cell d1 (by simp)
  have HE2 := Lib.hid (HE.out.kept hk2 (by simp))
  have HD2 := Lib.hid (HD.out.kept hk2 (by simp))
  have hs2 := hk2.size
  have hl8 := HB8.out.lt
  clear hw2 hk2
  refine wp_region_held_drew (S := fun w' => Blk w' w1.heap.size cr 38 ∧ Blk w' (w.heap.size + 1) #[.int .i64 3, .int .u32 X, .string body, .int .i64 N] 41) (by kernel_rfl) ⟨HB8.out.drew, HD2.out.drew⟩ (fun hHeld => ?_)
  refine wpAnyH_take (i := 0) (v := .agg cr) rfl (by kernel_rfl) (by kernel_rfl) (by kernel_rfl) (fun _ _ _ h => h) (Or.inl ⟨by rfl, fun w' hS => run_load_I _ rfl _ rfl hS.1 HRZ.out⟩) hHeld ?_
  refine wpAnyH_take (i := 1) (v := .pointer (some ⟨b, 0, none⟩)) rfl (by kernel_rfl) (by kernel_rfl) (by kernel_rfl) (fun _ _ _ h => h) (Or.inl ⟨by rfl, fun _ _ => rfl⟩) hHeld ?_
  refine wpAnyH_take (i := 3) (v := .int .i64 kk) rfl (by kernel_rfl) (by kernel_rfl) (by kernel_rfl) (fun _ _ _ h => h) (Or.inl ⟨by rfl, fun _ _ => rfl⟩) hHeld ?_
  refine any_call 2 (by kernel_rfl) rfl (by rfl) 25 #[.pointer (some ⟨b, 0, none⟩)] (by kernel_rfl) (HIS.out _ (HI1.out.kept (HK2.out.drew) (by simp))) ?_
  rintro e w4 ⟨rfl, R', hi', hk', hR'⟩
  have hnR : ∀ y, w.heap.size ≤ y → y ∉ R := fun y hy hm => by have := HI.out.lt y hm; omega
  refine ⟨_, rfl, ⟨HB8.out.drew.kept hk' (hnR _ (by have := HBW.out.size; omega)), HD2.out.drew.kept hk' (hnR _ (by omega))⟩, fun hHeld4 => ?_⟩
  refine wpAnyH_take (i := 4) (v := .bool (kk == kk)) rfl (by kernel_rfl) (by kernel_rfl) (by kernel_rfl) (fun _ _ _ h => h) (Or.inl ⟨by rfl, fun _ _ => by kernel_rfl⟩) hHeld4 ?_
  have hE4 := HE2.out.drew.kept hk' (hnR _ (by omega))
  have hS5 : Blk (w4.setRow (w.heap.size + 2) cr) w1.heap.size cr 38 ∧ Blk (w4.setRow (w.heap.size + 2) cr) (w.heap.size + 1) #[.int .i64 3, .int .u32 X, .string body, .int .i64 N] 41 := ⟨hHeld4.1.rowO (by omega) cr, hHeld4.2.rowO (by omega) cr⟩
  refine any_store 5 (by kernel_rfl) rfl (by rfl) (.tmp 6) (.tmp 82) (by rfl) (w.heap.size + 2) cr rZ (by kernel_rfl) (by kernel_rfl) hE4 HRZ.out (by rfl) HRO.out hS5 (fun hHeld5 => ?_)
  refine wpAnyH_take (i := 6) (v := .bool (kk == kk)) rfl (by kernel_rfl) (by kernel_rfl) (by kernel_rfl) (fun _ _ _ h => h) (Or.inl ⟨by rfl, fun _ _ => by kernel_rfl⟩) hHeld5 ?_
  refine wpAnyH_done (by kernel_rfl) ?_ _
  generalize hA : Act.put _ _ _ = A
  have h6 : A.tmps.getD 6 undef = .pointer (some ⟨w.heap.size + 2, 0, none⟩) := by rw [← hA]; kernel_rfl
  have h7 : A.tmps.getD 7 undef = .bool (kk == kk) := by rw [← hA]; kernel_rfl
  have hd : A.defers = [] := by rw [← hA]; rfl
  clear hA
  go_wp2_with fail
  refine bodyPost_ret (results_I2 rfl _ (.bool (kk == kk)) h6 h7 (hE4.row cr) HRZ.out) hd ?_
  rw [show (kk == kk) = true by simp, HCR.out]
  exact do_end HI.out H.out HPQ.out hsza hs1 HP.out.1 HP.out.2.1 HP.out.2.2 HBW.out HK2.out.drew hi' hk' hR' _
end Go.Proofs.Ytdggnhgflfaffaa
