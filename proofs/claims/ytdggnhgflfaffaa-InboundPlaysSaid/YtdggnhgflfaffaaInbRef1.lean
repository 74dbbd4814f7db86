/- lightshipref28.saw -/
import Derived.Test.YtdggnhgflfaffaaInbRef
namespace Go.Proofs.Ytdggnhgflfaffaa
set_option maxRecDepth 20000
open Go.ChangeShapes Go.WideShapes Go.ChangeAt Go.RowKit
set_option linter.unusedVariables false
set_option maxHeartbeats 4000000 in
theorem rsaw0 (C : Nat → Int) (win : Nat) (x : Ist) (p : Option Addr) (cap : Nat) (q : Option Addr) (cap2 block : Nat) (hx : block < 4294967296) (hS : x.S.length ≤ 1000) (w : World) (h : RefAt w x p cap q cap2) :
    Calls Try.prog 59 #[.agg (rC C win x p cap q cap2), .int .u32 (block : Int)] w (RPost w C win (noteX x block) p q id) := by
  obtain ⟨i0, hi0, hz0, hz1, hz2⟩ := info_parts u_info
  have H := Lib.hid h
  obtain ⟨n, hn⟩ : ∃ n, n = x.S.length := ⟨_, rfl⟩
  obtain ⟨c0, c1, c2, c3, c4, c5, c6, c7, c8, c9, c10, c11, c12, c13, c14, c15, c16, c17⟩ := rGet C win x p cap q cap2
  rw [← hn] at c14
  have hsrc := h.ru.src
  rw [← hn] at hsrc hS
  have hfit := hsrc.fits
  have hbig := hsrc.big
  unfold maxLen at hbig
  have HSRC := Lib.hid hsrc
  have HN := Lib.hid hn
  generalize hcv : rC C win x p cap q cap2 = cv at *
  have HCV := Lib.hid hcv
  clear h hn hsrc hcv
  go_enter Try.func59, Try.ntmps59
  go_wp2_with (at_builtin; refine wpList_append_src _ rfl (.tmp 6) (.tmp 8) 36 rfl w.heap.size 32 i0 (.int .u32 0) 1 4 Try.underlying36 hi0 hz0 hz1 hz2 rfl (by decide) _ 0 [] rfl (World.ownsRow_nil _ _ _ _) _ n cap2 rfl _ ((HSRC.out.kept ((Kept.refl [] w).alloc _) (by simp)).kept ((Kept.refl [] _).alloc _) (by simp)) (fun u hu => ul_one _ _ hu) (by unfold maxLen; omega) (by omega) (by simp; omega) ?_)
  intro v1 w1 hown1 hg1 hat1
  have hk1 := (Kept.refl [] _).grown hg1 (fun x hx => by simp [Value.ownBlock] at hx)
  generalize hwa : (w.alloc _).alloc _ = wa at *
  have hba : Below w.heap.size w wa := by rw [← hwa]; exact ((Below.refl _ _).alloc (Nat.le_refl _) _).alloc (by simp) _
  have hsza : wa.heap.size = w.heap.size + 2 := by rw [← hwa]; simp
  have hB0 : Blk wa w.heap.size cv 38 := by
    rw [← hwa]
    exact (Blk.new _ _ _).alloc _
  have hB1 : Blk wa (w.heap.size + 1) rZ 38 := by
    rw [← hwa]
    exact Blk.new' (by simp)
  have hB0' := hB0.kept hk1 (by simp)
  have hB1' := hB1.kept hk1 (by simp)
  have HO1 := Lib.hid hown1
  have HK1 := Lib.hid ((Kept.of_below hba []).trans hk1 (fun x hx => .inl hx))
  have HC0 := Lib.hid hB0'
  have HC1 := Lib.hid hB1'
  have hs1 : wa.heap.size ≤ w1.heap.size := hk1.size
  have hr1 : ∀ y ∈ rowOf v1, w.heap.size + 2 ≤ y := fun y hy => by
    rcases rowOf_new hat1 y hy with h | h
    · simp [rowOf, Value.ownBlock] at h
    · omega
  have HR1 := Lib.hid hr1
  clear hwa hba hB0 hB1 hB0' hB1' hown1 hg1 hat1 hk1 hr1
  go_wp2_with (at_builtin; refine wpList_append_src _ rfl (.tmp 10) (.tmp 12) 36 rfl w.heap.size 32 i0 (.int .u32 0) 1 4 Try.underlying36 hi0 hz0 hz1 hz2 rfl (by decide) _ _ _ rfl (HO1.out.alloc _) _ 1 1 rfl _ (src_u w1 (block : Int) 32) (fun u hu => by simp at hu; subst hu; rfl) (by unfold maxLen; omega) (by omega) (by simp; omega) ?_)
  intro v2 w2 hown2 hg2 hat2
  have hk2 : Kept (rowOf v1) w1 w2 := ((Kept.refl _ _).alloc _).grown hg2 (fun y hy => .inl (mem_rowOf hy))
  have hC0 := HC0.out.kept hk2 (fun hm => by have := HR1.out _ hm; omega)
  have hC1 := HC1.out.kept hk2 (fun hm => by have := HR1.out _ hm; omega)
  have hown3 : w2.ownsRow w.heap.size 32 1 v2 (x.S ++ [block]).length (ul (x.S ++ [block])) := by
    rw [ul_app, List.length_append, ← HN.out]
    simpa [ul] using hown2
  have hlo := own_lt hown3
  obtain ⟨q2, qc2, rfl, hru⟩ := RU.of_own hown3
  have HRU := Lib.hid hru
  have HNQ : Hid (∀ a, q2 = some a → w.heap.size + 2 ≤ a.block) := Lib.hid (by
    intro a ha
    rcases hat2 with h1 | h1
    · exact HR1.out a.block (by unfold rowOf; rw [← h1, ha]; simp [Value.ownBlock])
    · simp [Value.ownBlock, ha] at h1
      omega)
  obtain ⟨n2, hn2⟩ : ∃ n2, n2 = (x.S ++ [block]).length := ⟨_, rfl⟩
  rw [← hn2]
  have HN2 := Lib.hid hn2
  have HK2 : Hid (Kept [] w w2) := Lib.hid (HK1.out.trans hk2 (fun y hy => .inr (by have := HR1.out y hy; omega)))
  have hl1 : w.heap.size + 1 < w2.heap.size := hC1.lt
  have HE : Hid (Blk w2 (w.heap.size + 1) rZ 38) := Lib.hid hC1
  have fd := hC0.free
  have e := fun o => hC0.cell o
  have d0 := (e 0).trans c0
  have d1 := (e 1).trans c1
  have d2 := (e 2).trans c2
  have d3 := (e 3).trans c3
  have d4 := (e 4).trans c4
  have d5 := (e 5).trans c5
  have d6 := (e 6).trans c6
  have d7 := (e 7).trans c7
  have d8 := (e 8).trans c8
  have d9 := (e 9).trans c9
  have d10 := (e 10).trans c10
  have d11 := (e 11).trans c11
  have d12 := (e 12).trans c12
  have d13 := (e 13).trans c13
  have d14 := (e 14).trans c14
  have d15 := (e 15).trans c15
  have d16 := (e 16).trans c16
  have d17 := (e 17).trans c17
  clear c0 c1 c2 c3 c4 c5 c6 c7 c8 c9 c10 c11 c12 c13 c14 c15 c16 c17 e hC0 hC1 hown2 hg2 hat2 hk2 HC0 HC1 hown3 hlo hru hn2
  go_wp2_with (refine wpList_store_rowTo rfl 38 _ _ rfl rfl (w.heap.size + 1) _ rfl rfl 38 rZ (by exact HE.out.other _ (by simp) _) (by kernel_rfl) rfl (by kernel_rfl) ?_)
  refine bodyPost_ret (results_cell_row rfl _ _ (w.heap.size + 1) 38 _ (0, 0) _ rfl (setRow_heap _ _ rZ _ _ _ (HE.out.other _ (by simp) _)) Try.underlying38 rfl (by kernel_rfl)) rfl ?_
  have hk3 : Kept [w.heap.size, w.heap.size + 1] w2 ((w2.setCell ⟨w.heap.size, 14, none⟩ (.slice q2 n2 qc2)).setRow (w.heap.size + 1) (rC C win (noteX x block) p cap q2 qc2)) := ((Kept.refl _ _).set _ (.inl (by simp)) _).setRow _ (.inl (by simp)) _
  have hk4 := HK2.out.trans hk3 (fun y hy => .inr (by simp at hy; omega))
  have hnn := HN2.out
  have hq := HNQ.out
  subst hnn
  exact ⟨p, cap, q2, qc2, rfl, ⟨H.out.ro.kept hk4 (by simp), HRU.out.kept hk3 (fun a ha hm => by have := hq a ha; simp at hm; omega)⟩, Near.same _ _, (fun a ha => .inl (by have := hq a ha; omega)), hk4.below (Nat.le_refl _) (by simp)⟩
end Go.Proofs.Ytdggnhgflfaffaa
