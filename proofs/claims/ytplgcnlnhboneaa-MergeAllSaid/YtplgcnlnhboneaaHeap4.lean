/- Contracts of package heap: Push, Pop, Peek. -/
import Derived.Test.YtplgcnlnhboneaaHeap3
import Derived.Deep.AppendLies
namespace Go.Proofs.Ytplgcnlnhboneaa
open Go.ChangeShapes Go.WideShapes Go.ChangeAt Go.RowKit
set_option linter.unusedVariables false

theorem dc_new (w : World) (d : Du) (T : TypeId) : ∀ j u, (dc d)[j]? = some u → (w.alloc (.cells #[.int .i64 d.st, .int .u32 d.bl, .int .i64 d.at_] T)).cell? ((⟨w.heap.size, 0, none⟩ : Addr).add j) = some u := by
  intro j u hu
  rw [add_plain, Nat.zero_add, (Blk.new w _ _).cell j]
  simpa [dc] using hu
theorem dc_one (d : Du) : ∀ u ∈ dc d, u.oneCell' = true := by
  intro u hu
  simp [dc] at hu
  rcases hu with rfl | rfl | rfl <;> rfl
def HActPost (W : World) (b : Nat) (v : Value) (Q : List Du → Prop) (r : Value) (e : Ending) (w' : World) : Prop :=
  e = .returned r ∧ ∃ v' M, HeapAt w' b v' M ∧ IsHeap M ∧ Q M ∧ Kept (b :: rowOf v) W w' ∧ ∀ x ∈ rowOf v', x ∈ rowOf v ∨ W.heap.size ≤ x
set_option maxRecDepth 100000 in
set_option maxHeartbeats 4000000 in
theorem htput (b : Nat) (v : Value) (L : List Du) (d : Du) (w : World) (h : HeapAt w b v L) (hh : IsHeap L) (hl : L.length < 5000) :
    Calls Try.prog 16 #[.pointer (some ⟨b, 0, none⟩), dv d] w (HActPost w b v (fun M => M.Perm (d :: L)) (.tuple #[])) := by
  show Calls Try.prog 16 #[.pointer (some ⟨b, 0, none⟩), .agg #[.int .i64 d.st, .int .u32 d.bl, .int .i64 d.at_]] w _
  obtain ⟨i0, hi, hz0, hz1, hz2⟩ := info_parts d_info
  obtain ⟨p, cap, rfl⟩ := h.form
  have H := Lib.hid h
  have hbl := h.blk.lt
  clear h
  go_enter Try.func16, Try.ntmps16
  go_wp2_with fail
  generalize hw2 : w.alloc _ = w2
  have hH2 : HeapAt w2 b (.slice p L.length cap) L := by rw [← hw2]; exact H.out.kept ((Kept.refl [] w).alloc _) (by simp) (by simp)
  have hK2 : Kept (b :: rowOf (.slice p L.length cap)) w w2 := by rw [← hw2]; exact (Kept.refl _ _).alloc _
  have hB2 : Blk w2 w.heap.size #[.int .i64 d.st, .int .u32 d.bl, .int .i64 d.at_] 30 := by rw [← hw2]; exact Blk.new _ _ _
  clear hw2
  have x0 := hB2.cell 0
  have x1 := hB2.cell 1
  have x2 := hB2.cell 2
  simp at x0 x1 x2
  obtain ⟨c0, c1⟩ := hH2.cells
  have f0 := hH2.blk.free 0
  have H2 := Lib.hid hH2
  have hb2 := hH2.blk.lt
  have hsz2 := hB2.lt
  have HBG : Hid (∀ (O : Obj) (w1 : World), ((w2.alloc O).drew).grownBy w1 (Value.ownBlock (.slice p L.length cap)) → Blk w1 b #[.slice p L.length cap, .func (.func 15) #[] #[]] 48) := Lib.hid fun O w1 hg => by
    refine Blk.grown (w := (w2.alloc O).drew) (Blk.alloc hH2.blk O) hg ?_
    intro e
    have := hH2.own.lt b e.symm
    omega
  clear hH2 hB2
  go_region_law (refine step_append_lies _ rfl (.tmp 8) (.tmp 10) 24 rfl (b + 1) 30 i0 (.agg #[.int .i64 0, .int .u32 0, .int .i64 0]) 3 24 Try.underlying24 hi hz0 hz1 hz2 rfl (by decide) (.slice p L.length cap) L.length (dl L) (by simp [Act.eval]) ((H2.out.own.alloc _).drew) ⟨w2.heap.size, 0, none⟩ 1 1 (dc d) (by simp [Act.eval]) (by simp [dc]) (by exact dc_new _ _ _) (dc_one d) (by omega) (by unfold maxLen; omega) (by omega) (by simp; omega) (w2.heap.size + 1) (by simp) ?_; intro g cap' w1 hown1 hgrow hat hlt; have hB1 := HBG.out _ _ hgrow; have e0 := hB1.cell 0; have g0 := hB1.free 0; simp at e0)
  all_goals
    have hne : b ≠ g := by
      rcases hat with h | h
      · have := H2.out.own.lt g h; omega
      · omega
    have hG : HeapG (w1.setCell ⟨b, 0, none⟩ (.slice (some ⟨g, 0, none⟩) (L.length + 1) cap')) b g (L.length + 1) cap' (L ++ [d]) := by
      refine ⟨⟨hB1.set 0 _, ?_, by simp; omega⟩, by simp⟩
      have h3 := own_kept (r := [b]) hown1 ((Kept.refl [b] _).set ⟨b, 0, none⟩ (.inl (by simp)) (.slice (some ⟨g, 0, none⟩) (L.length + 1) cap')) (fun z hz => by have := (own_lt hown1 z hz).1; simp; omega)
      rw [dl_app, List.length_append]
      rw [show dl [d] = dc d by simp [dl]]
      exact h3
    have hk1 : Kept (b :: rowOf (.slice p L.length cap)) w (w1.setCell ⟨b, 0, none⟩ (.slice (some ⟨g, 0, none⟩) (L.length + 1) cap')) := ((Kept.drew (hK2.alloc _)).grown hgrow (fun x hx => .inl (List.mem_cons_of_mem _ (mem_rowOf hx)))).set _ (.inl (by simp)) _
    have hgw : g ∈ b :: rowOf (.slice p L.length cap) ∨ w.heap.size ≤ g := by
      rcases hat with h | h
      · exact .inl (List.mem_cons_of_mem _ (mem_rowOf h))
      · right; omega
    have HX := Lib.hid (And.intro hG (And.intro hk1 hgw))
    clear hG hk1 hgw hown1 hgrow hat hB1 c0 c1 f0 x0 x1 x2 e0 g0 HBG hK2
    go_wp2_with fail
    refine (hup b g (L.length + 1) cap' (L ++ [d]) _ HX.out.1 (by rw [Nat.add_sub_cancel]; exact up_start L d hh)).mono ?_
    rintro e w3 ⟨rfl, M, hG3, hP3, hH3, hK3⟩
    go_wp2_with fail
    go_returns
    refine ⟨rfl, _, M, hG3.1, hH3, hP3.trans (List.perm_append_singleton _ _), HX.out.2.1.trans hK3 (fun x hx => by simp at hx; rw [hx]; exact HX.out.2.2), fun x hx => ?_⟩
    simp [rowOf, Value.ownBlock] at hx
    rw [hx]
    rcases HX.out.2.2 with h | h
    · rcases List.mem_cons.1 h with h2 | h2
      · omega
      · exact .inl h2
    · exact .inr h
theorem hpush_nil (d : Du) (w : World) : Calls Try.prog 12 #[.pointer none, dv d] w fun e w' => e = .returned (.tuple #[]) ∧ Below w.heap.size w w' := by
  show Calls Try.prog 12 #[.pointer none, .agg #[.int .i64 d.st, .int .u32 d.bl, .int .i64 d.at_]] w _
  go_enter Try.func12, Try.ntmps12
  go_wp2
  go_returns
  exact ⟨rfl, by go_grown⟩
set_option maxRecDepth 100000 in
set_option maxHeartbeats 2000000 in
theorem hpush (b : Nat) (v : Value) (L : List Du) (d : Du) (w : World) (h : HeapAt w b v L) (hh : IsHeap L) (hl : L.length < 5000) :
    Calls Try.prog 12 #[.pointer (some ⟨b, 0, none⟩), dv d] w (HActPost w b v (fun M => M.Perm (d :: L)) (.tuple #[])) := by
  show Calls Try.prog 12 #[.pointer (some ⟨b, 0, none⟩), .agg #[.int .i64 d.st, .int .u32 d.bl, .int .i64 d.at_]] w _
  have H := Lib.hid h
  clear h
  go_enter Try.func12, Try.ntmps12
  go_wp2_with fail
  generalize hw2 : w.alloc _ = w2
  have hH2 : HeapAt w2 b v L := by rw [← hw2]; exact H.out.kept ((Kept.refl [] w).alloc _) (by simp) (by simp)
  have hK2 : Kept (b :: rowOf v) w w2 := by rw [← hw2]; exact (Kept.refl _ _).alloc _
  have hB2 : Blk w2 w.heap.size #[.int .i64 d.st, .int .u32 d.bl, .int .i64 d.at_] 30 := by rw [← hw2]; exact Blk.new _ _ _
  have hs2 : w.heap.size ≤ w2.heap.size := hK2.size
  clear hw2
  have x0 := hB2.cell 0
  have x1 := hB2.cell 1
  have x2 := hB2.cell 2
  simp at x0 x1 x2
  have H2 := Lib.hid hH2
  have HP := Lib.hid (fun w h => htput b v L d w h hh hl)
  clear hH2 hB2
  go_region_with (go_at_call 16; refine (HP.out _ (by first | exact H2.out | exact H2.out.kept ((Kept.refl [] _).drew) (by simp) (by simp))).mono ?_; rintro e w3 ⟨rfl, v', M, hH3, hI3, hP3, hK3, hr3⟩)
  have HX := Lib.hid (And.intro hH3 (And.intro hI3 (And.intro hP3 (And.intro hK3 hr3))))
  clear hH3 hI3 hP3 hK3 hr3 x0 x1 x2
  go_wp2_with fail
  go_returns
  obtain ⟨hH3, hI3, hP3, hK3, hr3⟩ := HX.out
  exact ⟨rfl, v', M, hH3, hI3, hP3, (Kept.drew hK2).trans hK3 (fun x hx => .inl hx), fun x hx => by rcases hr3 x hx with h | h; (exact .inl h); (right; exact Nat.le_trans hs2 (by exact h))⟩
end Go.Proofs.Ytplgcnlnhboneaa
