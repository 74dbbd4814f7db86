/- Contracts of lightshipref15: Mark, Slide. -/
import Derived.Test.YtappolgfkioihaaWinRef
namespace Go.Proofs.Ytappolgfkioihaa
open Go.ChangeShapes Go.WideShapes Go.ChangeAt Go.RowKit
set_option linter.unusedVariables false

theorem RU.al {w : World} {p : Option Addr} {cap : Nat} {L : List Nat} (h : RU w p cap L) (o : Obj) : RU (w.alloc o) p cap L := h.kept ((Kept.refl [] w).alloc o) (by simp)
set_option maxRecDepth 100000 in
set_option maxHeartbeats 2000000 in
theorem rmark_any (base n : Nat) (p : Option Addr) (cap : Nat) (L : List Nat) (x : Nat) (hL : L.length ≤ 1000) (hb : base < 4294967296) (hx : x < 4294967296) (w : World) (hs : RU w p cap L) :
    Calls Try.prog 8 #[.agg #[.int .u32 (base : Int), .int .i64 (n : Int), .slice p L.length cap], .int .u32 (x : Int)] w (RWPost w base n p (mkL base n L x) (mkK base n L x)) := by
  obtain ⟨i0, hi, hz0, hz1, hz2⟩ := info_parts u_info
  have hmax := hs.src.big
  unfold maxLen at hmax
  have HL := Lib.hid (fun w => refLess (x : Int) (base : Int) (by omega) (by omega) (by omega) (by omega) w)
  have HW := Lib.hid (fun w => refWithin (x : Int) (base : Int) (n : Int) (by omega) (by omega) (by omega) (by omega) w)
  have HI := Lib.hid (fun w hs => rin_any p cap L x hx w hs)
  have HS := Lib.hid hs
  cases k1 : lessB x base with
  | true =>
    have e : mkK base n L x = 0 := by unfold mkK markK; rw [if_pos k1]
    have e2 : mkL base n L x = L := by unfold mkL; rw [e, if_neg (by decide)]
    rw [e, e2]
    rw [k1] at HL
    clear k1 hs e e2
    go_enter Try.func8, Try.ntmps8
    go_wp2_with (go_at_call 18; refine (HL.out _).mono ?_; rintro e w' ⟨rfl, rfl⟩)
    go_returns
    exact ⟨p, cap, rfl, (HS.out.al _).al _, Near.same _ _, by go_grown⟩
  | false =>
    have k2 : keyIn base n x = withinB (x : Int) (base : Int) (n : Int) := rfl
    rw [k1] at HL
    cases k3 : keyIn base n x with
    | false =>
      rw [k3] at k2
      rw [← k2] at HW
      have e : mkK base n L x = 1 := by unfold mkK markK; rw [if_neg (by simp [k1]), if_pos k3]
      have e2 : mkL base n L x = L := by unfold mkL; rw [e, if_neg (by decide)]
      rw [e, e2]
      clear k1 k2 k3 hs e e2
      go_enter Try.func8, Try.ntmps8
      go_wp2_with (first | (go_at_call 18; refine (HL.out _).mono ?_; rintro e w' ⟨rfl, rfl⟩) | (go_at_call 19; refine (HW.out _).mono ?_; rintro e w' ⟨rfl, rfl⟩))
      go_returns
      exact ⟨p, cap, rfl, (HS.out.al _).al _, Near.same _ _, by go_grown⟩
    | true =>
      rw [k3] at k2
      rw [← k2] at HW
      cases k4 : inL L x with
      | true =>
        have e : mkK base n L x = 2 := by unfold mkK markK; rw [if_neg (by simp [k1]), if_neg (by simp [k3]), if_pos k4]
        have e2 : mkL base n L x = L := by unfold mkL; rw [e, if_neg (by decide)]
        rw [e, e2]
        rw [k4] at HI
        clear k1 k2 k3 k4 hs e e2
        go_enter Try.func8, Try.ntmps8
        go_wp2_with (first | (go_at_call 18; refine (HL.out _).mono ?_; rintro e w' ⟨rfl, rfl⟩) | (go_at_call 19; refine (HW.out _).mono ?_; rintro e w' ⟨rfl, rfl⟩) | (go_at_call 14; refine (HI.out _ ((HS.out.al _).al _)).mono ?_; rintro e w' ⟨rfl, rfl⟩))
        go_returns
        exact ⟨p, cap, rfl, (HS.out.al _).al _, Near.same _ _, by go_grown⟩
      | false =>
        have e : mkK base n L x = 3 := by unfold mkK markK; rw [if_neg (by simp [k1]), if_neg (by simp [k3]), if_neg (by simp [k4])]
        have e2 : mkL base n L x = L ++ [x] := by unfold mkL; rw [e, if_pos rfl]
        rw [e, e2]
        rw [k4] at HI
        have hfit := hs.src.fits
        clear k1 k2 k3 k4 hs e e2
        go_enter Try.func8, Try.ntmps8
        go_wp2_with (first | (go_at_call 18; refine (HL.out _).mono ?_; rintro e w' ⟨rfl, rfl⟩) | (go_at_call 19; refine (HW.out _).mono ?_; rintro e w' ⟨rfl, rfl⟩) | (go_at_call 14; refine (HI.out _ ((HS.out.al _).al _)).mono ?_; rintro e w' ⟨rfl, rfl⟩) | (at_builtin; refine wpList_append_src _ rfl (.tmp 28) (.tmp 30) 29 rfl w.heap.size 22 i0 (.int .u32 0) 1 4 Try.underlying29 hi hz0 hz1 hz2 rfl (by decide) _ 0 [] rfl (World.ownsRow_nil _ _ _ _) _ L.length cap rfl _ ((HS.out.al _).al _).src (ul_one _) (by unfold maxLen; omega) (by omega) (by simp; omega) ?_))
        intro v2 w2 hown2 hg2 hat2
        have hB6 : Blk w2 w.heap.size #[.int .u32 (base : Int), .int .i64 (n : Int), .slice p L.length cap] 31 := Blk.grown (Blk.alloc (Blk.new _ _ _) _) hg2 (by simp [Value.ownBlock])
        have hB7 : Blk w2 (w.heap.size + 1) #[.int .u32 0, .int .i64 0, .slice none 0 0] 31 := Blk.grown (Blk.new' (by simp)) hg2 (by simp [Value.ownBlock])
        have hk4 : Kept [] w w2 := (((Kept.refl [] _).alloc _).alloc _).grown hg2 (fun x hx => by simp [Value.ownBlock] at hx)
        have hsz4 : w.heap.size + 2 ≤ w2.heap.size := by have := hg2.size; simpa using this
        have hr2 : ∀ x ∈ rowOf v2, w.heap.size + 2 ≤ x := fun x hx => by
          rcases rowOf_new hat2 x hx with h | h
          · simp [rowOf, Value.ownBlock] at h
          · simpa using h
        have HK4 := Lib.hid hk4
        have HO2 := Lib.hid hown2
        have HR2 := Lib.hid hr2
        have HB6 := Lib.hid hB6
        have HB7 := Lib.hid hB7
        clear hown2 hg2 hat2 hk4 hB6 hB7 hr2
        go_wp2_with (at_builtin; refine wpList_append_src _ rfl (.tmp 32) (.tmp 34) 29 rfl w.heap.size 22 i0 (.int .u32 0) 1 4 Try.underlying29 hi hz0 hz1 hz2 rfl (by decide) _ _ _ rfl (HO2.out.alloc _) _ 1 1 rfl _ (src_u w2 _ _) (fun u hu => by simp at hu; subst hu; rfl) (by unfold maxLen; omega) (by omega) (by simp; omega) ?_)
        intro v3 w3 hown3 hg3 hat3
        have hk5 : Kept [] w w3 := (HK4.out.alloc _).grown hg3 (fun x hx => .inr (by have := HR2.out x (mem_rowOf hx); omega))
        have hk52 : Kept (rowOf v2) w2 w3 := ((Kept.refl _ _).alloc _).grown hg3 (fun x hx => .inl (mem_rowOf hx))
        have hB8 := HB6.out.kept hk52 (fun hm => by have := HR2.out _ hm; omega)
        have hB9 := HB7.out.kept hk52 (fun hm => by have := HR2.out _ hm; omega)
        have hr3 : ∀ x ∈ rowOf v3, w.heap.size + 2 ≤ x := fun x hx => by
          rcases rowOf_new hat3 x hx with h | h
          · exact HR2.out x h
          · have h2 : w2.heap.size + 1 ≤ x := by simpa using h
            omega
        obtain ⟨g3, cap3, hv3, hg31, hg32⟩ := hown3.form (by omega)
        subst hv3
        have x0 := hB8.cell 0
        have x1 := hB8.cell 1
        have x2 := hB8.cell 2
        have g2 := hB8.free 2
        have z0 := hB9.free 0
        have z1 := hB9.free 1
        have z2 := hB9.free 2
        have y0 := hB9.cell 0
        have y1 := hB9.cell 1
        have y2 := hB9.cell 2
        simp at x0 x1 x2 y0 y1 y2
        have HK5 := Lib.hid hk5
        have HO3 := Lib.hid hown3
        have HR3 := Lib.hid hr3
        have HB9 := Lib.hid hB9
        clear hown3 hg3 hat3 hk5 hk52 hB8 hB9 hr3
        go_wp2
        generalize hwf : (((World.setCell _ _ _).setCell _ _).setCell _ _) = wf
        have hBf : Blk wf (w.heap.size + 1) #[.int .u32 (base : Int), .int .i64 (n : Int), .slice (some ⟨g3, 0, none⟩) (L.length + 1) cap3] 31 := by rw [← hwf]; exact out3 (HB9.out.other ⟨w.heap.size, 2, none⟩ (by simp) _) _ _ _
        have q0 := hBf.cell 0
        have q1 := hBf.cell 1
        have q2 := hBf.cell 2
        simp at q0 q1 q2
        refine bodyPost_ret (by simp [results, Try.results8, go_sem, q0, q1, q2]; try rfl) rfl ?_
        have hkf : Kept [w.heap.size, w.heap.size + 1] w3 wf := by
          rw [← hwf]
          exact (((Kept.refl _ _).set _ (.inl (by simp)) _).set _ (.inl (by simp)) _).set _ (.inl (by simp)) _ |>.set _ (.inl (by simp)) _
        have ho := own_kept HO3.out hkf (fun x hx => by have h1 := HR3.out x hx; simp; omega)
        have el : (L ++ [x]).length = L.length + 1 := by simp
        refine ⟨some ⟨g3, 0, none⟩, cap3, by rw [el], ?_, fun a ha => ?_, (HK5.out.trans hkf (fun x hx => by simp at hx; right; omega)).below (Nat.le_refl _) (by simp)⟩
        · have e2 : ul (L ++ [x]) = ul L ++ [.int .u32 (x : Int)] := by rw [ul_app]; rfl
          refine RU.own (base := w.heap.size) ?_
          rw [el, e2]
          exact ho
        · injection ha with ha; subst ha; left; exact hg31
end Go.Proofs.Ytappolgfkioihaa
