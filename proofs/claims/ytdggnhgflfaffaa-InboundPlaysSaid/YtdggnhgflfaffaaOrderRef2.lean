/- Contracts of lightshipref23: Put, Next. -/
import Derived.Test.YtdggnhgflfaffaaOrderRef
set_option maxRecDepth 20000
namespace Go.Proofs.Ytdggnhgflfaffaa
open Go.ChangeShapes Go.WideShapes Go.ChangeAt Go.RowKit
set_option linter.unusedVariables false

theorem out3 {w : World} {b : Nat} {a0 a1 a2 : Value} {T : TypeId} (h : Blk w b #[a0, a1, a2] T) (u v z : Value) : Blk (((w.setCell ⟨b, 0, none⟩ u).setCell ⟨b, 1, none⟩ v).setCell ⟨b, 2, none⟩ z) b #[u, v, z] T :=
  ((h.set 0 u).set 1 v).set 2 z
set_option maxRecDepth 100000 in
set_option maxHeartbeats 2000000 in
theorem rput_twice (base win : Nat) (p : Option Addr) (cap : Nat) (L : BL) (x : Nat) (body : ByteArray) (hL : L.length ≤ 1000) (hb : base < 4294967296) (hx : x < 4294967296) (k1 : lessB x base = false) (k2 : keyIn base win x = true) (k3 : hasR L x = true) (w : World) (hs : RO w p cap L) :
    Calls Try.prog 60 #[.agg #[.int .u32 (base : Int), .int .i64 (win : Int), .slice p L.length cap], .int .u32 (x : Int), .string body] w (RSame w base win (.slice p L.length cap) 2) := by
  have HL := Lib.hid (fun w => refLess (x : Int) (base : Int) (by omega) (by omega) (by omega) (by omega) w)
  have HW := Lib.hid (fun w => refWithin (x : Int) (base : Int) (win : Int) (by omega) (by omega) (by omega) (by omega) w)
  have HH := Lib.hid (fun w hs => rhas_any base win p cap L x hL w hs)
  unfold keyIn at k2
  rw [k1] at HL
  rw [k2] at HW
  rw [k3] at HH
  have HS := Lib.hid hs
  clear k1 k2 k3 hs
  go_enter Try.func60, Try.ntmps60
  go_wp2_with (first | (go_at_call 56; refine (HL.out _).mono ?_; rintro e w' ⟨rfl, rfl⟩) | (go_at_call 57; refine (HW.out _).mono ?_; rintro e w' ⟨rfl, rfl⟩))
  generalize hw2 : (w.alloc _).alloc _ = wb
  have hk2 : Kept [] w wb := by rw [← hw2]; exact ((Kept.refl _ _).alloc _).alloc _
  have hB2 : Blk wb w.heap.size #[.int .u32 (base : Int), .int .i64 (win : Int), .slice p L.length cap] 35 := by rw [← hw2]; exact Blk.alloc (Blk.new _ _ _) _
  have hB3 : Blk wb (w.heap.size + 1) #[.int .u32 0, .int .i64 0, .slice none 0 0] 35 := by rw [← hw2]; exact Blk.new' (by simp)
  have HSb := Lib.hid (HS.out.kept hk2 (by simp))
  have HKW := Lib.hid hk2
  have HB2 := Lib.hid hB2
  have HB3 := Lib.hid hB3
  have hsz2 := hB3.lt
  clear hw2 hk2 hB2 hB3
  go_wp2_with fail
  refine (HH.out _ HSb.out).mono ?_
  rintro e w1 ⟨rfl, hb1⟩
  have hk3 : Kept [] w w1 := HKW.out.trans (Kept.of_below hb1 []) (fun x hx => .inl hx)
  have hB4 := HB2.out.below hb1 (by omega)
  have hB5 := HB3.out.below hb1 (by omega)
  have hsz3 := hB5.lt
  have x0 := hB4.cell 0
  have x1 := hB4.cell 1
  have x2 := hB4.cell 2
  have g2 := hB4.free 2
  have z0 := hB5.free 0
  have z1 := hB5.free 1
  have z2 := hB5.free 2
  have y0 := hB5.cell 0
  have y1 := hB5.cell 1
  have y2 := hB5.cell 2
  simp at x0 x1 x2 y0 y1 y2
  have HSc := Lib.hid (HSb.out.below hb1)
  have HK3 := Lib.hid hk3
  have HB4 := Lib.hid hB4
  have HB5 := Lib.hid hB5
  clear hk3 hb1 hB4 hB5 HSb HKW HB2 HB3
  go_wp2
  generalize hwf : (((World.setCell _ _ _).setCell _ _).setCell _ _) = wf
  have hBf : Blk wf (w.heap.size + 1) #[.int .u32 (base : Int), .int .i64 (win : Int), .slice p L.length cap] 35 := by rw [← hwf]; exact out3 HB5.out _ _ _
  have q0 := hBf.cell 0
  have q1 := hBf.cell 1
  have q2 := hBf.cell 2
  simp at q0 q1 q2
  refine bodyPost_ret (by simp [results, Try.results60, go_sem, q0, q1, q2]; try rfl) rfl ?_
  subst hwf
  refine ⟨rfl, ?_⟩
  have hk := ((((HK3.out.set ⟨w.heap.size + 1, 0, none⟩ (.inr (by simp)) (.int .u32 (base : Int))).set ⟨w.heap.size + 1, 1, none⟩ (.inr (by simp)) (.int .i64 (win : Int))).set ⟨w.heap.size + 1, 2, none⟩ (.inr (by simp)) (.slice p L.length cap)).below (Nat.le_refl _) (by simp))
  exact hk
theorem rput_blank (base win : Nat) (p : Option Addr) (cap : Nat) (L : BL) (x : Nat) (hL : L.length ≤ 1000) (hb : base < 4294967296) (hx : x < 4294967296) (k1 : lessB x base = false) (k2 : keyIn base win x = true) (k3 : hasR L x = false) (w : World) (hs : RO w p cap L) :
    Calls Try.prog 60 #[.agg #[.int .u32 (base : Int), .int .i64 (win : Int), .slice p L.length cap], .int .u32 (x : Int), .string ⟨#[]⟩] w (RSame w base win (.slice p L.length cap) 4) := by
  have HL := Lib.hid (fun w => refLess (x : Int) (base : Int) (by omega) (by omega) (by omega) (by omega) w)
  have HW := Lib.hid (fun w => refWithin (x : Int) (base : Int) (win : Int) (by omega) (by omega) (by omega) (by omega) w)
  have HH := Lib.hid (fun w hs => rhas_any base win p cap L x hL w hs)
  unfold keyIn at k2
  rw [k1] at HL
  rw [k2] at HW
  rw [k3] at HH
  have HS := Lib.hid hs
  clear k1 k2 k3 hs
  go_enter Try.func60, Try.ntmps60
  go_wp2_with (first | (go_at_call 56; refine (HL.out _).mono ?_; rintro e w' ⟨rfl, rfl⟩) | (go_at_call 57; refine (HW.out _).mono ?_; rintro e w' ⟨rfl, rfl⟩))
  generalize hw2 : (w.alloc _).alloc _ = wb
  have hk2 : Kept [] w wb := by rw [← hw2]; exact ((Kept.refl _ _).alloc _).alloc _
  have hB2 : Blk wb w.heap.size #[.int .u32 (base : Int), .int .i64 (win : Int), .slice p L.length cap] 35 := by rw [← hw2]; exact Blk.alloc (Blk.new _ _ _) _
  have hB3 : Blk wb (w.heap.size + 1) #[.int .u32 0, .int .i64 0, .slice none 0 0] 35 := by rw [← hw2]; exact Blk.new' (by simp)
  have HSb := Lib.hid (HS.out.kept hk2 (by simp))
  have HKW := Lib.hid hk2
  have HB2 := Lib.hid hB2
  have HB3 := Lib.hid hB3
  have hsz2 := hB3.lt
  clear hw2 hk2 hB2 hB3
  go_wp2_with fail
  refine (HH.out _ HSb.out).mono ?_
  rintro e w1 ⟨rfl, hb1⟩
  have hk3 : Kept [] w w1 := HKW.out.trans (Kept.of_below hb1 []) (fun x hx => .inl hx)
  have hB4 := HB2.out.below hb1 (by omega)
  have hB5 := HB3.out.below hb1 (by omega)
  have hsz3 := hB5.lt
  have x0 := hB4.cell 0
  have x1 := hB4.cell 1
  have x2 := hB4.cell 2
  have g2 := hB4.free 2
  have z0 := hB5.free 0
  have z1 := hB5.free 1
  have z2 := hB5.free 2
  have y0 := hB5.cell 0
  have y1 := hB5.cell 1
  have y2 := hB5.cell 2
  simp at x0 x1 x2 y0 y1 y2
  have HSc := Lib.hid (HSb.out.below hb1)
  have HK3 := Lib.hid hk3
  have HB4 := Lib.hid hB4
  have HB5 := Lib.hid hB5
  clear hk3 hb1 hB4 hB5 HSb HKW HB2 HB3
  go_wp2
  generalize hwf : (((World.setCell _ _ _).setCell _ _).setCell _ _) = wf
  have hBf : Blk wf (w.heap.size + 1) #[.int .u32 (base : Int), .int .i64 (win : Int), .slice p L.length cap] 35 := by rw [← hwf]; exact out3 HB5.out _ _ _
  have q0 := hBf.cell 0
  have q1 := hBf.cell 1
  have q2 := hBf.cell 2
  simp at q0 q1 q2
  refine bodyPost_ret (by simp [results, Try.results60, go_sem, q0, q1, q2]; try rfl) rfl ?_
  subst hwf
  refine ⟨rfl, ?_⟩
  have hk := ((((HK3.out.set ⟨w.heap.size + 1, 0, none⟩ (.inr (by simp)) (.int .u32 (base : Int))).set ⟨w.heap.size + 1, 1, none⟩ (.inr (by simp)) (.int .i64 (win : Int))).set ⟨w.heap.size + 1, 2, none⟩ (.inr (by simp)) (.slice p L.length cap)).below (Nat.le_refl _) (by simp))
  exact hk
def RPutPost (W : World) (base win : Nat) (L : BL) (e : Ending) (w' : World) : Prop :=
  ∃ v', e = .returned (.tuple #[.agg #[.int .u32 (base : Int), .int .i64 (win : Int), v'], .int .i64 3]) ∧ w'.ownsRow W.heap.size 83 2 v' L.length (xl L) ∧ Below W.heap.size W w'
theorem ofull_list2 (s : ByteArray) (h : s.size ≠ 0) : s.toList.isEmpty = false := by
  rw [ByteArray.toList_eq]
  have : s.data.toList ≠ [] := by
    intro e; apply h
    have : s.data.toList.length = 0 := by rw [e]; rfl
    simpa using this
  simpa using this
theorem xc_new (w : World) (x : Nat) (body : ByteArray) (T : TypeId) : Src (w.alloc (.cells #[.int .u32 (x : Int), .string body] T)) (some ⟨w.heap.size, 0, none⟩) 1 1 2 (xc (x, body)) :=
  ⟨by simp [xc], Nat.le_refl _, by unfold maxLen; omega, (fun h => nomatch h), (fun a ha => by injection ha with ha; subst ha; rfl), fun a ha j u hu => by
    injection ha with ha; subst ha
    rw [add_plain, (Blk.new w _ T).cell]
    simp [xc] at hu
    match j, hu with
    | 0, hu => simpa using hu
    | 1, hu => simpa using hu⟩
theorem xc_one (d : Nat × ByteArray) : ∀ u ∈ xc d, u.oneCell' = true := by
  intro u hu
  simp [xc] at hu
  rcases hu with rfl | rfl <;> rfl
set_option maxRecDepth 100000 in
set_option maxHeartbeats 2000000 in
theorem rput_fresh (base win : Nat) (p : Option Addr) (cap : Nat) (L : BL) (x : Nat) (body : ByteArray) (hL : L.length ≤ 1000) (hb : base < 4294967296) (hx : x < 4294967296) (k1 : lessB x base = false) (k2 : keyIn base win x = true) (k3 : hasR L x = false) (k4 : body.size ≠ 0) (w : World) (hs : RO w p cap L) :
    Calls Try.prog 60 #[.agg #[.int .u32 (base : Int), .int .i64 (win : Int), .slice p L.length cap], .int .u32 (x : Int), .string body] w (RPutPost w base win (L ++ [(x, body)])) := by
  have k5 := ofull_list2 body k4
  obtain ⟨i0, hi, hz0, hz1, hz2⟩ := info_parts x_info
  have hmax := hs.src.big
  unfold maxLen at hmax
  have HL := Lib.hid (fun w => refLess (x : Int) (base : Int) (by omega) (by omega) (by omega) (by omega) w)
  have HW := Lib.hid (fun w => refWithin (x : Int) (base : Int) (win : Int) (by omega) (by omega) (by omega) (by omega) w)
  have HH := Lib.hid (fun w hs => rhas_any base win p cap L x hL w hs)
  unfold keyIn at k2
  rw [k1] at HL
  rw [k2] at HW
  rw [k3] at HH
  have HS := Lib.hid hs
  clear k1 k2 k3 hs
  go_enter Try.func60, Try.ntmps60
  go_wp2_with (first | (go_at_call 56; refine (HL.out _).mono ?_; rintro e w' ⟨rfl, rfl⟩) | (go_at_call 57; refine (HW.out _).mono ?_; rintro e w' ⟨rfl, rfl⟩))
  generalize hw2 : (w.alloc _).alloc _ = wb
  have hk2 : Kept [] w wb := by rw [← hw2]; exact ((Kept.refl _ _).alloc _).alloc _
  have hB2 : Blk wb w.heap.size #[.int .u32 (base : Int), .int .i64 (win : Int), .slice p L.length cap] 35 := by rw [← hw2]; exact Blk.alloc (Blk.new _ _ _) _
  have hB3 : Blk wb (w.heap.size + 1) #[.int .u32 0, .int .i64 0, .slice none 0 0] 35 := by rw [← hw2]; exact Blk.new' (by simp)
  have HSb := Lib.hid (HS.out.kept hk2 (by simp))
  have HKW := Lib.hid hk2
  have HB2 := Lib.hid hB2
  have HB3 := Lib.hid hB3
  have hsz2 := hB3.lt
  clear hw2 hk2 hB2 hB3
  go_wp2_with fail
  refine (HH.out _ HSb.out).mono ?_
  rintro e w1 ⟨rfl, hb1⟩
  have hk3 : Kept [] w w1 := HKW.out.trans (Kept.of_below hb1 []) (fun x hx => .inl hx)
  have hB4 := HB2.out.below hb1 (by omega)
  have hB5 := HB3.out.below hb1 (by omega)
  have hsz3 := hB5.lt
  have x0 := hB4.cell 0
  have x1 := hB4.cell 1
  have x2 := hB4.cell 2
  have g2 := hB4.free 2
  have z0 := hB5.free 0
  have z1 := hB5.free 1
  have z2 := hB5.free 2
  have y0 := hB5.cell 0
  have y1 := hB5.cell 1
  have y2 := hB5.cell 2
  simp at x0 x1 x2 y0 y1 y2
  have HSc := Lib.hid (HSb.out.below hb1)
  have HK3 := Lib.hid hk3
  have HB4 := Lib.hid hB4
  have HB5 := Lib.hid hB5
  clear hk3 hb1 hB4 hB5 HSb HKW HB2 HB3
  have hsz := HK3.out.size
  go_wp2_with (at_builtin; refine wpList_append_src _ rfl (.tmp 33) (.tmp 35) 33 rfl w.heap.size 83 i0 (.agg #[.int .u32 0, .string ⟨#[]⟩]) 2 24 Try.underlying33 hi hz0 hz1 hz2 rfl (by decide) _ 0 [] rfl (World.ownsRow_nil _ _ _ _) _ L.length cap rfl _ HSc.out.src (xl_one _) (by unfold maxLen; omega) (by omega) hsz ?_)
  intro v2 w2 hown2 hg2 hat2
  have hk4 : Kept [] w1 w2 := (Kept.refl [] _).grown hg2 (fun x hx => by simp [Value.ownBlock] at hx)
  have hsz4 := hk4.size
  have hr2 : ∀ x ∈ rowOf v2, w1.heap.size ≤ x := fun x hx => by
    rcases rowOf_new hat2 x hx with h | h
    · simp [rowOf, Value.ownBlock] at h
    · exact h
  have HK45 := Lib.hid hk4
  have HB45 := Lib.hid HB4.out
  have HB55 := Lib.hid HB5.out
  have HO2 := Lib.hid hown2
  have HR2 := Lib.hid hr2
  clear hown2 hg2 hat2 hk4 hr2 x0 x1 x2 y0 y1 y2 g2 z0 z1 z2 HB4 HB5 HSc
  go_wp2_with (at_builtin; refine wpList_append_src _ rfl (.tmp 37) (.tmp 41) 33 rfl w.heap.size 83 i0 (.agg #[.int .u32 0, .string ⟨#[]⟩]) 2 24 Try.underlying33 hi hz0 hz1 hz2 rfl (by decide) _ _ _ rfl (HO2.out.alloc _) _ 1 1 rfl _ (xc_new w2 x body _) (xc_one _) (by unfold maxLen; omega) (by omega) (by simp; omega) ?_)
  intro v3 w3 hown3 hg3 hat3
  have hsz5 : w2.heap.size ≤ w3.heap.size := by have := hg3.size; simp at this; omega
  have hk5 : Kept [] w1 w3 := by
    exact (HK45.out.alloc _).grown hg3 (fun x hx => .inr (HR2.out x (mem_rowOf hx)))
  have hB8 := HB45.out.kept hk5 (by simp)
  have hB9 := HB55.out.kept hk5 (by simp)
  have x0 := hB8.cell 0
  have x1 := hB8.cell 1
  have x2 := hB8.cell 2
  have g2 := hB8.free 2
  have z0 := hB9.free 0
  have z1 := hB9.free 1
  have z2 := hB9.free 2
  have y0 := hB9.cell 0
  have y1 := hB9.cell 1
  have y2 := hB9.cell 2
  simp at x0 x1 x2 y0 y1 y2
  have HK5 := Lib.hid (HK3.out.trans hk5 (fun x hx => .inl hx))
  have hr3 : ∀ x ∈ rowOf v3, w1.heap.size ≤ x := fun x hx => by
    rcases rowOf_new hat3 x hx with h | h
    · exact HR2.out x h
    · first | omega | (simp at h; omega)
  obtain ⟨g3, cap3, hv3, hg31, hg32⟩ := hown3.form (by omega)
  subst hv3
  have HO3 := Lib.hid hown3
  have HR3 := Lib.hid hr3
  have HB9 := Lib.hid hB9
  clear hown3 hg3 hat3 hk5 hB8 hB9 hr3
  go_wp2
  generalize hwf : (((World.setCell _ _ _).setCell _ _).setCell _ _) = wf
  have hBf : Blk wf (w.heap.size + 1) #[.int .u32 (base : Int), .int .i64 (win : Int), .slice (some ⟨g3, 0, none⟩) (L.length + 1) cap3] 35 := by rw [← hwf]; exact out3 (HB9.out.other ⟨w.heap.size, 2, none⟩ (by simp) _) _ _ _
  have q0 := hBf.cell 0
  have q1 := hBf.cell 1
  have q2 := hBf.cell 2
  simp at q0 q1 q2
  refine bodyPost_ret (by simp [results, Try.results60, go_sem, q0, q1, q2]; try rfl) rfl ?_
  subst hwf
  have hk6 := (((HK5.out.set ⟨w.heap.size, 2, none⟩ (.inr (by simp)) (.slice (some ⟨g3, 0, none⟩) (L.length + 1) cap3)).set ⟨w.heap.size + 1, 0, none⟩ (.inr (by simp)) (.int .u32 (base : Int))).set ⟨w.heap.size + 1, 1, none⟩ (.inr (by simp)) (.int .i64 (win : Int))).set ⟨w.heap.size + 1, 2, none⟩ (.inr (by simp)) (.slice (some ⟨g3, 0, none⟩) (L.length + 1) cap3)
  refine ⟨_, rfl, ?_, hk6.below (Nat.le_refl _) (by simp)⟩
  have ho := own_kept (r := [w.heap.size, w.heap.size + 1]) HO3.out ((((Kept.refl _ _).set ⟨w.heap.size, 2, none⟩ (.inl (by simp)) (.slice (some ⟨g3, 0, none⟩) (L.length + 1) cap3)).set ⟨w.heap.size + 1, 0, none⟩ (.inl (by simp)) (.int .u32 (base : Int))).set ⟨w.heap.size + 1, 1, none⟩ (.inl (by simp)) (.int .i64 (win : Int)) |>.set ⟨w.heap.size + 1, 2, none⟩ (.inl (by simp)) (.slice (some ⟨g3, 0, none⟩) (L.length + 1) cap3)) (fun x hx => by
    have h1 := HR3.out x hx
    simp; omega)
  have e1 : (L ++ [(x, body)]).length = L.length + 1 := by simp
  have e2 : xl (L ++ [(x, body)]) = xl L ++ xc (x, body) := by rw [xl_app]; simp [xl]
  rw [e1, e2]
  exact ho
end Go.Proofs.Ytdggnhgflfaffaa
