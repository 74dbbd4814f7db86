/- Contracts of lightshipref23: Next. -/
import Derived.Test.YtdggnhgflfaffaaOrderRef2
set_option maxRecDepth 20000
namespace Go.Proofs.Ytdggnhgflfaffaa
open Go.ChangeShapes Go.WideShapes Go.ChangeAt Go.RowKit
set_option linter.unusedVariables false

def RNo (W : World) (base win : Nat) (v : Value) (e : Ending) (w' : World) : Prop := e = .returned (.tuple #[.agg #[.int .u32 (base : Int), .int .i64 (win : Int), v], .string ⟨#[]⟩, .bool false]) ∧ Below W.heap.size W w'
set_option maxRecDepth 100000 in
set_option maxHeartbeats 2000000 in
theorem rnext_none (base win : Nat) (p : Option Addr) (cap : Nat) (L : BL) (room : Int) (hL : L.length ≤ 1000) (hb : base < 4294967296) (k1 : hasR L base = false) (w : World) (hs : RO w p cap L) :
    Calls Try.prog 61 #[.agg #[.int .u32 (base : Int), .int .i64 (win : Int), .slice p L.length cap], .int .i64 room] w (RNo w base win (.slice p L.length cap)) := by
  have HH := Lib.hid (fun w hs => rat_any base win p cap L base hL w hs)
  have e : atR L base = -1 := by
    unfold hasR at k1
    rw [decide_eq_false_iff_not] at k1
    unfold atR; rw [if_neg k1]
  rw [e] at HH
  clear e k1
  have HS := Lib.hid hs
  clear hs
  go_enter Try.func61, Try.ntmps61
  go_wp2_with fail
  generalize hw2 : (w.alloc _).alloc _ = wb
  have hk2 : Kept [] w wb := by rw [← hw2]; exact ((Kept.refl _ _).alloc _).alloc _
  have hB2 : Blk wb w.heap.size #[.int .u32 (base : Int), .int .i64 (win : Int), .slice p L.length cap] 35 := by rw [← hw2]; exact Blk.alloc (Blk.new _ _ _) _
  have hB3 : Blk wb (w.heap.size + 1) #[.int .u32 0, .int .i64 0, .slice none 0 0] 35 := by rw [← hw2]; exact Blk.new' (by simp)
  have HSb := Lib.hid (HS.out.kept hk2 (by simp))
  have HKW := Lib.hid hk2
  have HB2 := Lib.hid hB2
  have HB3 := Lib.hid hB3
  have hsz2 := hB3.lt
  clear hw2 hk2 hB2 hB3
  refine (HH.out _ HSb.out).mono ?_
  rintro e w1 ⟨rfl, hb1⟩
  have hk3 : Kept [] w w1 := HKW.out.trans (Kept.of_below hb1 []) (fun x hx => .inl hx)
  have hB4 := HB2.out.below hb1 (by omega)
  have hB5 := HB3.out.below hb1 (by omega)
  have hsz3 := hB5.lt
  have x0 := hB4.cell 0
  have x1 := hB4.cell 1
  have x2 := hB4.cell 2
  have g0 := hB4.free 0
  have g2 := hB4.free 2
  have z0 := hB5.free 0
  have z1 := hB5.free 1
  have z2 := hB5.free 2
  have y0 := hB5.cell 0
  have y1 := hB5.cell 1
  have y2 := hB5.cell 2
  simp at x0 x1 x2 y0 y1 y2
  have HSc := Lib.hid (HSb.out.below hb1)
  have HK3 := Lib.hid hk3
  have HB4 := Lib.hid hB4
  have HB5 := Lib.hid hB5
  clear hk3 hb1 hB4 hB5 HSb HKW HB2 HB3
  go_wp2
  generalize hwf : (((World.setCell _ _ _).setCell _ _).setCell _ _) = wf
  have hBf : Blk wf (w.heap.size + 1) #[.int .u32 ((base : Int)), .int .i64 (win : Int), .slice p L.length cap] 35 := by rw [← hwf]; exact out3 HB5.out _ _ _
  have q0 := hBf.cell 0
  have q1 := hBf.cell 1
  have q2 := hBf.cell 2
  simp at q0 q1 q2
  refine bodyPost_ret (by simp [results, Try.results61, go_sem, q0, q1, q2]; try rfl) rfl ?_
  subst hwf
  refine ⟨rfl, ?_⟩
  have hk := ((((HK3.out.set ⟨w.heap.size + 1, 0, none⟩ (.inr (by simp)) (.int .u32 (base : Int))).set ⟨w.heap.size + 1, 1, none⟩ (.inr (by simp)) (.int .i64 (win : Int))).set ⟨w.heap.size + 1, 2, none⟩ (.inr (by simp)) (.slice p L.length cap)).below (Nat.le_refl _) (by simp))
  exact hk
set_option maxRecDepth 100000 in
set_option maxHeartbeats 2000000 in
theorem rnext_big (base win : Nat) (p : Option Addr) (cap : Nat) (L : BL) (room : Int) (hL : L.length ≤ 1000) (hb : base < 4294967296) (i : Nat) (hi : i < L.length) (k1 : ix L base = i) (k2 : room < ((L[i]).2.size : Int)) (w : World) (hs : RO w p cap L) :
    Calls Try.prog 61 #[.agg #[.int .u32 (base : Int), .int .i64 (win : Int), .slice p L.length cap], .int .i64 room] w (RNo w base win (.slice p L.length cap)) := by
  have HH := Lib.hid (fun w hs => rat_any base win p cap L base hL w hs)
  have e : atR L base = (i : Int) := by
    unfold atR; rw [if_pos (by omega), k1]
  rw [e] at HH
  clear e k1
  have HS := Lib.hid hs
  clear hs
  go_enter Try.func61, Try.ntmps61
  go_wp2_with fail
  generalize hw2 : (w.alloc _).alloc _ = wb
  have hk2 : Kept [] w wb := by rw [← hw2]; exact ((Kept.refl _ _).alloc _).alloc _
  have hB2 : Blk wb w.heap.size #[.int .u32 (base : Int), .int .i64 (win : Int), .slice p L.length cap] 35 := by rw [← hw2]; exact Blk.alloc (Blk.new _ _ _) _
  have hB3 : Blk wb (w.heap.size + 1) #[.int .u32 0, .int .i64 0, .slice none 0 0] 35 := by rw [← hw2]; exact Blk.new' (by simp)
  have HSb := Lib.hid (HS.out.kept hk2 (by simp))
  have HKW := Lib.hid hk2
  have HB2 := Lib.hid hB2
  have HB3 := Lib.hid hB3
  have hsz2 := hB3.lt
  clear hw2 hk2 hB2 hB3
  refine (HH.out _ HSb.out).mono ?_
  rintro e w1 ⟨rfl, hb1⟩
  have hk3 : Kept [] w w1 := HKW.out.trans (Kept.of_below hb1 []) (fun x hx => .inl hx)
  have hB4 := HB2.out.below hb1 (by omega)
  have hB5 := HB3.out.below hb1 (by omega)
  have hsz3 := hB5.lt
  have x0 := hB4.cell 0
  have x1 := hB4.cell 1
  have x2 := hB4.cell 2
  have g0 := hB4.free 0
  have g2 := hB4.free 2
  have z0 := hB5.free 0
  have z1 := hB5.free 1
  have z2 := hB5.free 2
  have y0 := hB5.cell 0
  have y1 := hB5.cell 1
  have y2 := hB5.cell 2
  simp at x0 x1 x2 y0 y1 y2
  have HSc := Lib.hid (HSb.out.below hb1)
  have HK3 := Lib.hid hk3
  have HB4 := Lib.hid hB4
  have HB5 := Lib.hid hB5
  clear hk3 hb1 hB4 hB5 HSb HKW HB2 HB3
  obtain ⟨lb, off, rfl⟩ := HSc.out.src.of_pos (by have := HSc.out.src.fits; omega)
  have u1 := HSc.out.src.at_ (i * 2 + 1) _ (by have := xl_get L i 1 hi (by omega); simpa [xc] using this)
  rw [← Nat.add_assoc] at u1
  generalize (L[i]).2 = body at *
  have q3 : decide (room < (body.size : Int)) = true := by rw [decide_eq_true_iff]; exact k2
  have q4 : (0 : Int) ≤ (i : Int) := by omega
  have q5 : (i : Int) < (L.length : Int) := by omega
  go_wp2
  generalize hwf : (((World.setCell _ _ _).setCell _ _).setCell _ _) = wf
  have hBf : Blk wf (w.heap.size + 1) #[.int .u32 ((base : Int)), .int .i64 (win : Int), .slice (some ⟨lb, off, none⟩) L.length cap] 35 := by rw [← hwf]; exact out3 HB5.out _ _ _
  have q0 := hBf.cell 0
  have q1 := hBf.cell 1
  have q2 := hBf.cell 2
  simp at q0 q1 q2
  refine bodyPost_ret (by simp [results, Try.results61, go_sem, q0, q1, q2]; try rfl) rfl ?_
  subst hwf
  refine ⟨rfl, ?_⟩
  have hk := ((((HK3.out.set ⟨w.heap.size + 1, 0, none⟩ (.inr (by simp)) (.int .u32 (base : Int))).set ⟨w.heap.size + 1, 1, none⟩ (.inr (by simp)) (.int .i64 (win : Int))).set ⟨w.heap.size + 1, 2, none⟩ (.inr (by simp)) (.slice (some ⟨lb, off, none⟩) L.length cap)).below (Nat.le_refl _) (by simp))
  exact hk
def RNextPost (W : World) (base win : Nat) (L : BL) (body : ByteArray) (e : Ending) (w' : World) : Prop :=
  ∃ v', e = .returned (.tuple #[.agg #[.int .u32 (base : Int), .int .i64 (win : Int), v'], .string body, .bool true]) ∧ w'.ownsRow W.heap.size 83 2 v' L.length (xl L) ∧ Below W.heap.size W w'
theorem xerase (L : BL) (k : Nat) (hk : k < L.length) : (xl L).take (k * 2) ++ (xl L).drop ((k + 1) * 2) = xl (L.eraseIdx k) ∧ k + (L.length - (k + 1)) = (L.eraseIdx k).length := by
  refine ⟨?_, by rw [List.length_eraseIdx, if_pos hk]; omega⟩
  rw [List.eraseIdx_eq_take_drop_succ, xl_take, xl_drop, xl_app]
set_option maxRecDepth 100000 in
set_option maxHeartbeats 4000000 in
theorem rnext_some (base win : Nat) (p : Option Addr) (cap : Nat) (L : BL) (room : Int) (hL : L.length ≤ 1000) (hb : base < 4294967296) (i : Nat) (hi : i < L.length) (k1 : ix L base = i) (k2 : ((L[i]).2.size : Int) ≤ room) (w : World) (hs : RO w p cap L) :
    Calls Try.prog 61 #[.agg #[.int .u32 (base : Int), .int .i64 (win : Int), .slice p L.length cap], .int .i64 room] w (RNextPost w ((base + 1) % 4294967296) win (L.eraseIdx i) (L[i]).2) := by
  obtain ⟨i0, hii, hz0, hz1, hz2⟩ := info_parts x_info
  have hmax := hs.src.big
  have hfit := hs.src.fits
  unfold maxLen at hmax
  have HH := Lib.hid (fun w hs => rat_any base win p cap L base hL w hs)
  have e : atR L base = (i : Int) := by
    unfold atR; rw [if_pos (by omega), k1]
  rw [e] at HH
  have hX := xerase L i hi
  have HX := Lib.hid hX
  clear e k1 hX
  have HS := Lib.hid hs
  clear hs
  go_enter Try.func61, Try.ntmps61
  go_wp2_with fail
  generalize hw2 : (w.alloc _).alloc _ = wb
  have hk2 : Kept [] w wb := by rw [← hw2]; exact ((Kept.refl _ _).alloc _).alloc _
  have hB2 : Blk wb w.heap.size #[.int .u32 (base : Int), .int .i64 (win : Int), .slice p L.length cap] 35 := by rw [← hw2]; exact Blk.alloc (Blk.new _ _ _) _
  have hB3 : Blk wb (w.heap.size + 1) #[.int .u32 0, .int .i64 0, .slice none 0 0] 35 := by rw [← hw2]; exact Blk.new' (by simp)
  have HSb := Lib.hid (HS.out.kept hk2 (by simp))
  have HKW := Lib.hid hk2
  have HB2 := Lib.hid hB2
  have HB3 := Lib.hid hB3
  have hsz2 := hB3.lt
  clear hw2 hk2 hB2 hB3
  refine (HH.out _ HSb.out).mono ?_
  rintro e w1 ⟨rfl, hb1⟩
  have hk3 : Kept [] w w1 := HKW.out.trans (Kept.of_below hb1 []) (fun x hx => .inl hx)
  have hB4 := HB2.out.below hb1 (by omega)
  have hB5 := HB3.out.below hb1 (by omega)
  have hsz3 := hB5.lt
  have x0 := hB4.cell 0
  have x1 := hB4.cell 1
  have x2 := hB4.cell 2
  have g0 := hB4.free 0
  have g2 := hB4.free 2
  have z0 := hB5.free 0
  have z1 := hB5.free 1
  have z2 := hB5.free 2
  have y0 := hB5.cell 0
  have y1 := hB5.cell 1
  have y2 := hB5.cell 2
  simp at x0 x1 x2 y0 y1 y2
  have HSc := Lib.hid (HSb.out.below hb1)
  have HK3 := Lib.hid hk3
  have HB4 := Lib.hid hB4
  have HB5 := Lib.hid hB5
  clear hk3 hb1 hB4 hB5 HSb HKW HB2 HB3
  obtain ⟨lb, off, rfl⟩ := HSc.out.src.of_pos (by omega)
  have u1 := HSc.out.src.at_ (i * 2 + 1) _ (by have := xl_get L i 1 hi (by omega); simpa [xc] using this)
  rw [← Nat.add_assoc] at u1
  generalize hbd : (L[i]).2 = body at *
  have HBD := Lib.hid hbd
  clear hbd
  have q3 : decide (room < (body.size : Int)) = false := by rw [decide_eq_false_iff_not]; omega
  have q4 : (0 : Int) ≤ (i : Int) := by omega
  have q5 : (i : Int) < (L.length : Int) := by omega
  have hsz := HK3.out.size
  obtain ⟨hhead, _⟩ := HSc.out.src.cuts 33 (by kernel_rfl) (by intro w; kernel_rfl) i (by omega)
  obtain ⟨_, ao, hcut, hsc, hsb⟩ := HSc.out.src.cuts 33 (by kernel_rfl) (by intro w; kernel_rfl) (i + 1) (by omega)
  have ei : Hid (((i + 1 : Nat) : Int) = (i : Int) + 1) := Lib.hid (by omega)
  rw [ei.out] at hcut
  have HSH := Lib.hid (HSc.out.src.head i (by omega))
  have HSC := Lib.hid hsc
  clear hsc hsb
  go_wp2_with (at_builtin; refine wpList_append_src _ rfl (.tmp 34) (.tmp 38) 33 rfl w.heap.size 83 i0 (.agg #[.int .u32 0, .string ⟨#[]⟩]) 2 24 Try.underlying33 hii hz0 hz1 hz2 rfl (by decide) _ 0 [] rfl (World.ownsRow_nil _ _ _ _) _ i cap rfl _ HSH.out (fun u hu => xl_one _ _ (List.mem_of_mem_take hu)) (by unfold maxLen; omega) (by omega) hsz ?_)
  intro v2 w2 hown2 hg2 hat2
  have hk4 : Kept [] w1 w2 := (Kept.refl [] _).grown hg2 (fun x hx => by simp [Value.ownBlock] at hx)
  have hB6 := HB4.out.kept hk4 (by simp)
  have HB7 := Lib.hid (HB5.out.kept hk4 (by simp))
  have hsz4 := hk4.size
  have hr2 : ∀ x ∈ rowOf v2, w1.heap.size ≤ x := fun x hx => by
    rcases rowOf_new hat2 x hx with h | h
    · simp [rowOf, Value.ownBlock] at h
    · exact h
  have HSC2 := Lib.hid (HSC.out.kept hk4 (by simp))
  have HK4 := Lib.hid hk4
  have HO2 := Lib.hid hown2
  have HR2 := Lib.hid hr2
  have HB6 := Lib.hid hB6
  clear x0 x1 x2 y0 y1 y2 g0 g2 z0 z1 z2 u1 HB4 HB5 hhead
  have x2 := hB6.cell 2
  simp at x2
  clear hown2 hg2 hat2 hk4 hB6 hr2
  go_wp2_with (at_builtin; refine wpList_append_src _ rfl (.tmp 40) (.tmp 45) 33 rfl w.heap.size 83 i0 (.agg #[.int .u32 0, .string ⟨#[]⟩]) 2 24 Try.underlying33 hii hz0 hz1 hz2 rfl (by decide) _ _ _ rfl HO2.out _ (L.length - (i + 1)) (cap - (i + 1)) rfl _ HSC2.out (fun u hu => xl_one _ _ (List.mem_of_mem_drop hu)) (by unfold maxLen; omega) (by omega) (by omega) ?_)
  intro v3 w3 hown3 hg3 hat3
  have hk5 : Kept [] w1 w3 := HK4.out.grown hg3 (fun x hx => .inr (HR2.out x (mem_rowOf hx)))
  have hk52 : Kept (rowOf v2) w2 w3 := (Kept.refl _ _).grown hg3 (fun x hx => .inl (mem_rowOf hx))
  have hB8 := HB6.out.kept hk52 (fun hm => by have := HR2.out _ hm; omega)
  have hB9 := HB7.out.kept hk52 (fun hm => by have := HR2.out _ hm; omega)
  have hr3 : ∀ x ∈ rowOf v3, w1.heap.size ≤ x := fun x hx => by
    rcases rowOf_new hat3 x hx with h | h
    · exact HR2.out x h
    · first | omega | (simp at h; omega)
  have hown4 : w3.ownsRow w.heap.size 83 2 v3 (L.eraseIdx i).length (xl (L.eraseIdx i)) := by
    have h1 := hown3
    rw [HX.out.1, HX.out.2] at h1
    exact h1
  have HE : Hid ((L.eraseIdx i).length + 1 = L.length) := Lib.hid (by rw [← HX.out.2]; omega)
  generalize hMM : L.eraseIdx i = M at *
  have HMM := Lib.hid hMM
  clear hMM
  obtain ⟨pp, cap3, hv3, _⟩ := Src.of_own hown4
  subst hv3
  have x0 := hB8.cell 0
  have x1 := hB8.cell 1
  have x3 := hB8.cell 2
  have g0 := hB8.free 0
  have g2 := hB8.free 2
  have z0 := hB9.free 0
  have z1 := hB9.free 1
  have z2 := hB9.free 2
  have y0 := hB9.cell 0
  have y1 := hB9.cell 1
  have y2 := hB9.cell 2
  simp at x0 x1 x3 y0 y1 y2
  have HK5 := Lib.hid (HK3.out.trans hk5 (fun x hx => .inl hx))
  have HO3 := Lib.hid hown4
  have HR3 := Lib.hid hr3
  have HB9 := Lib.hid hB9
  have e1 : Hid ((((base : Int) + 1) % 4294967296) = (((base + 1) % 4294967296 : Nat) : Int)) := Lib.hid (by omega)
  clear hown3 hown4 hg3 hat3 hk5 hk52 hB8 hB9 hr3 hcut x2
  go_wp2
  generalize hwf : (((World.setCell _ _ _).setCell _ _).setCell _ _) = wf
  have hBf : Blk wf (w.heap.size + 1) #[.int .u32 (((base : Int) + 1) % 4294967296), .int .i64 (win : Int), .slice pp M.length cap3] 35 := by rw [← hwf]; exact out3 ((HB9.out.other ⟨w.heap.size, 2, none⟩ (by simp) _).other ⟨w.heap.size, 0, none⟩ (by simp) _) _ _ _
  have q0 := hBf.cell 0
  have q1 := hBf.cell 1
  have q2 := hBf.cell 2
  simp at q0 q1 q2
  refine bodyPost_ret (by simp [results, Try.results61, go_sem, q0, q1, q2]; try rfl) rfl ?_
  subst hwf
  have hk6 := ((((HK5.out.set ⟨w.heap.size, 2, none⟩ (.inr (by simp)) (.slice pp M.length cap3)).set ⟨w.heap.size, 0, none⟩ (.inr (by simp)) (.int .u32 (((base : Int) + 1) % 4294967296))).set ⟨w.heap.size + 1, 0, none⟩ (.inr (by simp)) (.int .u32 (((base : Int) + 1) % 4294967296))).set ⟨w.heap.size + 1, 1, none⟩ (.inr (by simp)) (.int .i64 (win : Int))).set ⟨w.heap.size + 1, 2, none⟩ (.inr (by simp)) (.slice pp M.length cap3)
  refine ⟨.slice pp M.length cap3, by rw [← e1.out, HBD.out], ?_, hk6.below (Nat.le_refl _) (by simp)⟩
  have ho := own_kept (r := [w.heap.size, w.heap.size + 1]) HO3.out (((((Kept.refl _ _).set ⟨w.heap.size, 2, none⟩ (.inl (by simp)) (.slice pp M.length cap3)).set ⟨w.heap.size, 0, none⟩ (.inl (by simp)) (.int .u32 (((base : Int) + 1) % 4294967296))).set ⟨w.heap.size + 1, 0, none⟩ (.inl (by simp)) (.int .u32 (((base : Int) + 1) % 4294967296))).set ⟨w.heap.size + 1, 1, none⟩ (.inl (by simp)) (.int .i64 (win : Int)) |>.set ⟨w.heap.size + 1, 2, none⟩ (.inl (by simp)) (.slice pp M.length cap3)) (fun x hx => by
    have h1 := HR3.out x hx
    simp; omega)
  rw [HMM.out]
  exact ho
end Go.Proofs.Ytdggnhgflfaffaa
