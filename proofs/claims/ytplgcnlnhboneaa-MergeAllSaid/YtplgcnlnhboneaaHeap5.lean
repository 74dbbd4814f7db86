/- Contracts of package heap: Pop, Peek. -/
import Derived.Test.YtplgcnlnhboneaaHeap4
namespace Go.Proofs.Ytplgcnlnhboneaa
open Go.ChangeShapes Go.WideShapes Go.ChangeAt Go.RowKit
set_option linter.unusedVariables false

theorem res_take (tm : Array Value) (w : World) (b : Nat) (d : Du) (h : Blk w b #[.int .i64 d.st, .int .u32 d.bl, .int .i64 d.at_] 30) (h4 : tm.getD 2 undef = .pointer (some ⟨b, 0, none⟩)) :
    (results Try.f18 tm).run Try.prog w = .ok (dv d) w := by
  have c0 := h.cell 0
  have c1 := h.cell 1
  have c2 := h.cell 2
  simp at c0 c1 c2
  simp only [Array.getD_eq_getD_getElem?] at h4
  simp [results, Try.results18, go_sem, h4, c0, c1, c2, dv]
theorem res_pop (tm : Array Value) (w : World) (b : Nat) (d : Du) (r : Value) (h : Blk w b #[.int .i64 d.st, .int .u32 d.bl, .int .i64 d.at_] 30) (h4 : tm.getD 2 undef = .pointer (some ⟨b, 0, none⟩)) (h5 : tm.getD 3 undef = r) :
    (results Try.f13 tm).run Try.prog w = .ok (.tuple #[dv d, r]) w := by
  have c0 := h.cell 0
  have c1 := h.cell 1
  have c2 := h.cell 2
  simp at c0 c1 c2
  simp only [Array.getD_eq_getD_getElem?] at h4 h5
  simp [results, Try.results13, go_sem, h4, h5, c0, c1, c2, dv]
def z3 : Du := ⟨0, 0, 0⟩
def NonePost (W : World) (e : Ending) (w' : World) : Prop := e = .returned (.tuple #[dv z3, .bool false]) ∧ Below W.heap.size W w'
theorem hpop_nil (w : World) : Calls Try.prog 13 #[.pointer none] w (NonePost w) := by
  go_enter Try.func13, Try.ntmps13
  go_wp2_with (go_at_call 17; refine (hlen_nil _).mono ?_; rintro e w' ⟨rfl, rfl⟩)
  exact bodyPost_ret (res_pop _ _ w.heap.size z3 _ (by refine Blk.new' ?_; simp) rfl rfl) rfl ⟨rfl, by go_grown⟩
theorem hpop_none (b : Nat) (v : Value) (L : List Du) (h0 : L.length = 0) (w : World) (h : HeapAt w b v L) : Calls Try.prog 13 #[.pointer (some ⟨b, 0, none⟩)] w (NonePost w) := by
  have b0 : ((L.length : Int) == 0) = true := by rw [beq_iff_eq]; omega
  have HL := Lib.hid (fun O => hlen_any b v L (w.alloc O) (h.kept ((Kept.refl [] w).alloc O) (by simp) (by simp)))
  clear h
  go_enter Try.func13, Try.ntmps13
  go_wp2_with (go_at_call 17; refine (HL.out _).mono ?_; rintro e w' ⟨rfl, rfl⟩)
  exact bodyPost_ret (res_pop _ _ w.heap.size z3 _ (by refine Blk.new' ?_; simp) rfl rfl) rfl ⟨rfl, by go_grown⟩
theorem HeapG.cut {w : World} {b g n cap : Nat} {L : List Du} (h : HeapG w b g n cap L) (m : Nat) (hm : m ≤ n) : HeapG (w.setCell ⟨b, 0, none⟩ (.slice (some ⟨g, 0, none⟩) m cap)) b g m cap (L.take m) := by
  have hlt := h.lt.1
  obtain ⟨h1, h2⟩ := h
  subst h2
  have hl : (L.take m).length = m := by rw [List.length_take]; omega
  refine ⟨⟨h1.blk.set 0 _, ?_, by rw [hl]; have := h1.len; omega⟩, hl⟩
  rw [hl, ← dl_take]
  exact own_kept (r := [b]) (own_less h1.own m hm) ((Kept.refl [b] _).set _ (.inl (by simp)) _) (fun x hx => by simp [rowOf, Value.ownBlock] at hx; simp; omega)
set_option maxRecDepth 100000 in
set_option maxHeartbeats 4000000 in
theorem httake (b : Nat) (v : Value) (L : List Du) (h0 : 0 < L.length) (w : World) (h : HeapAt w b v L) (hh : IsHeap L) : Calls Try.prog 18 #[.pointer (some ⟨b, 0, none⟩)] w (HActPost w b v (fun M => (ga L 0 :: M).Perm L) (dv (ga L 0))) := by
  obtain ⟨g, cap, rfl, hg1, hg2⟩ := h.own.form h0
  have hl := h.len
  obtain ⟨hcap, hmax⟩ := own_cap h.own
  unfold maxLen at hmax
  obtain ⟨n, hn⟩ : ∃ n, n = L.length := ⟨_, rfl⟩
  have hG : HeapG w b g n cap L := ⟨by rw [hn]; exact h, hn.symm⟩
  rw [← hn] at hcap hl h0 ⊢
  clear h
  obtain ⟨c0, c1⟩ := hG.cells
  obtain ⟨x0, x1, x2⟩ := hG.elem 0 h0
  simp at x0 x1 x2
  have hbl := hG.1.blk.lt
  have G := Lib.hid hG
  obtain ⟨l, hlI⟩ : ∃ l : Nat, (n : Int) - 1 = (l : Int) := ⟨n - 1, by omega⟩
  have hln : l < n := by omega
  have hll : l + 1 = n := by omega
  have HN := Lib.hid hn
  clear hG hn
  go_enter Try.func18, Try.ntmps18
  go_wp2_with fail
  generalize hw2 : (w.alloc _).alloc _ = w2
  have hk2 : Kept [] w w2 := by rw [← hw2]; exact ((Kept.refl _ _).alloc _).alloc _
  have hG2 := G.out.kept hk2 (by simp) (by simp)
  have hB1 : Blk w2 w.heap.size #[.int .i64 0, .int .u32 0, .int .i64 0] 30 := by rw [← hw2]; exact Blk.alloc (Blk.new _ _ _) _
  have hB2 : Blk w2 (w.heap.size + 1) #[.int .i64 (ga L 0).st, .int .u32 (ga L 0).bl, .int .i64 (ga L 0).at_] 30 := by rw [← hw2]; exact Blk.new' (by simp)
  clear hw2 c0 c1 x0 x1 x2
  obtain ⟨c0, c1⟩ := hG2.cells
  obtain ⟨y0, y1, y2⟩ := hG2.elem l hln
  obtain ⟨x0, x1, x2⟩ := hG2.elem 0 h0
  have f0 := hG2.free 0
  have f1 := hG2.free 1
  have f2 := hG2.free 2
  have g0 := hG2.1.blk.free 0
  simp at x0 x1 x2
  have G2 := Lib.hid hG2
  have HB1 := Lib.hid hB1
  have HB2 := Lib.hid hB2
  have HK2 := Lib.hid hk2
  have hbg : b ≠ g := by omega
  have q1 : (0 : Int) ≤ (l : Int) := by omega
  have q2 : (l : Int) < (n : Int) := by omega
  have q3 : IntKind.i64.wrap ((n : Int) - 1) = (n : Int) - 1 := IntWalk.i64_in _ (by omega)
  clear hG2 hB1 hB2 hk2
  go_region
  go_wp2_with fail
  have hG3 : HeapG (((set3 w2 g 0 (ga L l)).setCell ⟨b, 0, none⟩ (.slice (some ⟨g, 0, none⟩) l cap)).drew) b g l cap ((L.set 0 (ga L l)).take l) := ((G2.out.put 0 h0 (ga L l)).cut l (by omega)).kept ((Kept.refl [] _).drew) (by simp) (by simp)
  have hk3 : Kept [b, g] w2 (((set3 w2 g 0 (ga L l)).setCell ⟨b, 0, none⟩ (.slice (some ⟨g, 0, none⟩) l cap)).drew) := ((set3_kept (Kept.refl _ _) g 0 _ (.inl (by simp))).set _ (.inl (by simp)) _).drew
  have hLl : L.length - 1 = l := by have := HN.out; omega
  have hD : DownInv ((L.set 0 (ga L l)).take l) 0 := by
    have := down_start L hh (ga L l) (by have := HN.out; omega)
    rwa [hLl] at this
  have hPm : (ga L 0 :: (L.set 0 (ga L l)).take l).Perm L := by
    have := down_perm L (by have := HN.out; omega)
    rwa [hLl] at this
  have HX := Lib.hid (And.intro hG3 (And.intro hk3 hPm))
  clear hG3 hk3 hPm hLl c0 c1 x0 x1 x2 y0 y1 y2 f0 f1 f2 g0
  refine (hdown b g l cap _ _ (by exact HX.out.1) hD).mono ?_
  rintro e w4 ⟨rfl, M, hG4, hP4, hH4, hK4⟩
  have hk4 : Kept [b, g] w2 w4 := HX.out.2.1.trans (by exact hK4) (fun x hx => .inl (by simp at hx; simp [hx]))
  have hC1 : Blk w4 w.heap.size #[.int .i64 0, .int .u32 0, .int .i64 0] 30 := HB1.out.kept hk4 (by simp; omega)
  have hC2 : Blk w4 (w.heap.size + 1) #[.int .i64 (ga L 0).st, .int .u32 (ga L 0).bl, .int .i64 (ga L 0).at_] 30 := HB2.out.kept hk4 (by simp; omega)
  have y0 := hC2.cell 0
  have y1 := hC2.cell 1
  have y2 := hC2.cell 2
  have x0 := hC1.cell 0
  have x1 := hC1.cell 1
  have x2 := hC1.cell 2
  have f0 := hC1.free 0
  have f1 := hC1.free 1
  have f2 := hC1.free 2
  simp at x0 x1 x2 y0 y1 y2
  have HY := Lib.hid (And.intro hG4 (And.intro hk4 (And.intro hP4 (And.intro hH4 hC1))))
  clear hG4 hk4 hP4 hH4 hC1 hC2 hK4 hD
  go_wp2_with fail
  obtain ⟨hG4, hk4, hP4, hH4, hC1⟩ := HY.out
  have hkf : Kept [w.heap.size] w4 (set3 w4 w.heap.size 0 (ga L 0)) := set3_kept (Kept.refl _ _) _ 0 _ (.inl (by simp))
  refine bodyPost_ret (res_take _ _ w.heap.size (ga L 0) (((hC1.set 0 _).set 1 _).set 2 _) rfl) rfl ⟨rfl, .slice (some ⟨g, 0, none⟩) l cap, M, ?_, hH4, (hP4.cons _).trans HX.out.2.2, ?_, fun x hx => .inl hx⟩
  · exact (hG4.kept hkf (by simp; omega) (by simp; omega)).1
  · exact ((HK2.out.mono (by simp)).trans hk4 (fun x hx => .inl (by simp at hx; rcases hx with h | h <;> simp [h, rowOf, Value.ownBlock]))).trans hkf (fun x hx => .inr (by simp at hx; omega))
set_option maxRecDepth 100000 in
set_option maxHeartbeats 4000000 in
theorem hpop (b : Nat) (v : Value) (L : List Du) (h0 : 0 < L.length) (w : World) (h : HeapAt w b v L) (hh : IsHeap L) : Calls Try.prog 13 #[.pointer (some ⟨b, 0, none⟩)] w (HActPost w b v (fun M => (ga L 0 :: M).Perm L) (.tuple #[dv (ga L 0), .bool true])) := by
  have b0 : ((L.length : Int) == 0) = false := by rw [beq_eq_false_iff_ne]; omega
  have hbl := h.blk.lt
  obtain ⟨O, hO⟩ : ∃ O : Obj, O = .cells #[.int .i64 0, .int .u32 0, .int .i64 0] 30 := ⟨_, rfl⟩
  have hW := h.kept ((Kept.refl [] w).alloc O) (by simp) (by simp)
  have HL := Lib.hid (hlen_any b v L (w.alloc O) hW)
  have HT := Lib.hid (httake b v L h0 (w.alloc O) hW hh)
  have hB : Blk (w.alloc O) w.heap.size #[.int .i64 0, .int .u32 0, .int .i64 0] 30 := by rw [hO]; exact Blk.new _ _ _
  have HB := Lib.hid hB
  have hrows := fun x (hx : x ∈ rowOf v) => (own_lt h.own x hx).2
  have HR := Lib.hid hrows
  clear h hW hB hrows
  subst hO
  go_enter Try.func13, Try.ntmps13
  go_wp2_with (go_at_call 17; refine (HL.out).mono ?_; rintro e w' ⟨rfl, rfl⟩)
  refine HT.out.mono ?_
  rintro e w4 ⟨rfl, v4, M, hH4, hI4, hP4, hk4, hr4⟩
  have hC1 : Blk w4 w.heap.size #[.int .i64 0, .int .u32 0, .int .i64 0] 30 := HB.out.kept hk4 (fun hm => by
    rcases List.mem_cons.1 hm with h | h
    · omega
    · have := HR.out _ h; omega)
  have x0 := hC1.cell 0
  have x1 := hC1.cell 1
  have x2 := hC1.cell 2
  have f0 := hC1.free 0
  have f1 := hC1.free 1
  have f2 := hC1.free 2
  simp at x0 x1 x2
  have HY := Lib.hid (And.intro hH4 (And.intro hI4 (And.intro hP4 (And.intro hk4 (And.intro hr4 hC1)))))
  clear hH4 hI4 hP4 hk4 hr4 hC1
  unfold dv
  go_wp2_with fail
  obtain ⟨hH4, hI4, hP4, hk4, hr4, hC1⟩ := HY.out
  have hkf : Kept [w.heap.size] w4 (set3 w4 w.heap.size 0 (ga L 0)) := set3_kept (Kept.refl _ _) _ 0 _ (.inl (by simp))
  have hr5 : ∀ x ∈ rowOf v4, x ∈ rowOf v ∨ w.heap.size < x := fun x hx => by
    rcases hr4 x hx with h | h
    · exact .inl h
    · right; simp at h; omega
  refine bodyPost_ret (res_pop _ _ w.heap.size (ga L 0) _ (((hC1.set 0 _).set 1 _).set 2 _) rfl rfl) rfl ⟨rfl, v4, M, ?_, hI4, hP4, ?_, fun x hx => ?_⟩
  · exact hH4.kept hkf (by simp; omega) (fun x hx => by
      rcases hr5 x hx with h | h
      · have := HR.out x h; simp; omega
      · simp; omega)
  · exact (((Kept.refl _ _).alloc _).trans hk4 (fun x hx => .inl hx)).trans hkf (fun x hx => .inr (by simp at hx; omega))
  · rcases hr5 x hx with h | h
    · exact .inl h
    · right; omega
end Go.Proofs.Ytplgcnlnhboneaa
