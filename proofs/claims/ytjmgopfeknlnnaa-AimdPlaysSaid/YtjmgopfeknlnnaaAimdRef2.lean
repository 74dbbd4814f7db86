/- Contracts of lightshipref47. -/
import Derived.Test.YtjmgopfeknlnnaaAimdGrow
import Derived.Test.YtjmgopfeknlnnaaAimdRef
namespace Go.Proofs.Ytjmgopfeknlnnaa
open Go.ChangeShapes Go.WideShapes Go.ChangeAt Go.RowKit
set_option linter.unusedVariables false

def WPost (W : World) (x : Win) (e : Ending) (w' : World) : Prop := e = .returned (.agg x.cells) ∧ Below W.heap.size W w'
theorem res_acked (tm : Array Value) (w : World) (b : Nat) (x : Win) (h : Blk w b x.cells 30) (h4 : tm.getD 4 undef = .pointer (some ⟨b, 0, none⟩)) :
    (results Try.f9 tm).run Try.prog w = .ok (.agg x.cells) w := by
  have c0 : w.cell? ⟨b, 0, none⟩ = some (.int .i64 x.least) := h.cell 0
  have c1 : w.cell? ⟨b, 1, none⟩ = some (.int .i64 x.most) := h.cell 1
  have c2 : w.cell? ⟨b, 2, none⟩ = some (.int .i64 x.size) := h.cell 2
  have c3 : w.cell? ⟨b, 3, none⟩ = some (.int .i64 x.bound) := h.cell 3
  have c4 : w.cell? ⟨b, 4, none⟩ = some (.int .i64 x.owed) := h.cell 4
  have c5 : w.cell? ⟨b, 5, none⟩ = some (.int .u32 x.next) := h.cell 5
  have c6 : w.cell? ⟨b, 6, none⟩ = some (.bool x.lost) := h.cell 6
  simp only [Array.getD_eq_getD_getElem?] at h4
  simp [results, Try.results9, go_sem, h4, c0, c1, c2, c3, c4, c5, c6, Win.cells]
set_option maxRecDepth 100000 in
set_option maxHeartbeats 4000000 in
theorem refAcked_few (x : Win) (n : Int) (hn : n < 1) (w : World) : Calls Try.prog 9 #[.agg x.cells, .int .i64 n] w (WPost w x) := by
  unfold Win.cells
  go_enter Try.func9, Try.ntmps9
  go_wp2
  exact bodyPost_ret (res_acked _ _ (w.heap.size + 1) x (by refine Blk.new' ?_; simp) rfl) rfl ⟨rfl, by go_grown⟩

set_option maxRecDepth 100000 in
set_option maxHeartbeats 4000000 in
theorem refAcked_slow (x : Win) (n : Int) (hn : 1 ≤ n) (hx : x.Ok) (hs : x.size < x.bound) (w : World) : Calls Try.prog 9 #[.agg x.cells, .int .i64 n] w (WPost w (acked x n)) := by
  have o3 := hx.sm
  have o4 := hx.m
  have o5 := hx.l1
  have o6 := hx.ls
  unfold Win.cells
  by_cases hm : n ≤ 65535
  · by_cases hm2 : x.size + n ≤ x.most
    ·
      have hA : acked x n = { x with size := x.size + n } := by
        unfold acked; rw [if_neg (by omega), if_pos hs, show min (x.size + min n 65535) x.most = x.size + n by omega]
      have HA := Lib.hid hA
      clear hA
      go_enter Try.func9, Try.ntmps9
      go_wp2
      exact bodyPost_ret (res_acked _ _ (w.heap.size + 1) { x with size := x.size + n } (by refine Blk.new' ?_; simp) rfl) rfl ⟨by rw [HA.out], by go_grown⟩
    ·
      have hA : acked x n = { x with size := x.most } := by
        unfold acked; rw [if_neg (by omega), if_pos hs, show min (x.size + min n 65535) x.most = x.most by omega]
      have HA := Lib.hid hA
      clear hA
      go_enter Try.func9, Try.ntmps9
      go_wp2
      exact bodyPost_ret (res_acked _ _ (w.heap.size + 1) { x with size := x.most } (by refine Blk.new' ?_; simp) rfl) rfl ⟨by rw [HA.out], by go_grown⟩
  ·
    have hA : acked x n = { x with size := x.most } := by
      unfold acked; rw [if_neg (by omega), if_pos hs, show min (x.size + min n 65535) x.most = x.most by omega]
    have HA := Lib.hid hA
    clear hA
    go_enter Try.func9, Try.ntmps9
    go_wp2
    exact bodyPost_ret (res_acked _ _ (w.heap.size + 1) { x with size := x.most } (by refine Blk.new' ?_; simp) rfl) rfl ⟨by rw [HA.out], by go_grown⟩

theorem Blk.fill7 {w : World} {b : Nat} {c0 c1 c2 c3 c4 c5 c6 v0 v1 v2 v3 v4 v5 v6 : Value} {T : TypeId} (h : Blk w b #[c0, c1, c2, c3, c4, c5, c6] T) :
    Blk (((((((w.setCell ⟨b, 0, none⟩ v0).setCell ⟨b, 1, none⟩ v1).setCell ⟨b, 2, none⟩ v2).setCell ⟨b, 3, none⟩ v3).setCell ⟨b, 4, none⟩ v4).setCell ⟨b, 5, none⟩ v5).setCell ⟨b, 6, none⟩ v6) b #[v0, v1, v2, v3, v4, v5, v6] T := by
  have := ((((((h.set 0 v0).set 1 v1).set 2 v2).set 3 v3).set 4 v4).set 5 v5).set 6 v6
  simpa using this
def BState (W : World) (x : Win) (g : Int × Int) (w : World) : Prop := ∃ o s : Int, Blk w W.heap.size (Win.cells { x with owed := o, size := s }) 30 ∧ Blk w (W.heap.size + 1) #[.int .i64 0, .int .i64 0, .int .i64 0, .int .i64 0, .int .i64 0, .int .u32 0, .bool false] 30 ∧ grow o s x.most = g ∧ 0 ≤ o ∧ o ≤ 131070 ∧ x.size ≤ s ∧ s ≤ x.most ∧ Below W.heap.size W w
set_option maxRecDepth 100000 in
set_option maxHeartbeats 8000000 in
theorem refAcked_grow (x : Win) (n n' : Int) (hn : 1 ≤ n) (hn' : min n 65535 = n') (hx : x.Ok) (hs : ¬ x.size < x.bound) (w : World) : Calls Try.prog 9 #[.agg x.cells, .int .i64 n] w (WPost w (acked x n)) := by
  have o1 := hx.l1
  have o2 := hx.ls
  have o3 := hx.sm
  have o4 := hx.m
  have o5 := hx.o0
  have o6 := hx.os
  have hn1 : n' ≤ 65535 := by omega
  have hn2 : 1 ≤ n' := by omega
  have HN := Lib.hid hn'
  clear hn'
  unfold Win.cells
  by_cases hm : n ≤ 65535
  · have hnn : n' = n := by have := HN.out; omega
    subst hnn
    go_enter Try.func9, Try.ntmps9
    go_wp2_with fail
    go_loopw [29] (fun _ wr => BState w x (grow (x.owed + n') x.size x.most) wr) (fun _ wr => (x.most - intOf ((wr.cell? ⟨w.heap.size, 2, none⟩).getD undef)).toNat)
    case atStart => exact ⟨x.owed + n', x.size, Blk.alloc (Blk.new w _ _) _, by refine Blk.new' ?_; simp, rfl, by omega, by omega, by omega, by omega, by go_grown⟩
    case round =>
      obtain ⟨o, s, hW, hR, hgg, q1, q2, q3, q4, hb⟩ := hrel
      have c0 : wr.cell? ⟨w.heap.size, 0, none⟩ = some (.int .i64 x.least) := hW.cell 0
      have c1 : wr.cell? ⟨w.heap.size, 1, none⟩ = some (.int .i64 x.most) := hW.cell 1
      have c2 : wr.cell? ⟨w.heap.size, 2, none⟩ = some (.int .i64 s) := hW.cell 2
      have c3 : wr.cell? ⟨w.heap.size, 3, none⟩ = some (.int .i64 x.bound) := hW.cell 3
      have c4 : wr.cell? ⟨w.heap.size, 4, none⟩ = some (.int .i64 o) := hW.cell 4
      have c5 : wr.cell? ⟨w.heap.size, 5, none⟩ = some (.int .u32 x.next) := hW.cell 5
      have c6 : wr.cell? ⟨w.heap.size, 6, none⟩ = some (.bool x.lost) := hW.cell 6
      have f2 := hW.free 2
      have f4 := hW.free 4
      have HG := Lib.hid hgg
      clear hgg
      by_cases k1 : s ≤ o
      · by_cases k2 : s < x.most
        · have hst := Lib.hid (grow_step o s x.most k1 k2)
          go_wp2_with fail
          go_roundw
          case rel => exact ⟨o - s, s + 1, (hW.set 4 (.int .i64 (o - s))).set 2 (.int .i64 (s + 1)), (hR.other _ (Nat.succ_ne_self _) _).other _ (Nat.succ_ne_self _) _, hst.out.symm.trans HG.out, by omega, by omega, by omega, by omega, by go_grown⟩
          case measure =>
            have e2 := ((hW.set 4 (.int .i64 (o - s))).set 2 (.int .i64 (s + 1))).cell 2
            have e2' : ((wr.setCell { block := w.heap.size, off := 4 } (Value.int IntKind.i64 (o - s))).setCell { block := w.heap.size, off := 2 } (Value.int IntKind.i64 (s + 1))).cell? ⟨w.heap.size, 2, none⟩ = some (.int .i64 (s + 1)) := by rw [e2]; rfl
            rw [e2', c2]
            simp [intOf]
            omega
        · have HE := Lib.hid (HG.out.symm.trans (grow_end o s x.most (by omega)))
          have d2 : (s == x.most) = true := by simp; omega
          have hsm : s = x.most := by omega
          have HS := Lib.hid hsm
          clear hsm
          have r0 := hR.cell 0
          have r1 := hR.cell 1
          have r2 := hR.cell 2
          have r3 := hR.cell 3
          have r4 := hR.cell 4
          have r5 := hR.cell 5
          have r6 := hR.cell 6
          simp at r0 r1 r2 r3 r4 r5 r6
          have fr := hR.free
          go_wp2_with fail
          have hA : acked x n' = { x with size := s, owed := 0 } := by
            unfold acked
            rw [if_neg (by omega), if_neg (by omega), show min n' 65535 = n' from by have := HN.out; omega]
            simp only [HE.out]
            have := HS.out
            congr 1
            split <;> omega
          refine bodyPost_ret (res_acked _ _ (w.heap.size + 1) { x with size := s, owed := 0 } (by exact ((hR.other _ (Nat.succ_ne_self _) _).fill7)) rfl) rfl ⟨by rw [hA], by go_grown⟩
      · have HE := Lib.hid (HG.out.symm.trans (grow_end o s x.most (by omega)))
        by_cases k3 : s = x.most
        · have HS := Lib.hid k3
          have d2 : (s == x.most) = true := by simpa using k3
          clear k3
          have r0 := hR.cell 0
          have r1 := hR.cell 1
          have r2 := hR.cell 2
          have r3 := hR.cell 3
          have r4 := hR.cell 4
          have r5 := hR.cell 5
          have r6 := hR.cell 6
          simp at r0 r1 r2 r3 r4 r5 r6
          have fr := hR.free
          go_wp2_with fail
          have hA : acked x n' = { x with size := s, owed := 0 } := by
            unfold acked
            rw [if_neg (by omega), if_neg (by omega), show min n' 65535 = n' from by have := HN.out; omega]
            simp only [HE.out]
            have := HS.out
            congr 1
            split <;> omega
          refine bodyPost_ret (res_acked _ _ (w.heap.size + 1) { x with size := s, owed := 0 } (by exact ((hR.other _ (Nat.succ_ne_self _) _).fill7)) rfl) rfl ⟨by rw [hA], by go_grown⟩
        · have HS := Lib.hid k3
          have d2 : (s == x.most) = false := by simpa using k3
          clear k3
          have r0 := hR.cell 0
          have r1 := hR.cell 1
          have r2 := hR.cell 2
          have r3 := hR.cell 3
          have r4 := hR.cell 4
          have r5 := hR.cell 5
          have r6 := hR.cell 6
          simp at r0 r1 r2 r3 r4 r5 r6
          have fr := hR.free
          go_wp2_with fail
          have hA : acked x n' = { x with size := s, owed := o } := by
            unfold acked
            rw [if_neg (by omega), if_neg (by omega), show min n' 65535 = n' from by have := HN.out; omega]
            simp only [HE.out]
            have := HS.out
            congr 1
            split <;> omega
          refine bodyPost_ret (res_acked _ _ (w.heap.size + 1) { x with size := s, owed := o } (by exact hR.fill7) rfl) rfl ⟨by rw [hA], by go_grown⟩
  · have hnn : n' = 65535 := by have := HN.out; omega
    subst hnn
    go_enter Try.func9, Try.ntmps9
    go_wp2_with fail
    go_loopw [29] (fun _ wr => BState w x (grow (x.owed + 65535) x.size x.most) wr) (fun _ wr => (x.most - intOf ((wr.cell? ⟨w.heap.size, 2, none⟩).getD undef)).toNat)
    case atStart => exact ⟨x.owed + 65535, x.size, Blk.alloc (Blk.new w _ _) _, by refine Blk.new' ?_; simp, rfl, by omega, by omega, by omega, by omega, by go_grown⟩
    case round =>
      obtain ⟨o, s, hW, hR, hgg, q1, q2, q3, q4, hb⟩ := hrel
      have c0 : wr.cell? ⟨w.heap.size, 0, none⟩ = some (.int .i64 x.least) := hW.cell 0
      have c1 : wr.cell? ⟨w.heap.size, 1, none⟩ = some (.int .i64 x.most) := hW.cell 1
      have c2 : wr.cell? ⟨w.heap.size, 2, none⟩ = some (.int .i64 s) := hW.cell 2
      have c3 : wr.cell? ⟨w.heap.size, 3, none⟩ = some (.int .i64 x.bound) := hW.cell 3
      have c4 : wr.cell? ⟨w.heap.size, 4, none⟩ = some (.int .i64 o) := hW.cell 4
      have c5 : wr.cell? ⟨w.heap.size, 5, none⟩ = some (.int .u32 x.next) := hW.cell 5
      have c6 : wr.cell? ⟨w.heap.size, 6, none⟩ = some (.bool x.lost) := hW.cell 6
      have f2 := hW.free 2
      have f4 := hW.free 4
      have HG := Lib.hid hgg
      clear hgg
      by_cases k1 : s ≤ o
      · by_cases k2 : s < x.most
        · have hst := Lib.hid (grow_step o s x.most k1 k2)
          go_wp2_with fail
          go_roundw
          case rel => exact ⟨o - s, s + 1, (hW.set 4 (.int .i64 (o - s))).set 2 (.int .i64 (s + 1)), (hR.other _ (Nat.succ_ne_self _) _).other _ (Nat.succ_ne_self _) _, hst.out.symm.trans HG.out, by omega, by omega, by omega, by omega, by go_grown⟩
          case measure =>
            have e2 := ((hW.set 4 (.int .i64 (o - s))).set 2 (.int .i64 (s + 1))).cell 2
            have e2' : ((wr.setCell { block := w.heap.size, off := 4 } (Value.int IntKind.i64 (o - s))).setCell { block := w.heap.size, off := 2 } (Value.int IntKind.i64 (s + 1))).cell? ⟨w.heap.size, 2, none⟩ = some (.int .i64 (s + 1)) := by rw [e2]; rfl
            rw [e2', c2]
            simp [intOf]
            omega
        · have HE := Lib.hid (HG.out.symm.trans (grow_end o s x.most (by omega)))
          have d2 : (s == x.most) = true := by simp; omega
          have hsm : s = x.most := by omega
          have HS := Lib.hid hsm
          clear hsm
          have r0 := hR.cell 0
          have r1 := hR.cell 1
          have r2 := hR.cell 2
          have r3 := hR.cell 3
          have r4 := hR.cell 4
          have r5 := hR.cell 5
          have r6 := hR.cell 6
          simp at r0 r1 r2 r3 r4 r5 r6
          have fr := hR.free
          go_wp2_with fail
          have hA : acked x n = { x with size := s, owed := 0 } := by
            unfold acked
            rw [if_neg (by omega), if_neg (by omega), show min n 65535 = 65535 from by have := HN.out; omega]
            simp only [HE.out]
            have := HS.out
            congr 1
            split <;> omega
          refine bodyPost_ret (res_acked _ _ (w.heap.size + 1) { x with size := s, owed := 0 } (by exact ((hR.other _ (Nat.succ_ne_self _) _).fill7)) rfl) rfl ⟨by rw [hA], by go_grown⟩
      · have HE := Lib.hid (HG.out.symm.trans (grow_end o s x.most (by omega)))
        by_cases k3 : s = x.most
        · have HS := Lib.hid k3
          have d2 : (s == x.most) = true := by simpa using k3
          clear k3
          have r0 := hR.cell 0
          have r1 := hR.cell 1
          have r2 := hR.cell 2
          have r3 := hR.cell 3
          have r4 := hR.cell 4
          have r5 := hR.cell 5
          have r6 := hR.cell 6
          simp at r0 r1 r2 r3 r4 r5 r6
          have fr := hR.free
          go_wp2_with fail
          have hA : acked x n = { x with size := s, owed := 0 } := by
            unfold acked
            rw [if_neg (by omega), if_neg (by omega), show min n 65535 = 65535 from by have := HN.out; omega]
            simp only [HE.out]
            have := HS.out
            congr 1
            split <;> omega
          refine bodyPost_ret (res_acked _ _ (w.heap.size + 1) { x with size := s, owed := 0 } (by exact ((hR.other _ (Nat.succ_ne_self _) _).fill7)) rfl) rfl ⟨by rw [hA], by go_grown⟩
        · have HS := Lib.hid k3
          have d2 : (s == x.most) = false := by simpa using k3
          clear k3
          have r0 := hR.cell 0
          have r1 := hR.cell 1
          have r2 := hR.cell 2
          have r3 := hR.cell 3
          have r4 := hR.cell 4
          have r5 := hR.cell 5
          have r6 := hR.cell 6
          simp at r0 r1 r2 r3 r4 r5 r6
          have fr := hR.free
          go_wp2_with fail
          have hA : acked x n = { x with size := s, owed := o } := by
            unfold acked
            rw [if_neg (by omega), if_neg (by omega), show min n 65535 = 65535 from by have := HN.out; omega]
            simp only [HE.out]
            have := HS.out
            congr 1
            split <;> omega
          refine bodyPost_ret (res_acked _ _ (w.heap.size + 1) { x with size := s, owed := o } (by exact hR.fill7) rfl) rfl ⟨by rw [hA], by go_grown⟩
end Go.Proofs.Ytjmgopfeknlnnaa
