/- lightshiplaw58.awake. -/
import Derived.Test.YtplgcnlnhboneaaMergeTwice
namespace Go.Proofs.Ytplgcnlnhboneaa
open Go.ChangeShapes Go.WideShapes Go.ChangeAt Go.RowKit
set_option linter.unusedVariables false

def TruePost (W : World) (e : Ending) (w' : World) : Prop := e = .returned (.bool true) ∧ Below W.heap.size W w'
def kd (n : Int) : Du := ⟨0, 0, n⟩
theorem src_blk {w : World} {b n : Nat} {L : List Du} {T : TypeId} (h : Blk w b (dl L).toArray T) (hn : n = L.length) (hb : n ≤ 1000) : Src w (some ⟨b, 0, none⟩) n n 3 (dl L) := by
  subst hn
  refine ⟨dl_len L, Nat.le_refl _, by unfold maxLen; omega, (fun h => nomatch h), (fun a ha => by injection ha with ha; subst ha; rfl), fun a ha j u hu => ?_⟩
  injection ha with ha; subst ha
  rw [add_plain, h.cell]
  simpa using hu
def L1 (i : Nat) : List Du := if i = 0 then [kd 1, kd 3] else [kd 2]
def R1 (z : Nat) (i : Nat) : Option Addr × Nat := if i = 0 then (some ⟨z, 0, none⟩, 2) else (some ⟨z + 1, 0, none⟩, 1)
theorem lists1 {w : World} {z : Nat} (h0 : Blk w z (dl [kd 1, kd 3]).toArray 30) (h1 : Blk w (z + 1) (dl [kd 2]).toArray 30) (h2 : Blk w (z + 1 + 1) #[.slice (some ⟨z, 0, none⟩) 2 2, .slice (some ⟨z + 1, 0, none⟩) 1 1] 24) :
    Lists w w.heap.size (some ⟨z + 1 + 1, 0, none⟩) 2 (z + 1 + 1) 0 (R1 z) L1 := by
  refine ⟨fun _ => rfl, .inr h2.lt, fun i hi => ?_, fun i hi h => ?_, fun i hi h a ha => ?_⟩
  · rw [Nat.zero_add, h2.cell]
    match i, hi with
    | 0, _ => rfl
    | 1, _ => rfl
  · match i, hi with
    | 0, _ => exact src_blk h0 rfl (by decide)
    | 1, _ => exact src_blk h1 rfl (by decide)
  · match i, hi with
    | 0, _ => simp [R1] at ha; subst ha; exact h0.lt
    | 1, _ => simp [R1] at ha; subst ha; exact h1.lt
theorem lists2 {w : World} {z : Nat} (h0 : Blk w z (dl [kd 1, kd 0]).toArray 30) (h2 : Blk w (z + 1) #[.slice (some ⟨z, 0, none⟩) 2 2] 24) :
    Lists w w.heap.size (some ⟨z + 1, 0, none⟩) 1 (z + 1) 0 (fun _ => (some ⟨z, 0, none⟩, 2)) (fun _ => [kd 1, kd 0]) := by
  refine ⟨fun _ => rfl, .inr h2.lt, fun i hi => ?_, fun i hi h => ?_, fun i hi h a ha => ?_⟩
  · rw [Nat.zero_add, h2.cell]
    match i, hi with
    | 0, _ => rfl
  · exact src_blk h0 rfl (by decide)
  · simp at ha; subst ha; exact h0.lt
theorem ris13 : ∀ i, i < 2 → risB (L1 i) (L1 i).length := by
  intro i hi
  apply srt_ris
  match i, hi with
  | 0, _ => simp [L1, Srt, kd, Du.lt]
  | 1, _ => simp [L1, Srt]
theorem nris : ¬ ∀ i, i < 1 → risB ((fun _ => [kd 1, kd 0]) i) ((fun _ => [kd 1, kd 0]) i : List Du).length := by
  intro h
  have := h 0 (by omega) 0 (by decide) (by decide)
  simp [ga, kd, Du.lt] at this
theorem tw001 : tw [kd 0, kd 0, kd 1] 2 = 1 := by simp [tw, ga, kd]
set_option maxRecDepth 100000 in
set_option maxHeartbeats 4000000 in
theorem awake_true (w : World) : Calls Try.prog 4 #[] w (TruePost w) := by
  go_enter Try.func4, Try.ntmps4
  go_wp2_with fail
  generalize hw1 : ((w.alloc _).alloc _).alloc _ = w1
  have hL1 : Lists w1 w1.heap.size (some ⟨w.heap.size + 1 + 1, 0, none⟩) 2 (w.heap.size + 1 + 1) 0 (R1 w.heap.size) L1 := by
    rw [← hw1]
    exact lists1 (((Blk.new _ _ _).alloc _).alloc _) ((Blk.new' (by simp)).alloc _) (Blk.new' (by simp))
  have hb1 : Below w.heap.size w w1 := by
    rw [← hw1]
    exact (((Below.refl _ _).alloc (by simp) _).alloc (by simp) _).alloc (by simp; omega) _
  clear hw1
  have HA := Lib.hid (all_ok _ 2 2 _ _ _ L1 (by unfold maxLen; omega) (by omega) (by omega) (by decide) w1 hL1 ris13)
  clear hL1
  refine HA.out.mono ?_
  clear HA
  rintro e w2 ⟨p, n, cap, out, rfl, rfl, hsrc, hperm, hsrt, hblk, hb2⟩
  have hout : out = [kd 1, kd 2, kd 3] := srt_unique hsrt (by simp [Srt, kd, Du.lt]) (hperm.trans (by
    show ([kd 1, kd 3] ++ [kd 2] : List Du).Perm [kd 1, kd 2, kd 3]
    exact (List.Perm.swap _ _ _).cons _))
  subst hout
  have hb2' := hb1.trans (hb2.mono hb1.size)
  have HS2 := Lib.hid hsrc
  have HP2 := Lib.hid hblk
  clear hb1 hb2 hperm hsrt hsrc hblk
  show _
  go_wp2_with fail
  generalize hw3 : (w2.alloc _).alloc _ = w3
  have hL3 : Lists w3 w3.heap.size (some ⟨w2.heap.size + 1, 0, none⟩) 1 (w2.heap.size + 1) 0 (fun _ => (some ⟨w2.heap.size, 0, none⟩, 2)) (fun _ => [kd 1, kd 0]) := by
    rw [← hw3]
    exact lists2 ((Blk.new _ _ _).alloc _) (Blk.new' (by simp))
  have hk3 : Kept [] w2 w3 := by rw [← hw3]; exact ((Kept.refl _ _).alloc _).alloc _
  clear hw3
  refine (all_form _ 1 1 _ _ _ _ (by unfold maxLen; omega) (by omega) (by omega) w3 hL3 nris).mono ?_
  clear hL3
  rintro e w4 ⟨rfl, hb4⟩
  have hk4 : Kept [] w2 w4 := hk3.trans (Kept.of_below hb4 []) (fun x hx => .inl hx)
  have hs4 := HS2.out.kept hk4 (by simp)
  have hb4' : Below w.heap.size w w4 := hb2'.trans (hk4.below hb2'.size (by simp))
  have hp4 : ∀ a, p = some a → a.block < w4.heap.size := fun a ha => Nat.lt_of_lt_of_le (HP2.out a ha) hk4.size
  have HS4 := Lib.hid hs4
  have HB4 := Lib.hid hb4'
  clear HS2 HP2 hk3 hk4 hs4 hb4' hb4 hb2' hp4
  go_wp2_with fail
  generalize hw5 : w4.alloc _ = w5
  have hk5 : Kept [] w4 w5 := by rw [← hw5]; exact (Kept.refl _ _).alloc _
  have hs5 : Src w5 (some ⟨w4.heap.size, 0, none⟩) 3 3 3 (dl [kd 1, kd 2, kd 3]) := src_blk (T := 30) (by rw [← hw5]; exact Blk.new _ _ _) rfl (by decide)
  have hb5 : Below w.heap.size w w5 := HB4.out.trans (hk5.below HB4.out.size (by simp))
  have hs6 := HS4.out.kept hk5 (by simp)
  clear hw5 hk5
  refine (same_true p _ cap 3 3 [kd 1, kd 2, kd 3] rfl (by decide) w5 hs6 hs5).mono ?_
  rintro e w6 ⟨rfl, q6, rfl⟩
  have HB5 := Lib.hid hb5
  clear hs6 hs5 hb5 HS4 HB4
  go_wp2_with fail
  generalize hw7 : (w5.drewN q6).alloc _ = w7
  have hb7 : Below w.heap.size w w7 := by rw [← hw7]; exact (bdrewN HB5.out q6).alloc (by exact HB5.out.size) _
  have hs7 : Src w7 (some ⟨w5.heap.size, 0, none⟩) 3 3 3 (dl [kd 0, kd 0, kd 1]) := src_blk (T := 30) (by rw [← hw7]; exact Blk.new' rfl) rfl (by decide)
  refine (mtwice _ 3 3 [kd 0, kd 0, kd 1] rfl (by decide) w7 hs7).mono ?_
  rintro e w8 ⟨rfl, q8, rfl⟩
  rw [tw001]
  have HB7 := Lib.hid hb7
  clear hs7 hb7 hw7 HB5
  go_wp2_with fail
  go_ret
  exact ⟨rfl, bdrewN HB7.out q8⟩
end Go.Proofs.Ytplgcnlnhboneaa
