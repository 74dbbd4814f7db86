/- Contracts of package window: New, Base, Has, Mark, Slide. -/
import Derived.Test.YtappolgfkioihaaSerial
import Derived.Test.YtappolgfkioihaaU32
import Derived.BigQuiet
import Derived.Deep.QuietTactic
namespace Go.Proofs.Ytappolgfkioihaa
open Go.ChangeShapes Go.WideShapes Go.ChangeAt Go.RowKit
set_option linter.unusedVariables false

def keyIn (base win x : Nat) : Bool := withinB (x : Int) (base : Int) (win : Int)
theorem key_iff {base win x : Nat} : keyIn base win x = true ↔ 0 ≤ ahead base x ∧ ahead base x < win := by
  unfold keyIn withinB
  rw [Bool.and_eq_true, decide_eq_true_iff, decide_eq_true_iff]
/-- a window in block b, its marks in block bm -/
structure WinAt (w : World) (b bm base n c : Nat) (m : Nat → Bool) : Prop where
  blk : Blk w b #[.int .u32 (base : Int), .int .i64 (n : Int), .map (some bm)] 50
  mp : WMap w bm c m
  ne : b ≠ bm
  bb : base < 4294967296
  n1 : 1 ≤ n
  n2 : n ≤ 64
  cc : c ≤ 1000000
section
variable {w w' : World} {b bm base n c : Nat} {m : Nat → Bool}
theorem WinAt.kept {r : List Nat} (h : WinAt w b bm base n c m) (hk : Kept r w w') (h1 : b ∉ r) (h2 : bm ∉ r) : WinAt w' b bm base n c m := ⟨h.blk.kept hk h1, h.mp.kept hk h2, h.ne, h.bb, h.n1, h.n2, h.cc⟩
theorem WinAt.drewN (h : WinAt w b bm base n c m) (k : Nat) : WinAt (w.drewN k) b bm base n c m := h.kept ((Kept.refl [] w).drewN k) (by simp) (by simp)
theorem WinAt.lt (h : WinAt w b bm base n c m) : b < w.heap.size ∧ bm < w.heap.size := ⟨h.blk.lt, h.mp.lt⟩
theorem WinAt.cells (h : WinAt w b bm base n c m) : w.cell? ⟨b, 0, none⟩ = some (.int .u32 (base : Int)) ∧ w.cell? ⟨b, 1, none⟩ = some (.int .i64 (n : Int)) ∧ w.cell? ⟨b, 2, none⟩ = some (.map (some bm)) := ⟨h.blk.cell 0, h.blk.cell 1, h.blk.cell 2⟩
end
theorem wnew_bad (base n : Int) (hb : n < 1 ∨ 64 < n) (w : World) : Calls Try.prog 7 #[.int .u32 base, .int .i64 n] w fun e w' => e = .returned (.tuple #[.pointer none, .int .i64 1]) ∧ w = w' := by
  by_cases h1 : n < 1
  all_goals
    go_enter Try.func7, Try.ntmps7
    go_wp2
    go_ret2
    exact ⟨rfl, rfl⟩
def WNewPost (W : World) (base n : Nat) (e : Ending) (w' : World) : Prop := ∃ b bm, e = .returned (.tuple #[.pointer (some ⟨b, 0, none⟩), .int .i64 0]) ∧ WinAt w' b bm base n 0 (fun _ => false) ∧ W.heap.size ≤ b ∧ W.heap.size ≤ bm ∧ Below W.heap.size W w'
theorem wnew_good (base n : Nat) (h0 : base < 4294967296) (h1 : 1 ≤ n) (h2 : n ≤ 64) (w : World) : Calls Try.prog 7 #[.int .u32 (base : Int), .int .i64 (n : Int)] w (WNewPost w base n) := by
  have hmm := @run_makeMap Try.prog
  go_enter Try.func7, Try.ntmps7
  go_wp2
  go_ret2
  refine ⟨w.heap.size + 1, w.heap.size, rfl, ⟨Blk.new' (by simp), (WMap.made w).kept ((Kept.refl [] _).alloc _) (by simp), by omega, h0, h1, h2, by omega⟩, by omega, by omega, ?_⟩
  exact (((Kept.refl [] w).alloc _).alloc _).below (Nat.le_refl _) (by simp)
theorem wbase_any (b bm base n c : Nat) (m : Nat → Bool) (w : World) (h : WinAt w b bm base n c m) : Calls Try.prog 12 #[.pointer (some ⟨b, 0, none⟩)] w fun e w' => e = .returned (.int .u32 (base : Int)) ∧ w = w' := by
  obtain ⟨c0, c1, c2⟩ := h.cells
  go_enter Try.func12, Try.ntmps12
  go_wp2
  go_ret
  exact ⟨rfl, rfl⟩
theorem wbase_nil (w : World) : Calls Try.prog 12 #[.pointer none] w fun e w' => e = .returned (.int .u32 0) ∧ w = w' := by
  go_enter Try.func12, Try.ntmps12
  go_wp2
  go_ret
  exact ⟨rfl, rfl⟩
theorem whas_any (b bm base n c : Nat) (m : Nat → Bool) (x : Nat) (hx : x < 4294967296) (w : World) (h : WinAt w b bm base n c m) : Calls Try.prog 13 #[.pointer (some ⟨b, 0, none⟩), .int .u32 (x : Int)] w fun e w' => e = .returned (.bool (m x)) ∧ w = w' := by
  obtain ⟨c0, c1, c2⟩ := h.cells
  have hl := h.mp.look x hx
  go_enter Try.func13, Try.ntmps13
  go_wp2
  go_ret
  exact ⟨rfl, rfl⟩
theorem whas_nil (x : Int) (w : World) : Calls Try.prog 13 #[.pointer none, .int .u32 x] w fun e w' => e = .returned (.bool false) ∧ w = w' := by
  go_enter Try.func13, Try.ntmps13
  go_wp2
  go_ret
  exact ⟨rfl, rfl⟩
theorem wmark_nil (x : Int) (w : World) : Calls Try.prog 9 #[.pointer none, .int .u32 x] w fun e w' => e = .returned (.int .i64 0) ∧ w = w' := by
  go_enter Try.func9, Try.ntmps9
  go_wp2
  go_ret
  exact ⟨rfl, rfl⟩
def markK (base n : Nat) (m : Nat → Bool) (x : Nat) : Int := if lessB x base then 0 else if keyIn base n x = false then 1 else if m x then 2 else 3
def markM (base n : Nat) (m : Nat → Bool) (x : Nat) : Nat → Bool := if markK base n m x = 3 then setM m x true else m
def WAct (W : World) (b bm base n c : Nat) (m : Nat → Bool) (r : Value) (e : Ending) (w' : World) : Prop := e = .returned r ∧ WinAt w' b bm base n c m ∧ Kept [b, bm] W w'
theorem wmark_any (b bm base n c : Nat) (m : Nat → Bool) (x : Nat) (hx : x < 4294967296) (hc : c < 1000000) (w : World) (h : WinAt w b bm base n c m) :
    Calls Try.prog 9 #[.pointer (some ⟨b, 0, none⟩), .int .u32 (x : Int)] w (WAct w b bm base n (c + 1) (markM base n m x) (.int .i64 (markK base n m x))) := by
  obtain ⟨c0, c1, c2⟩ := h.cells
  have hbb := h.bb
  have HL := Lib.hid (fun w => serialLess (x : Int) (base : Int) (by omega) (by omega) (by omega) (by omega) w)
  have HW := Lib.hid (fun w => serialWithin (x : Int) (base : Int) (n : Int) (by omega) (by omega) (by omega) (by omega) w)
  have H := Lib.hid h
  have hup : WinAt w b bm base n (c + 1) m := ⟨h.blk, h.mp.mono (by omega), h.ne, h.bb, h.n1, h.n2, by omega⟩
  have HU := Lib.hid hup
  cases k1 : lessB x base with
  | true =>
    have e : markK base n m x = 0 := by unfold markK; rw [if_pos k1]
    have HE := Lib.hid e
    rw [k1] at HL
    clear k1 h hup e
    go_enter Try.func9, Try.ntmps9
    go_wp2_with (go_at_call 20; refine (HL.out _).mono ?_; rintro e w' ⟨rfl, rfl⟩)
    go_ret
    unfold markM
    rw [HE.out]
    exact ⟨rfl, by rw [if_neg (by decide)]; exact HU.out, Kept.refl _ _⟩
  | false =>
    have k2 : keyIn base n x = withinB (x : Int) (base : Int) (n : Int) := rfl
    rw [k1] at HL
    cases k3 : keyIn base n x with
    | false =>
      rw [k3] at k2
      rw [← k2] at HW
      have e : markK base n m x = 1 := by unfold markK; rw [if_neg (by simp [k1]), if_pos k3]
      have HE := Lib.hid e
      clear k1 k2 k3 h hup e
      go_enter Try.func9, Try.ntmps9
      go_wp2_with (go_at_call 20; refine (HL.out _).mono ?_; rintro e w' ⟨rfl, rfl⟩)
      go_quiet ((go_at_call 21; refine (HW.out _).mono fun e w1 h => ⟨h.1, _, h.2.symm⟩))
      go_wp2
      go_ret
      unfold markM
      rw [HE.out]
      exact ⟨rfl, by rw [if_neg (by decide)]; exact HU.out.drewN _, (Kept.refl _ _).drewN _⟩
    | true =>
      rw [k3] at k2
      rw [← k2] at HW
      cases k4 : m x with
      | true =>
        have hl := fun q => (hup.drewN q).mp.look x hx
        rw [k4] at hl
        have e : markK base n m x = 2 := by unfold markK; rw [if_neg (by simp [k1]), if_neg (by simp [k3]), if_pos k4]
        have HE := Lib.hid e
        clear k1 k2 k3 k4 h hup e
        go_enter Try.func9, Try.ntmps9
        go_wp2_with (go_at_call 20; refine (HL.out _).mono ?_; rintro e w' ⟨rfl, rfl⟩)
        go_quiet ((go_at_call 21; refine (HW.out _).mono fun e w1 h => ⟨h.1, _, h.2.symm⟩))
        go_wp2
        go_ret
        unfold markM
        rw [HE.out]
        exact ⟨rfl, by rw [if_neg (by decide)]; exact HU.out.drewN _, (Kept.refl _ _).drewN _⟩
      | false =>
        have hl := fun q => (hup.drewN q).mp.look x hx
        rw [k4] at hl
        have e : markK base n m x = 3 := by unfold markK; rw [if_neg (by simp [k1]), if_neg (by simp [k3]), if_neg (by simp [k4])]
        have HE := Lib.hid e
        have HST := Lib.hid (fun q => (h.drewN q).mp.store x hx (by unfold maxLen; omega))
        clear k1 k2 k3 k4 h hup e
        go_enter Try.func9, Try.ntmps9
        go_wp2_with (go_at_call 20; refine (HL.out _).mono ?_; rintro e w' ⟨rfl, rfl⟩)
        go_quiet ((go_at_call 21; refine (HW.out _).mono fun e w1 h => ⟨h.1, _, h.2.symm⟩))
        obtain ⟨w9, hrun, hm9, hk9⟩ := HST.out nq
        have HM9 := Lib.hid hm9
        have HK9 := Lib.hid hk9
        clear hm9 hk9
        go_wp2
        go_ret
        unfold markM
        rw [HE.out, if_pos rfl]
        have hne := H.out.ne
        exact ⟨rfl, ⟨(H.out.drewN nq).blk.kept HK9.out (by simp; exact hne), HM9.out, hne, H.out.bb, H.out.n1, H.out.n2, by omega⟩, ((Kept.refl _ _).drewN nq).trans HK9.out (fun z hz => by simp at hz; simp [hz])⟩
end Go.Proofs.Ytappolgfkioihaa
