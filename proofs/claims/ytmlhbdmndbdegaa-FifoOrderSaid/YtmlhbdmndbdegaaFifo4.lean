/- Contracts of package fifo: Do's close, Len, Closed. -/
import Derived.Test.YtmlhbdmndbdegaaFifo3
namespace Go.Proofs.Ytmlhbdmndbdegaa
open Go.ChangeShapes Go.WideShapes Go.ChangeAt Go.RowKit
set_option linter.unusedVariables false

set_option maxRecDepth 100000 in
set_option maxHeartbeats 4000000 in
theorem fdo_close (B b bq bb : Nat) (s0 n : Int) (kl : Lit) (s body ab : ByteArray) (N : Int) (c : Bool) (hs0 : 0 ≤ s0 ∧ s0 ≤ 255) (hkey : keyOf Try.prog 47 (fkey s0) = some kl) (w : World) (h : FS w B b bq bb kl s c) (hB : B ≤ w.heap.size) :
    Calls Try.prog 6 #[.pointer (some ⟨b, 0, none⟩), .int .i64 0, .agg #[.int .i64 4, .int .i64 s0, .int .i64 n, .string body], .agg #[.int .i64 N, .string ab, .int .i64 0]] w (FAct w B b bq bb kl s true (.int .i64 0)) := by
  have HBAD := Lib.hid (fun w => fbad_no 0 s0 (by omega) hs0 w)
  have HAT := Lib.hid (fun w h hB => fat_is B b bq bb s0 kl s c hkey w h hB)
  have H := Lib.hid h
  clear h hkey
  go_enter Try.func6, Try.ntmps6
  go_wp2_with (first | (go_at_call 9; refine (HBAD.out _).mono ?_; rintro e w' ⟨rfl, rfl⟩) | (go_at_call 10; refine (fcloses_ok _).mono ?_; rintro e w' ⟨rfl, rfl⟩) | (go_at_call 11; refine (HAT.out _ ((H.out.al _).al _) (by simp; omega)).mono ?_; rintro e w2 ⟨q', rfl, hF2, hk2⟩; have hQ2 := hF2.qb rfl; have q0 : w2.cell? ⟨q', 0, none⟩ = some (.string s) := hQ2.cell 0; have q1 : w2.cell? ⟨q', 1, none⟩ = some (.bool c) := hQ2.cell 1; have f1 := hQ2.free 1))
  have HF2 := Lib.hid hF2
  have HK2 := Lib.hid hk2
  have HQ2 := Lib.hid hQ2
  clear hF2 hk2 hQ2
  go_ret
  have HR := FAct.mk (W := w) (r := .int .i64 0) hB (((Kept.refl [] w).alloc _).alloc _) HK2.out HF2.out (HQ2.out.set 1 (.bool true)) ((Kept.refl [q'] w2).set ⟨q', 1, none⟩ (.inl (by simp)) (.bool true))
  exact ⟨rfl, HR.1, HR.2⟩
set_option maxRecDepth 100000 in
theorem fdo_arg (b : Nat) (K s0 n N er : Int) (body ab : ByteArray) (w : World) :
    Calls Try.prog 6 #[.pointer (some ⟨b, 0, none⟩), .int .i64 2, .agg #[.int .i64 K, .int .i64 s0, .int .i64 n, .string body], .agg #[.int .i64 N, .string ab, .int .i64 er]] w fun e w' => e = .returned (.int .i64 1) ∧ Below w.heap.size w w' := by
  go_enter Try.func6, Try.ntmps6
  go_wp2_with (go_at_call 9; refine (fbad_yes _ _).mono ?_; rintro e w' ⟨rfl, rfl⟩)
  go_ret
  exact ⟨rfl, by go_grown⟩
theorem flen (B b bq bb : Nat) (s0 : Int) (kl : Lit) (s : ByteArray) (c : Bool) (hs0 : 0 ≤ s0 ∧ s0 ≤ 255) (hkey : keyOf Try.prog 47 (fkey s0) = some kl) (w : World) (h : FS w B b bq bb kl s c) (hB : B ≤ w.heap.size) :
    Calls Try.prog 7 #[.pointer (some ⟨b, 0, none⟩), .int .i64 0, .int .i64 s0] w (FAct w B b bq bb kl s c (.int .i64 (s.size : Int))) := by
  have HBAD := Lib.hid (fun w => fbad_no 0 s0 (by omega) hs0 w)
  have HAT := Lib.hid (fun w h hB => fat_is B b bq bb s0 kl s c hkey w h hB)
  have H := Lib.hid h
  clear h hkey
  go_enter Try.func7, Try.ntmps7
  go_wp2_with (first | (go_at_call 9; refine (HBAD.out _).mono ?_; rintro e w' ⟨rfl, rfl⟩) | (go_at_call 11; refine (HAT.out _ H.out hB).mono ?_; rintro e w2 ⟨q', rfl, hF2, hk2⟩; have hQ2 := hF2.qb rfl; have q0 : w2.cell? ⟨q', 0, none⟩ = some (.string s) := hQ2.cell 0; have q1 : w2.cell? ⟨q', 1, none⟩ = some (.bool c) := hQ2.cell 1; have f1 := hQ2.free 1))
  have HR := Lib.hid (FAct.mk (W := w) (r := .int .i64 0) hB (Kept.refl [] w) hk2 hF2 hQ2 (Kept.refl _ _))
  clear hF2 hk2 hQ2
  go_ret
  exact ⟨rfl, HR.out.1, HR.out.2⟩
theorem fclosed (B b bq bb : Nat) (s0 : Int) (kl : Lit) (s : ByteArray) (c : Bool) (hs0 : 0 ≤ s0 ∧ s0 ≤ 255) (hkey : keyOf Try.prog 47 (fkey s0) = some kl) (w : World) (h : FS w B b bq bb kl s c) (hB : B ≤ w.heap.size) :
    Calls Try.prog 8 #[.pointer (some ⟨b, 0, none⟩), .int .i64 0, .int .i64 s0] w (FAct w B b bq bb kl s c (.bool c)) := by
  have HBAD := Lib.hid (fun w => fbad_no 0 s0 (by omega) hs0 w)
  have HAT := Lib.hid (fun w h hB => fat_is B b bq bb s0 kl s c hkey w h hB)
  have H := Lib.hid h
  clear h hkey
  go_enter Try.func8, Try.ntmps8
  go_wp2_with (first | (go_at_call 9; refine (HBAD.out _).mono ?_; rintro e w' ⟨rfl, rfl⟩) | (go_at_call 11; refine (HAT.out _ H.out hB).mono ?_; rintro e w2 ⟨q', rfl, hF2, hk2⟩; have hQ2 := hF2.qb rfl; have q0 : w2.cell? ⟨q', 0, none⟩ = some (.string s) := hQ2.cell 0; have q1 : w2.cell? ⟨q', 1, none⟩ = some (.bool c) := hQ2.cell 1; have f1 := hQ2.free 1))
  have HR := Lib.hid (FAct.mk (W := w) (r := .int .i64 0) hB (Kept.refl [] w) hk2 hF2 hQ2 (Kept.refl _ _))
  clear hF2 hk2 hQ2
  go_ret
  exact ⟨rfl, HR.out.1, HR.out.2⟩
theorem FS.new {w : World} {B b bq bb : Nat} {kl : Lit} (h : Fm w B b bq bb 0 kl false ⟨#[]⟩ false) : FS w B b bq bb kl ⟨#[]⟩ false := ⟨0, false, h⟩
end Go.Proofs.Ytmlhbdmndbdegaa
