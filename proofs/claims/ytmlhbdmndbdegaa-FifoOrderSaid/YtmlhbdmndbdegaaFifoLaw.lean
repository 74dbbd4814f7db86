/- lightshiplaw34: awake. -/
import Derived.Test.YtmlhbdmndbdegaaFifo4
import Derived.Test.YtmlhbdmndbdegaaOpen
namespace Go.Proofs.Ytmlhbdmndbdegaa
open Go.ChangeShapes Go.WideShapes Go.ChangeAt Go.RowKit
set_option linter.unusedVariables false

def TruePost (W : World) (e : Ending) (w' : World) : Prop := e = .returned (.bool true) ∧ Below W.heap.size W w'
theorem fwrite_lit (B b bq bb : Nat) (s0 n : Int) (kl : Lit) (s s' body ab : ByteArray) (N : Nat) (hs0 : 0 ≤ s0 ∧ s0 ≤ 255) (hN : N ≤ body.size) (hbs : body.size ≤ 1000000) (hss : s.size ≤ 1000000) (he : s ++ body.extract 0 N = s') (hkey : keyOf Try.prog 47 (fkey s0) = some kl) (w : World) (h : FS w B b bq bb kl s false) (hB : B ≤ w.heap.size) :
    Calls Try.prog 6 #[.pointer (some ⟨b, 0, none⟩), .int .i64 0, .agg #[.int .i64 2, .int .i64 s0, .int .i64 n, .string body], .agg #[.int .i64 (N : Int), .string ab, .int .i64 0]] w (FAct w B b bq bb kl s' false (.int .i64 0)) := by
  subst he; exact fdo_write B b bq bb s0 n kl s body ab N hs0 hN hbs hss hkey w h hB
theorem fread_lit (B b bq bb : Nat) (s0 n : Int) (kl : Lit) (s s' body ab : ByteArray) (c : Bool) (N k : Int) (hs0 : 0 ≤ s0 ∧ s0 ≤ 255) (hbs : ab.size ≤ 1000000) (hk : rdK s ab n = k) (hs' : rdS s ab n = s') (hkey : keyOf Try.prog 47 (fkey s0) = some kl) (w : World) (h : FS w B b bq bb kl s c) (hB : B ≤ w.heap.size) :
    Calls Try.prog 6 #[.pointer (some ⟨b, 0, none⟩), .int .i64 1, .agg #[.int .i64 3, .int .i64 s0, .int .i64 n, .string body], .agg #[.int .i64 N, .string ab, .int .i64 0]] w (FAct w B b bq bb kl s' c (.int .i64 k)) := by
  subst hk hs'; exact fdo_read B b bq bb s0 n kl s body ab c N hbs hs0 hkey w h hB
theorem feof_lit (B b bq bb : Nat) (s0 n : Int) (kl : Lit) (s body ab : ByteArray) (c : Bool) (N k : Int) (hs0 : 0 ≤ s0 ∧ s0 ≤ 255) (hk : eofK s c = k) (hkey : keyOf Try.prog 47 (fkey s0) = some kl) (w : World) (h : FS w B b bq bb kl s c) (hB : B ≤ w.heap.size) :
    Calls Try.prog 6 #[.pointer (some ⟨b, 0, none⟩), .int .i64 1, .agg #[.int .i64 3, .int .i64 s0, .int .i64 n, .string body], .agg #[.int .i64 N, .string ab, .int .i64 13]] w (FAct w B b bq bb kl s c (.int .i64 k)) := by
  subst hk; exact fdo_eof B b bq bb s0 n kl s body ab c N hs0 hkey w h hB
theorem la1 : (⟨#[]⟩ : ByteArray) ++ (⟨#[97, 98]⟩ : ByteArray).extract 0 1 = ⟨#[97]⟩ := by rfl
set_option maxRecDepth 100000 in
set_option maxHeartbeats 4000000 in
theorem awake_true (w : World) : Calls Try.prog 4 #[] w (TruePost w) := by
  obtain ⟨kl, hkl⟩ := fkey3
  have HKL := Lib.hid hkl
  clear hkl
  go_enter Try.func4, Try.ntmps4
  go_wp2_with fail
  refine (fnew kl _).mono ?_
  rintro e w0 ⟨b, bq, bb, rfl, hN, hB0⟩
  have hF0 := FS.new hN
  have hs0 := hB0.size
  clear hN
  go_wp2_with fail
  refine (fwrite_lit w.heap.size b bq bb 3 0 kl ⟨#[]⟩ ⟨#[97]⟩ ⟨#[97, 98]⟩ ⟨#[]⟩ 1 (by omega) (by decide) (by decide) (by decide) la1 HKL.out _ hF0 hs0).mono ?_
  rintro e w1 ⟨rfl, hF1, hb1⟩
  have hB1 := hB0.trans hb1
  have hs1 := hB1.size
  clear hb1
  go_wp2_with fail
  refine (fread_lit w.heap.size b bq bb 3 5 kl ⟨#[97]⟩ ⟨#[97]⟩ ⟨#[]⟩ ⟨#[98]⟩ false 0 16 (by omega) (by decide) (by decide +kernel) (by decide +kernel) HKL.out _ hF1 hs1).mono ?_
  rintro e w2 ⟨rfl, hF2, hb2⟩
  have hB2 := hB1.trans hb2
  have hs2 := hB2.size
  clear hb2
  go_wp2_with fail
  refine (fread_lit w.heap.size b bq bb 3 5 kl ⟨#[97]⟩ ⟨#[]⟩ ⟨#[]⟩ ⟨#[97]⟩ false 0 0 (by omega) (by decide) (by decide +kernel) (by decide +kernel) HKL.out _ hF2 hs2).mono ?_
  rintro e w3 ⟨rfl, hF3, hb3⟩
  have hB3 := hB2.trans hb3
  have hs3 := hB3.size
  clear hb3
  go_wp2_with fail
  refine (feof_lit w.heap.size b bq bb 3 5 kl ⟨#[]⟩ ⟨#[]⟩ ⟨#[]⟩ false 0 10 (by omega) (by decide) HKL.out _ hF3 hs3).mono ?_
  rintro e w4 ⟨rfl, hF4, hb4⟩
  have hB4 := hB3.trans hb4
  have hs4 := hB4.size
  clear hb4
  go_wp2_with fail
  refine (fdo_close w.heap.size b bq bb 3 0 kl ⟨#[]⟩ ⟨#[]⟩ ⟨#[]⟩ 0 false (by omega) HKL.out _ hF4 hs4).mono ?_
  rintro e w5 ⟨rfl, hF5, hb5⟩
  have hB5 := hB4.trans hb5
  have hs5 := hB5.size
  clear hb5
  go_wp2_with fail
  refine (feof_lit w.heap.size b bq bb 3 5 kl ⟨#[]⟩ ⟨#[]⟩ ⟨#[]⟩ true 0 0 (by omega) (by decide) HKL.out _ hF5 hs5).mono ?_
  rintro e w6 ⟨rfl, hF6, hb6⟩
  have hB6 := hB5.trans hb6
  have hs6 := hB6.size
  clear hb6
  go_wp2_with fail
  refine (fdo_wclosed w.heap.size b bq bb 3 0 kl ⟨#[]⟩ ⟨#[120]⟩ ⟨#[]⟩ 1 (by decide) (by decide) (by decide) (by omega) HKL.out _ hF6 hs6).mono ?_
  rintro e w7 ⟨rfl, hF7, hb7⟩
  have hB7 := hB6.trans hb7
  have hs7 := hB7.size
  clear hb7
  go_wp2_with fail
  refine (flen w.heap.size b bq bb 3 kl ⟨#[]⟩ true (by omega) HKL.out _ hF7 hs7).mono ?_
  rintro e w8 ⟨rfl, hF8, hb8⟩
  have hB8 := hB7.trans hb8
  have hs8 := hB8.size
  clear hb8
  go_wp2_with fail
  refine (fclosed w.heap.size b bq bb 3 kl ⟨#[]⟩ true (by omega) HKL.out _ hF8 hs8).mono ?_
  rintro e w9 ⟨rfl, hF9, hb9⟩
  have hB9 := hB8.trans hb9
  have hs9 := hB9.size
  clear hb9
  go_wp2_with fail
  refine (fdo_arg b 0 0 0 0 0 ⟨#[]⟩ ⟨#[]⟩ _).mono ?_
  rintro e w10 ⟨rfl, hb10⟩
  go_wp2_with fail
  go_ret
  exact ⟨rfl, hB9.trans (hb10.mono hs9)⟩
theorem order_many (p pn : Option Addr) (len cap ln cn : Nat) (hc : cap ≤ maxLen) (hlc : len ≤ cap) (hc2 : cn ≤ maxLen) (hlc2 : ln ≤ cn) (c1 : 30 < len ∨ 30 < ln) (W : World) : Calls Try.prog 3 #[.slice p len cap, .slice pn ln cn] W (TruePost W) := by
  unfold maxLen at hc hc2
  by_cases h1 : 30 < len
  · go_enter Try.func3, Try.ntmps3
    go_wp2_with (go_at_call 4; refine (awake_true _).mono ?_; rintro e w6 ⟨rfl, hb6⟩)
    go_ret
    exact ⟨rfl, hb6⟩
  · have h2 : 30 < ln := by omega
    clear c1
    go_enter Try.func3, Try.ntmps3
    go_wp2_with (go_at_call 4; refine (awake_true _).mono ?_; rintro e w6 ⟨rfl, hb6⟩)
    go_ret
    exact ⟨rfl, hb6⟩
end Go.Proofs.Ytmlhbdmndbdegaa
