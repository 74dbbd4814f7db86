/- lightshiplaw56: awake; the walk of BitioPuts. -/
import Derived.Test.YtgkbmpphodabnaaBitio4
import Derived.Test.YtgkbmpphodabnaaOpen
import Derived.Deep.RegionHeld3
namespace Go.Proofs.Ytgkbmpphodabnaa
open Go.ChangeShapes Go.WideShapes Go.ChangeAt Go.RowKit
set_option linter.unusedVariables false

def TruePost (W : World) (e : Ending) (w' : World) : Prop := e = .returned (.bool true) ∧ Below W.heap.size W w'
theorem kept_below {b : Nat} {v : Value} {L : List Bool} {w w' : World} (h : IsW w b v L) (hk : Kept (b :: rowOf v) w w') {B : Nat} (hB : B ≤ b) (hs : B ≤ w.heap.size) : Below B w w' :=
  hk.below hs (fun x hx => by rcases List.mem_cons.1 hx with h1 | h1; omega; have := (own_lt h.2.1 x h1).1; omega)
theorem put_lit (b : Nat) (v : Value) (L L' : List Bool) (n bits : Int) (N B : Nat) (hN : n = (N : Int)) (hB : bits = (B : Int)) (w : World) (h : IsW w b v L) (hL : L.length ≤ 1000000) (h1 : 1 ≤ B) (h2 : B ≤ 64) (hn : N < 2 ^ B) (hL' : L ++ bitsOf N B = L') :
    Calls Try.prog 10 #[.pointer (some ⟨b, 0, none⟩), .int .u64 n, .int .i64 bits] w (PutPost w b v L' 0) := by
  subst hN hB hL'; exact put_good b v L N B w h hL h1 h2 hn
theorem range_lit (b : Nat) (n bits : Int) (N B : Nat) (hN : n = (N : Int)) (hB : bits = (B : Int)) (w : World) (h1 : 1 ≤ B) (h2 : B < 64) (hn : 2 ^ B ≤ N) :
    Calls Try.prog 10 #[.pointer (some ⟨b, 0, none⟩), .int .u64 n, .int .i64 bits] w fun e w' => e = .returned (.int .i64 2) ∧ w = w' := by
  subst hN hB; exact put_range b N B w h1 h2 hn
theorem num_lit (b : Nat) (s : ByteArray) (at0 : Nat) (bits : Int) (B r a2 : Nat) (hB : bits = (B : Int)) (w : World) (h : IsR w b s at0) (h1 : 1 ≤ B) (h2 : B ≤ 64) (hc : at0 + B ≤ 8 * s.size) (hr : numOf s at0 B = r) (ha : at0 + B = a2) :
    Calls Try.prog 15 #[.pointer (some ⟨b, 0, none⟩), .int .i64 bits] w fun e w' => e = .returned (.tuple #[.int .u64 (r : Int), .int .i64 0]) ∧ IsR w' b s a2 ∧ w.grownBy w' (some b) := by
  subst hB hr ha; exact num_good b s at0 B w h h1 h2 hc
theorem ab : ofL (bytesL [true, false, true, false]) = ⟨#[160]⟩ := by rfl
set_option maxRecDepth 100000 in
set_option maxHeartbeats 1500000 in
theorem awake_true (w : World) : Calls Try.prog 6 #[] w (TruePost w) := by
  go_enter Try.func6, Try.ntmps6
  go_wp2_with fail
  refine (new_any _).mono ?_
  rintro e w1 ⟨rfl, hW1, hB1⟩
  go_wp2_with fail
  refine (put_lit _ _ [] [true] 1 1 1 1 rfl rfl _ hW1 (by simp) (by omega) (by omega) (by omega) (by rfl)).mono ?_
  rintro e w2 ⟨rfl, v2, hW2, hK2, _⟩
  have hB2 := hB1.trans (kept_below hW1 hK2 (Nat.le_refl _) hB1.size)
  clear hK2
  go_wp2_with fail
  refine (put_lit _ _ [true] [true, false, true, false] 2 3 2 3 rfl rfl _ hW2 (by simp) (by omega) (by omega) (by omega) (by rfl)).mono ?_
  rintro e w3 ⟨rfl, v3, hW3, hK3, _⟩
  have hB3 := hB2.trans (kept_below hW2 hK3 (Nat.le_refl _) hB2.size)
  clear hK3
  go_wp2_with fail
  refine (range_lit _ 2 1 2 1 rfl rfl _ (by omega) (by omega) (by omega)).mono ?_
  rintro e w' ⟨rfl, rfl⟩
  go_wp2_with fail
  refine (put_arg _ 0 65 _ (by omega)).mono ?_
  rintro e w' ⟨rfl, rfl⟩
  go_wp2_with fail
  refine (bytes_any _ _ _ _ hW3).mono ?_
  rintro e w' ⟨rfl, rfl⟩
  rw [ab]
  go_wp2_with fail
  refine (from_any ⟨#[160]⟩ (by decide) _).mono ?_
  rintro e w4 ⟨rfl, hR4, hB4⟩
  have hB34 := hB3.trans (hB4.mono hB3.size)
  have hW4 : IsW w4 w.heap.size v3 [true, false, true, false] := ⟨Blk.below hW3.1 hB4 hW3.1.lt, own_kept hW3.2.1 (Kept.of_below hB4 []) (by simp), hW3.2.2⟩
  go_wp2_with fail
  refine (num_lit _ ⟨#[160]⟩ 0 1 1 1 1 rfl _ hR4 (by omega) (by omega) (by decide) (by rfl) rfl).mono ?_
  rintro e w5 ⟨rfl, hR5, hG5⟩
  go_wp2_with fail
  refine (num_lit _ ⟨#[160]⟩ 1 3 3 2 4 rfl _ hR5 (by omega) (by omega) (by decide) (by rfl) rfl).mono ?_
  rintro e w6 ⟨rfl, hR6, hG6⟩
  go_wp2_with fail
  refine (num_cut _ ⟨#[160]⟩ 4 5 _ hR6 (by omega) (by omega) (by decide)).mono ?_
  rintro e w7 ⟨rfl, n7, rfl⟩
  have hg := gtrans hG5 hG6
  have hB6 : Below w.heap.size w w6 := hB34.trans (below_g hg (by exact hB3.size) hB34.size)
  have hl3 := hW3.1.lt
  have hW6 : IsW w6 w.heap.size v3 [true, false, true, false] := by
    have hk : Kept [w3.heap.size] w4 w6 := ⟨hg.os, hg.tape, hg.output, hg.size, fun k hk hne => hg.block k hk (by simpa using hne)⟩
    exact ⟨hW4.1.kept hk (by simp; omega), own_kept hW4.2.1 hk (fun x hx => by have := (own_lt hW3.2.1 x hx).2; simp; omega), hW4.2.2⟩
  have hab : (ofL (bytesL [true, false, true, false])).toList = [160] := by rw [ab]; exact ByteArray.toList_mk [160]
  go_wp2_with (first | (go_at_call 12; refine (bytes_any _ v3 _ _ (by exact hW6)).mono ?_; rintro e w' ⟨rfl, rfl⟩) | (go_at_call 11; refine (wlen_any _ v3 _ _ (by exact hW6)).mono ?_; rintro e w' ⟨rfl, rfl⟩) | (go_at_call 16; refine (left_any _ _ _ _ (by exact hR6)).mono ?_; rintro e w' ⟨rfl, n8, rfl⟩))
  go_ret
  exact ⟨rfl, by first | exact bdrewN (bdrewN hB6 _) _ | exact bdrewN hB6 _⟩
end Go.Proofs.Ytgkbmpphodabnaa
