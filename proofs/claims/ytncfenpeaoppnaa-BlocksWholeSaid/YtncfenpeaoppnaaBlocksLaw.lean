/- lightshiplaw21: next, awake, BlocksNone; the walk of BlocksPlay. -/
import Derived.Test.YtncfenpeaoppnaaBlocks
import Derived.Test.YtncfenpeaoppnaaOpen
namespace Go.Proofs.Ytncfenpeaoppnaa
open Go.ChangeShapes Go.WideShapes Go.ChangeAt Go.RowKit
set_option linter.unusedVariables false

def TruePost (W : World) (e : Ending) (w' : World) : Prop := e = .returned (.bool true) ∧ Below W.heap.size W w'
def N3Post (W : World) (x y : ByteArray) (r : Bool) (e : Ending) (w' : World) : Prop := e = .returned (.tuple #[.string x, .string y, .bool r]) ∧ ∃ k, w' = W.drewN k
theorem empty_list (s : ByteArray) (h : s.size = 0) : s.toList = [] := by
  rw [ByteArray.toList_eq]
  exact List.eq_nil_of_length_eq_zero (by simpa using h)
theorem full_list (s : ByteArray) (h : s.size ≠ 0) : s.toList.isEmpty = false := by
  rw [ByteArray.toList_eq]
  have : s.data.toList ≠ [] := by
    intro e; apply h
    have : s.data.toList.length = 0 := by rw [e]; rfl
    simpa using this
  simpa using this
theorem lnext_full (s : ByteArray) (size : Nat) (fl : Bool) (h : size ≤ s.size) (hs : s.size ≤ 1048576) (w : World) : Calls Try.prog 11 #[.string s, .int .i64 (size : Int), .bool fl] w (N3Post w (s.extract 0 size) (s.extract size s.size) true) := by
  go_enter Try.func11, Try.ntmps11
  go_wp2
  go_quiet (fail)
  go_wp2
  go_ret3
  exact ⟨rfl, _, rfl⟩
theorem lnext_flush (s : ByteArray) (size : Nat) (h : s.size < size) (h0 : s.size ≠ 0) (w : World) (hz : size ≤ 1048576) : Calls Try.prog 11 #[.string s, .int .i64 (size : Int), .bool true] w (N3Post w s ⟨#[]⟩ true) := by
  have h1 := full_list s h0
  go_enter Try.func11, Try.ntmps11
  go_wp2
  go_ret3
  exact ⟨rfl, 0, rfl⟩
theorem lnext_none (s : ByteArray) (size : Nat) (fl : Bool) (h : s.size < size) (h0 : s.size = 0 ∨ fl = false) (hz : size ≤ 1048576) (w : World) : Calls Try.prog 11 #[.string s, .int .i64 (size : Int), .bool fl] w (N3Post w ⟨#[]⟩ s false) := by
  cases fl with
  | false =>
    clear h0
    go_enter Try.func11, Try.ntmps11
    go_wp2
    go_ret3
    exact ⟨rfl, 0, rfl⟩
  | true =>
    have h1 : s.size = 0 := by rcases h0 with h | h; exact h; cases h
    have h2 := empty_list s h1
    clear h0 h1
    go_enter Try.func11, Try.ntmps11
    go_wp2
    go_ret3
    exact ⟨rfl, 0, rfl⟩
theorem write_lit (b r g most size : Nat) (s t s' : ByteArray) (v : Int) (k : Nat) (hv : v = (k : Int)) (ht : t.size ≤ 1048576) (hk : min (t.size : Int) ((most : Int) - (s.size : Int)) = (k : Int)) (hs : s ++ t.extract 0 k = s') (w : World) (h : BlocksAt w b r g most size s) :
    Calls Try.prog 8 #[.pointer (some ⟨b, 0, none⟩), .string t] w (BActPost w b r g most size s' (.int .i64 v)) := by
  subst hs hv; exact write_any b r g most size s t k ht hk w h
theorem next_lit (b r g most size : Nat) (s x y : ByteArray) (fl : Bool) (m : Nat) (hm : m = min size s.size) (hn : 0 < s.size ∧ (size ≤ s.size ∨ fl = true)) (hx : s.extract 0 m = x) (hy : s.extract m s.size = y) (w : World) (h : BlocksAt w b r g most size s) :
    Calls Try.prog 9 #[.pointer (some ⟨b, 0, none⟩), .bool fl] w (BActPost w b r g most size y (.tuple #[.string x, .bool true])) := by
  subst hx hy; exact next_some b r g most size s fl m hm hn w h
theorem bact_below {r g B : Nat} {w w' : World} (hk : Kept [r, g] w w') (hb : B ≤ r) (hg : B ≤ g) (hs : B ≤ w.heap.size) : Below B w w' := hk.below hs (fun x hx => by simp at hx; rcases hx with h | h <;> omega)
theorem a1 : (⟨#[]⟩ : ByteArray) ++ (⟨#[97, 98, 99, 100, 101]⟩ : ByteArray).extract 0 4 = ⟨#[97, 98, 99, 100]⟩ := by rfl
theorem a2 : (⟨#[97, 98, 99, 100]⟩ : ByteArray).extract 0 2 = ⟨#[97, 98]⟩ := by rfl
theorem a3 : (⟨#[97, 98, 99, 100]⟩ : ByteArray).extract 2 (ByteArray.mk #[97, 98, 99, 100]).size = ⟨#[99, 100]⟩ := by rfl
theorem a4 : (⟨#[99, 100]⟩ : ByteArray).extract 0 2 = ⟨#[99, 100]⟩ := by rfl
theorem a5 : (⟨#[99, 100]⟩ : ByteArray).extract 2 (ByteArray.mk #[99, 100]).size = ⟨#[]⟩ := by rfl
theorem a6 : (⟨#[]⟩ : ByteArray) ++ (⟨#[122]⟩ : ByteArray).extract 0 1 = ⟨#[122]⟩ := by rfl
theorem a7 : (⟨#[122]⟩ : ByteArray).extract 0 1 = ⟨#[122]⟩ := by rfl
theorem a8 : (⟨#[122]⟩ : ByteArray).extract 1 (ByteArray.mk #[122]).size = ⟨#[]⟩ := by rfl
set_option maxRecDepth 100000 in
set_option maxHeartbeats 2000000 in
theorem awake_true (w : World) : Calls Try.prog 6 #[] w (TruePost w) := by
  go_enter Try.func6, Try.ntmps6
  go_wp2_with fail
  refine (bnew_good 2 4 (by omega) (by omega) (by omega) (by omega) _).mono ?_
  rintro e w0 ⟨b, r, g0, rfl, hR0, hbW, hrW, hgW0, hB0⟩
  go_wp2_with fail
  refine (bnew_bad 5 4 (by omega) _).mono ?_
  rintro e w' ⟨rfl, rfl⟩
  go_wp2_with fail
  refine (write_lit b r g0 4 2 _ _ _ 4 4 rfl (by decide) (by decide) a1 _ hR0).mono ?_
  rintro e w1 ⟨rfl, g1, hR1, hK1, hg1⟩
  have hB1 := hB0.trans (bact_below hK1 hrW hgW0 hB0.size)
  have hgW1 : w.heap.size ≤ g1 := by have := hB0.size; omega
  clear hK1 hg1
  go_wp2_with fail
  refine (next_lit b r g1 4 2 _ _ _ false 2 (by decide) (by decide) a2 a3 _ hR1).mono ?_
  rintro e w2 ⟨rfl, g2, hR2, hK2, hg2⟩
  have hB2 := hB1.trans (bact_below hK2 hrW hgW1 hB1.size)
  have hgW2 : w.heap.size ≤ g2 := by have := hB1.size; omega
  clear hK2 hg2
  go_wp2_with fail
  refine (next_lit b r g2 4 2 _ _ _ false 2 (by decide) (by decide) a4 a5 _ hR2).mono ?_
  rintro e w3 ⟨rfl, g3, hR3, hK3, hg3⟩
  have hB3 := hB2.trans (bact_below hK3 hrW hgW2 hB2.size)
  have hgW3 : w.heap.size ≤ g3 := by have := hB2.size; omega
  clear hK3 hg3
  go_wp2_with fail
  refine (next_none b r g3 4 2 _ false (.inl rfl) _ hR3).mono ?_
  rintro e w' ⟨rfl, rfl⟩
  go_wp2_with fail
  refine (write_lit b r g3 4 2 _ _ _ 1 1 rfl (by decide) (by decide) a6 _ hR3).mono ?_
  rintro e w4 ⟨rfl, g4, hR4, hK4, hg4⟩
  have hB4 := hB3.trans (bact_below hK4 hrW hgW3 hB3.size)
  have hgW4 : w.heap.size ≤ g4 := by have := hB3.size; omega
  clear hK4 hg4
  go_wp2_with fail
  refine (next_lit b r g4 4 2 _ _ _ true 1 (by decide) (by decide) a7 a8 _ hR4).mono ?_
  rintro e w5 ⟨rfl, g5, hR5, hK5, hg5⟩
  have hB5 := hB4.trans (bact_below hK5 hrW hgW4 hB4.size)
  have hgW5 : w.heap.size ≤ g5 := by have := hB4.size; omega
  clear hK5 hg5
  go_wp2_with fail
  refine (next_none b r g5 4 2 _ true (.inl rfl) _ hR5).mono ?_
  rintro e w' ⟨rfl, rfl⟩
  go_wp2_with fail
  refine (blen_any b r g5 4 2 _ _ hR5).mono ?_
  rintro e w' ⟨rfl, rfl⟩
  go_wp2_with fail
  refine (broom_any b r g5 4 2 _ _ hR5).mono ?_
  rintro e w' ⟨rfl, n7, rfl⟩
  go_wp2_with fail
  go_ret
  exact ⟨rfl, bdrewN hB5 _⟩
theorem none_all (s : ByteArray) (w : World) : Calls Try.prog 5 #[.string s] w (TruePost w) := by
  go_enter Try.func5, Try.ntmps5
  go_wp2_with (first | (go_at_call 12; refine (bclear_nil _).mono ?_; rintro e w' ⟨rfl, rfl⟩) | (go_at_call 8; refine (write_nil _ _).mono ?_; rintro e w' ⟨rfl, rfl⟩) | (go_at_call 9; refine (next_nil _ _).mono ?_; rintro e w' ⟨rfl, rfl⟩) | (go_at_call 10; refine (blen_nil _).mono ?_; rintro e w' ⟨rfl, rfl⟩) | (go_at_call 13; refine (broom_nil _).mono ?_; rintro e w' ⟨rfl, rfl⟩) | (go_at_call 6; refine (awake_true _).mono ?_; rintro e w6 ⟨rfl, hb6⟩))
  go_ret
  exact ⟨rfl, hb6⟩
end Go.Proofs.Ytncfenpeaoppnaa
