/- lightshiplaw23: awake, OrderNone, the easy ways of OrderPlays. -/
import Derived.Test.YtbfmnnjjhmmljaaOrderBoth
import Derived.Test.YtbfmnnjjhmmljaaOpen
namespace Go.Proofs.Ytbfmnnjjhmmljaa
open Go.ChangeShapes Go.WideShapes Go.ChangeAt Go.RowKit
set_option linter.unusedVariables false

def TruePost (W : World) (e : Ending) (w' : World) : Prop := e = .returned (.bool true) ∧ Below W.heap.size W w'
theorem oput_lit (b g1 g2 base win : Nat) (L L' : BL) (x : Nat) (body : ByteArray) (k : Int) (hx : x < 4294967296) (hk : putK base win L x body = k) (hL : putLx base win L x body = L') (w : World) (o : Ord w b g1 g2 base win L) :
    Calls Try.prog 9 #[.pointer (some ⟨b, 0, none⟩), .int .u32 (x : Int), .string body] w (OActPost w b g1 g2 base win L' (.int .i64 k)) := by
  subst hk hL; exact oput_any b g1 g2 base win L x body hx w o
theorem onext_lit (b g1 g2 base base' win : Nat) (L L' : BL) (room : Int) (body : ByteArray) (ok : Bool) (h1 : nxBase base L room = base') (h2 : nxL base L room = L') (h3 : nxBody base L room = body) (h4 : nextB base L room = ok) (w : World) (o : Ord w b g1 g2 base win L) :
    Calls Try.prog 11 #[.pointer (some ⟨b, 0, none⟩), .int .i64 room] w (OActPost w b g1 g2 base' win L' (.tuple #[.string body, .bool ok])) := by
  subst h1 h2 h3 h4; exact onext_any b g1 g2 base win L room w o
theorem ohas_lit (b g1 g2 base win : Nat) (L : BL) (x : Nat) (r : Bool) (hx : x < 4294967296) (hr : hasR L x = r) (w : World) (o : Ord w b g1 g2 base win L) :
    Calls Try.prog 14 #[.pointer (some ⟨b, 0, none⟩), .int .u32 (x : Int)] w (SameD w (.bool r)) := by
  subst hr; exact ohas_is b g1 g2 base win L x hx w o
theorem oact_below {w w' : World} {b g1 g2 B : Nat} (hk : Kept [b, g1, g2] w w') (hB : B ≤ w.heap.size) (h1 : B ≤ b) (h2 : B ≤ g1) (h3 : B ≤ g2) : Below B w w' :=
  hk.below hB (fun x hx => by simp at hx; rcases hx with h | h | h <;> omega)
set_option maxRecDepth 100000 in
set_option maxHeartbeats 2000000 in
theorem awake_true (w : World) : Calls Try.prog 6 #[] w (TruePost w) := by
  go_enter Try.func6, Try.ntmps6
  go_wp2_with fail
  refine (onew_good 4294967295 2 (by omega) (by omega) (by omega) _).mono ?_
  rintro e w0 ⟨b, g1, g2, rfl, hO, hl, hB0⟩
  have l1 := hl b (by simp)
  have l2 := hl g1 (by simp)
  have l3 := hl g2 (by simp)
  have hO0 := NewO (by omega) (by omega) (by omega) hO
  clear hO hl
  go_wp2_with fail
  refine (onew_bad 0 65 (by omega) _).mono ?_
  rintro e w' ⟨rfl, rfl⟩
  go_wp2_with fail
  refine (oput_lit b g1 g2 4294967295 2 [] [(0, ⟨#[98]⟩)] 0 ⟨#[98]⟩ 3 (by omega) (by decide +kernel) (by decide +kernel) _ hO0).mono ?_
  rintro e w1 ⟨rfl, hO1, hK1⟩
  have hB1 := hB0.trans (oact_below hK1 hB0.size l1 l2 l3)
  clear hK1
  go_wp2_with fail
  refine (oput_lit b g1 g2 4294967295 2 [(0, ⟨#[98]⟩)] [(0, ⟨#[98]⟩)] 1 ⟨#[99]⟩ 1 (by omega) (by decide +kernel) (by decide +kernel) _ hO1).mono ?_
  rintro e w2 ⟨rfl, hO2, hK2⟩
  have hB2 := hB1.trans (oact_below hK2 hB1.size l1 l2 l3)
  clear hK2
  go_wp2_with fail
  refine (oput_lit b g1 g2 4294967295 2 [(0, ⟨#[98]⟩)] [(0, ⟨#[98]⟩)] 4294967294 ⟨#[122]⟩ 0 (by omega) (by decide +kernel) (by decide +kernel) _ hO2).mono ?_
  rintro e w3 ⟨rfl, hO3, hK3⟩
  have hB3 := hB2.trans (oact_below hK3 hB2.size l1 l2 l3)
  clear hK3
  go_wp2_with fail
  refine (oput_lit b g1 g2 4294967295 2 [(0, ⟨#[98]⟩)] [(0, ⟨#[98]⟩)] 0 ⟨#[98]⟩ 2 (by omega) (by decide +kernel) (by decide +kernel) _ hO3).mono ?_
  rintro e w4 ⟨rfl, hO4, hK4⟩
  have hB4 := hB3.trans (oact_below hK4 hB3.size l1 l2 l3)
  clear hK4
  go_wp2_with fail
  refine (onext_lit b g1 g2 4294967295 4294967295 2 [(0, ⟨#[98]⟩)] [(0, ⟨#[98]⟩)] 9 ⟨#[]⟩ false (by decide +kernel) (by decide +kernel) (by decide +kernel) (by decide +kernel) _ hO4).mono ?_
  rintro e w5 ⟨rfl, hO5, hK5⟩
  have hB5 := hB4.trans (oact_below hK5 hB4.size l1 l2 l3)
  clear hK5
  go_wp2_with fail
  refine (oput_lit b g1 g2 4294967295 2 [(0, ⟨#[98]⟩)] [(0, ⟨#[98]⟩)] 4294967295 ⟨#[]⟩ 4 (by omega) (by decide +kernel) (by decide +kernel) _ hO5).mono ?_
  rintro e w6 ⟨rfl, hO6, hK6⟩
  have hB6 := hB5.trans (oact_below hK6 hB5.size l1 l2 l3)
  clear hK6
  go_wp2_with fail
  refine (oput_lit b g1 g2 4294967295 2 [(0, ⟨#[98]⟩)] [(0, ⟨#[98]⟩), (4294967295, ⟨#[97, 97]⟩)] 4294967295 ⟨#[97, 97]⟩ 3 (by omega) (by decide +kernel) (by decide +kernel) _ hO6).mono ?_
  rintro e w7 ⟨rfl, hO7, hK7⟩
  have hB7 := hB6.trans (oact_below hK7 hB6.size l1 l2 l3)
  clear hK7
  go_wp2_with fail
  refine (onext_lit b g1 g2 4294967295 4294967295 2 [(0, ⟨#[98]⟩), (4294967295, ⟨#[97, 97]⟩)] [(0, ⟨#[98]⟩), (4294967295, ⟨#[97, 97]⟩)] 1 ⟨#[]⟩ false (by decide +kernel) (by decide +kernel) (by decide +kernel) (by decide +kernel) _ hO7).mono ?_
  rintro e w8 ⟨rfl, hO8, hK8⟩
  have hB8 := hB7.trans (oact_below hK8 hB7.size l1 l2 l3)
  clear hK8
  go_wp2_with fail
  refine (onext_lit b g1 g2 4294967295 0 2 [(0, ⟨#[98]⟩), (4294967295, ⟨#[97, 97]⟩)] [(0, ⟨#[98]⟩)] 2 ⟨#[97, 97]⟩ true (by decide +kernel) (by decide +kernel) (by decide +kernel) (by decide +kernel) _ hO8).mono ?_
  rintro e w9 ⟨rfl, hO9, hK9⟩
  have hB9 := hB8.trans (oact_below hK9 hB8.size l1 l2 l3)
  clear hK9
  go_wp2_with fail
  refine (onext_lit b g1 g2 0 1 2 [(0, ⟨#[98]⟩)] [] 2 ⟨#[98]⟩ true (by decide +kernel) (by decide +kernel) (by decide +kernel) (by decide +kernel) _ hO9).mono ?_
  rintro e w10 ⟨rfl, hO10, hK10⟩
  have hB10 := hB9.trans (oact_below hK10 hB9.size l1 l2 l3)
  clear hK10
  go_wp2_with fail
  refine (obase_is b g1 g2 1 2 [] _ hO10).mono ?_
  rintro e w' ⟨rfl, rfl⟩
  go_wp2_with fail
  refine (olen_is b g1 g2 1 2 [] _ hO10).mono ?_
  rintro e w' ⟨rfl, rfl⟩
  go_wp2_with fail
  refine (ohas_lit b g1 g2 1 2 [] 0 false (by omega) (by decide +kernel) _ hO10).mono ?_
  rintro e w' ⟨rfl, n1, rfl⟩
  go_wp2_with fail
  go_ret
  exact ⟨rfl, bdrewN hB10 _⟩
set_option maxRecDepth 100000 in
set_option maxHeartbeats 2000000 in
theorem none_all (K X Room : Int) (body : ByteArray) (W : World) : Calls Try.prog 5 #[.agg #[.int .i64 K, .int .u32 X, .string body, .int .i64 Room]] W (TruePost W) := by
  go_enter Try.func5, Try.ntmps5
  go_wp2_with fail
  refine (onext_nil Room _).mono ?_
  rintro e w' ⟨rfl, n1, rfl⟩
  generalize hw1 : World.drewN _ n1 = w1
  have hb1 : Below W.heap.size W w1 := by rw [← hw1]; exact bdrewN ((Below.refl _ _).alloc (Nat.le_refl _) _) _
  have hB : Blk w1 W.heap.size #[.int .i64 K, .int .u32 X, .string body, .int .i64 Room] 33 := by rw [← hw1]; exact Blk.drewN (Blk.new _ _ _) _
  have c1 := hB.cell 1
  have c2 := hB.cell 2
  simp at c1 c2
  clear hw1 hB
  go_wp2_with (first | (go_at_call 9; refine (oput_nil _ _ _).mono ?_; rintro e w' ⟨rfl, rfl⟩) | (go_at_call 12; refine (obase_nil _).mono ?_; rintro e w' ⟨rfl, rfl⟩) | (go_at_call 14; refine (ohas_nil _ _).mono ?_; rintro e w3 ⟨rfl, n3, rfl⟩) | (go_at_call 13; refine (olen_nil _).mono ?_; rintro e w' ⟨rfl, rfl⟩) | (go_at_call 6; refine (awake_true _).mono ?_; rintro e w6 ⟨rfl, hb6⟩))
  go_ret
  exact ⟨rfl, Below.trans (b := _) (by first | exact bdrewN hb1 _ | exact hb1) (hb6.mono (by first | exact hb1.size | (have := hb1.size; simpa using this)))⟩
set_option maxRecDepth 100000 in
theorem plays_bad (base win : Int) (hr : win < 1 ∨ 64 < win) (a : Option Addr) (len cap : Nat) (hl : len ≤ 80) (W : World) : Calls Try.prog 3 #[.int .u32 base, .int .i64 win, .slice a len cap] W (TruePost W) := by
  by_cases h1 : win < 1
  all_goals
    go_enter Try.func3, Try.ntmps3
    go_wp2_with (first | (go_at_call 7; refine (onew_bad _ _ hr _).mono ?_; rintro e w' ⟨rfl, rfl⟩) | (go_at_call 6; refine (awake_true _).mono ?_; rintro e w6 ⟨rfl, hb6⟩))
    go_ret
    exact ⟨rfl, hb6⟩
set_option maxRecDepth 100000 in
theorem plays_many (base win : Int) (a : Option Addr) (len cap : Nat) (hc : cap ≤ maxLen) (hlc : len ≤ cap) (c1 : 80 < len) (W : World) : Calls Try.prog 3 #[.int .u32 base, .int .i64 win, .slice a len cap] W (TruePost W) := by
  unfold maxLen at hc
  go_enter Try.func3, Try.ntmps3
  go_wp2_with (go_at_call 6; refine (awake_true _).mono ?_; rintro e w6 ⟨rfl, hb6⟩)
  go_ret
  exact ⟨rfl, hb6⟩
end Go.Proofs.Ytbfmnnjjhmmljaa
