/- lightshiplaw15: awake, WindowNone, the easy ways. -/
import Derived.Test.YtappolgfkioihaaWinRef4
import Derived.Test.YtappolgfkioihaaOpen
namespace Go.Proofs.Ytappolgfkioihaa
open Go.ChangeShapes Go.WideShapes Go.ChangeAt Go.RowKit
set_option linter.unusedVariables false

def TruePost (W : World) (e : Ending) (w' : World) : Prop := e = .returned (.bool true) ∧ Below W.heap.size W w'
theorem isLast_uniq {base : Nat} {L : List Nat} {k k' : Nat} (h : IsLast base L k) (h' : IsLast base L k') : k = k' := by
  have h1 : k ≤ k' := by
    rcases h.2 with h0 | ⟨x, hx, he⟩
    · omega
    · have := h'.1 x hx; omega
  have h2 : k' ≤ k := by
    rcases h'.2 with h0 | ⟨x, hx, he⟩
    · omega
    · have := h.1 x hx; omega
  omega
theorem rsame_yes (p q : Option Addr) (cap cap2 : Nat) (L M : List Nat) (he : L = M) (w : World) (hs : RU w p cap L) (hq : RU w q cap2 M) :
    Calls Try.prog 15 #[.slice p L.length cap, .slice q M.length cap2] w fun e w' => e = .returned (.bool true) ∧ ∃ k, w' = w.drewN k := by
  have := rsame_any p q cap cap2 L M w hs hq
  rw [decide_eq_true he] at this
  exact this
theorem wmark_lit (b bm base n c : Nat) (L L' : List Nat) (x : Nat) (k : Int) (hx : x < 4294967296) (hc : c < 1000000) (hk : mkK base n L x = k) (hL : mkL base n L x = L') (w : World) (h : WinL w b bm base n c L) :
    Calls Try.prog 9 #[.pointer (some ⟨b, 0, none⟩), .int .u32 (x : Int)] w (WLAct w b bm base n (c + 1) L' (.int .i64 k)) := by
  subst hk hL; exact wmark_is b bm base n c L x hx hc w h
theorem wslide_lit (b bm base base' n c : Nat) (L L' : List Nat) (most : Int) (k : Int) (hm : most ≤ 9223372036854775807) (h1 : ((sl most.toNat base L).1 : Int) = k) (h2 : (sl most.toNat base L).2.1 = base') (h3 : (sl most.toNat base L).2.2 = L') (w : World) (h : WinL w b bm base n c L) :
    Calls Try.prog 11 #[.pointer (some ⟨b, 0, none⟩), .int .i64 most] w (WLAct w b bm base' n c L' (.int .i64 k)) := by
  subst h1 h2 h3; exact wslide_is b bm base n c L most hm w h
theorem whas_lit (b bm base n c : Nat) (L : List Nat) (x : Nat) (r : Bool) (hx : x < 4294967296) (hr : inL L x = r) (w : World) (h : WinL w b bm base n c L) : Calls Try.prog 13 #[.pointer (some ⟨b, 0, none⟩), .int .u32 (x : Int)] w fun e w' => e = .returned (.bool r) ∧ w = w' := by
  subst hr; exact whas_is b bm base n c L x hx w h
theorem wact_below {w w' : World} {b bm B : Nat} (hk : Kept [b, bm] w w') (hB : B ≤ w.heap.size) (h1 : B ≤ b) (h2 : B ≤ bm) : Below B w w' :=
  hk.below hB (fun x hx => by simp at hx; rcases hx with h | h <;> omega)
theorem ru_two (w : World) (x y : Nat) (T : TypeId) : RU (w.alloc (.cells #[.int .u32 (x : Int), .int .u32 (y : Int)] T)) (some ⟨w.heap.size, 0, none⟩) 2 [x, y] :=
  ⟨⟨rfl, Nat.le_refl _, by unfold maxLen; omega, (fun h => nomatch h), (fun a ha => by injection ha with ha; subst ha; rfl), fun a ha j u hu => by
    injection ha with ha; subst ha
    rw [add_plain, Nat.zero_add, (Blk.new w _ T).cell]
    match j, hu with
    | 0, hu => simpa [ul] using hu
    | 1, hu => simpa [ul] using hu⟩, fun a ha => by injection ha with ha; subst ha; simp⟩
set_option maxRecDepth 100000 in
set_option maxHeartbeats 2000000 in
theorem awake_true (w : World) : Calls Try.prog 6 #[] w (TruePost w) := by
  go_enter Try.func6, Try.ntmps6
  go_wp2_with fail
  refine (wnew_good 4294967295 3 (by omega) (by omega) (by omega) _).mono ?_
  rintro e w0 ⟨b, bm, rfl, hO, l1, l2, hB0⟩
  have hO0 := WinL.new hO
  clear hO
  go_wp2_with fail
  refine (wnew_bad 0 65 (by omega) _).mono ?_
  rintro e w' ⟨rfl, rfl⟩
  go_wp2_with fail
  refine (wmark_lit b bm 4294967295 3 0 [] [1] 1 3 (by omega) (by omega) (by decide +kernel) (by decide +kernel) _ hO0).mono ?_
  rintro e w1 ⟨rfl, hO1, hK1⟩
  have hB1 := hB0.trans (wact_below hK1 hB0.size l1 l2)
  clear hK1
  go_wp2_with fail
  refine (wmark_lit b bm 4294967295 3 1 [1] [1] 1 2 (by omega) (by omega) (by decide +kernel) (by decide +kernel) _ hO1).mono ?_
  rintro e w2 ⟨rfl, hO2, hK2⟩
  have hB2 := hB1.trans (wact_below hK2 hB1.size l1 l2)
  clear hK2
  go_wp2_with fail
  refine (wmark_lit b bm 4294967295 3 2 [1] [1] 2 1 (by omega) (by omega) (by decide +kernel) (by decide +kernel) _ hO2).mono ?_
  rintro e w3 ⟨rfl, hO3, hK3⟩
  have hB3 := hB2.trans (wact_below hK3 hB2.size l1 l2)
  clear hK3
  go_wp2_with fail
  refine (wmark_lit b bm 4294967295 3 3 [1] [1] 4294967294 0 (by omega) (by omega) (by decide +kernel) (by decide +kernel) _ hO3).mono ?_
  rintro e w4 ⟨rfl, hO4, hK4⟩
  have hB4 := hB3.trans (wact_below hK4 hB3.size l1 l2)
  clear hK4
  go_wp2_with fail
  refine (wmiss_is b bm 4294967295 3 4 [1] _ hO4).mono ?_
  rintro e w5 ⟨k, p, cap, hl, hk64, rfl, hru, hpf, hb5⟩
  have hk : k = 2 := isLast_uniq hl ⟨by decide +kernel, .inr ⟨1, by simp, by decide +kernel⟩⟩
  subst hk
  have hM : missL 4294967295 [1] 2 = [4294967295, 0] := by decide +kernel
  rw [hM] at hru ⊢
  have hO5 := hO4.kept (Kept.of_below hb5 []) (by simp) (by simp)
  have hB5 := hB4.trans (hb5.mono hB4.size)
  have hpl : ∀ a, p = some a → a.block ≠ b ∧ a.block ≠ bm := by
    intro a ha
    have h1 := hpf a ha
    have h2 := hO4.at_.lt
    omega
  clear hl hk64 hb5
  go_wp2_with fail
  refine (wmark_lit b bm 4294967295 3 4 [1] [1, 4294967295] 4294967295 3 (by omega) (by omega) (by decide +kernel) (by decide +kernel) _ hO5).mono ?_
  rintro e w6 ⟨rfl, hO6, hK6⟩
  have hB6 := hB5.trans (wact_below hK6 hB5.size l1 l2)
  have hru6 := hru.kept hK6 (fun a ha => by have := hpl a ha; simp; exact this)
  clear hK6
  go_wp2_with fail
  refine (wslide_lit b bm 4294967295 0 3 5 [1, 4294967295] [1] 9 1 (by omega) (by decide +kernel) (by decide +kernel) (by decide +kernel) _ hO6).mono ?_
  rintro e w7 ⟨rfl, hO7, hK7⟩
  have hB7 := hB6.trans (wact_below hK7 hB6.size l1 l2)
  have hru7 := hru6.kept hK7 (fun a ha => by have := hpl a ha; simp; exact this)
  clear hK7 hru hru6
  go_wp2_with fail
  refine (rsame_yes p _ cap 2 [4294967295, 0] [4294967295, 0] rfl _ (hru7.al _) (ru_two _ 4294967295 0 _)).mono ?_
  rintro e w' ⟨rfl, n1, rfl⟩
  generalize hw8 : World.drewN _ n1 = w8
  have hO8 : WinL w8 b bm 0 3 5 [1] := by rw [← hw8]; exact (hO7.kept ((Kept.refl [] _).alloc _) (by simp) (by simp)).drewN _
  have hB8 : Below w.heap.size w w8 := by rw [← hw8]; exact bdrewN (hB7.alloc hB7.size _) _
  clear hw8
  go_wp2_with fail
  refine (wbase_is b bm 0 3 5 [1] _ hO8).mono ?_
  rintro e w' ⟨rfl, rfl⟩
  go_wp2_with fail
  refine (whas_lit b bm 0 3 5 [1] 1 true (by omega) (by decide +kernel) _ hO8).mono ?_
  rintro e w' ⟨rfl, rfl⟩
  go_wp2_with fail
  refine (whas_lit b bm 0 3 5 [1] 0 false (by omega) (by decide +kernel) _ hO8).mono ?_
  rintro e w' ⟨rfl, rfl⟩
  go_wp2_with fail
  go_ret
  exact ⟨rfl, hB8⟩
set_option maxRecDepth 100000 in
set_option maxHeartbeats 2000000 in
theorem none_all (X : Int) (W : World) : Calls Try.prog 5 #[.int .u32 X] W (TruePost W) := by
  go_enter Try.func5, Try.ntmps5
  go_wp2_with (first | (go_at_call 9; refine (wmark_nil _ _).mono ?_; rintro e w' ⟨rfl, rfl⟩) | (go_at_call 11; refine (wslide_nil _ _).mono ?_; rintro e w' ⟨rfl, rfl⟩) | (go_at_call 12; refine (wbase_nil _).mono ?_; rintro e w' ⟨rfl, rfl⟩) | (go_at_call 13; refine (whas_nil _ _).mono ?_; rintro e w' ⟨rfl, rfl⟩) | (go_at_call 16; refine (wmiss_nil _).mono ?_; rintro e w' ⟨rfl, rfl⟩) | (go_at_call 6; refine (awake_true _).mono ?_; rintro e w6 ⟨rfl, hb6⟩))
  go_ret
  exact ⟨rfl, hb6⟩
set_option maxRecDepth 100000 in
theorem plays_bad (base n : Int) (hr : n < 1 ∨ 64 < n) (a : Option Addr) (len cap : Nat) (hl : len ≤ 80) (W : World) : Calls Try.prog 3 #[.int .u32 base, .int .i64 n, .slice a len cap] W (TruePost W) := by
  by_cases h1 : n < 1
  all_goals
    go_enter Try.func3, Try.ntmps3
    go_wp2_with (first | (go_at_call 7; refine (wnew_bad _ _ hr _).mono ?_; rintro e w' ⟨rfl, rfl⟩) | (go_at_call 6; refine (awake_true _).mono ?_; rintro e w6 ⟨rfl, hb6⟩))
    go_ret
    exact ⟨rfl, hb6⟩
set_option maxRecDepth 100000 in
theorem plays_many (base n : Int) (a : Option Addr) (len cap : Nat) (hc : cap ≤ maxLen) (hlc : len ≤ cap) (c1 : 80 < len) (W : World) : Calls Try.prog 3 #[.int .u32 base, .int .i64 n, .slice a len cap] W (TruePost W) := by
  unfold maxLen at hc
  go_enter Try.func3, Try.ntmps3
  go_wp2_with (go_at_call 6; refine (awake_true _).mono ?_; rintro e w6 ⟨rfl, hb6⟩)
  go_ret
  exact ⟨rfl, hb6⟩
end Go.Proofs.Ytappolgfkioihaa
