/- Contracts of package blocks. -/
import Derived.Test.YtncfenpeaoppnaaRing4
import Derived.Deep.RegionHeld3
namespace Go.Proofs.Ytncfenpeaoppnaa
open Go.ChangeShapes Go.WideShapes Go.ChangeAt Go.RowKit
set_option linter.unusedVariables false

def blocksC (r size : Nat) : Array Value := #[.pointer (some ⟨r, 0, none⟩), .int .i64 (size : Int)]
structure BlocksAt (w : World) (b r g most size : Nat) (s : ByteArray) : Prop where
  blk : Blk w b (blocksC r size) 46
  ring : Ring w r g most s
  ne1 : b ≠ r
  ne2 : b ≠ g
  sz : 1 ≤ size
  szm : size ≤ 32768
theorem BlocksAt.cells {w : World} {b r g most size : Nat} {s : ByteArray} (h : BlocksAt w b r g most size s) : w.cell? ⟨b, 0, none⟩ = some (.pointer (some ⟨r, 0, none⟩)) ∧ w.cell? ⟨b, 1, none⟩ = some (.int .i64 (size : Int)) := ⟨h.blk.cell 0, h.blk.cell 1⟩
theorem BlocksAt.kept {w w' : World} {b r g most size : Nat} {s : ByteArray} {l : List Nat} (h : BlocksAt w b r g most size s) (hk : Kept l w w') (h1 : b ∉ l) (h2 : r ∉ l) (h3 : g ∉ l) : BlocksAt w' b r g most size s :=
  ⟨h.blk.kept hk h1, h.ring.kept hk h2 h3, h.ne1, h.ne2, h.sz, h.szm⟩
theorem BlocksAt.drewN {w : World} {b r g most size : Nat} {s : ByteArray} (h : BlocksAt w b r g most size s) (n : Nat) : BlocksAt (w.drewN n) b r g most size s := h.kept ((Kept.refl [] w).drewN n) (by simp) (by simp) (by simp)
theorem BlocksAt.drew {w : World} {b r g most size : Nat} {s : ByteArray} (h : BlocksAt w b r g most size s) : BlocksAt w.drew b r g most size s := h.kept ((Kept.refl [] w).drew) (by simp) (by simp) (by simp)
theorem BlocksAt.turned {w w' : World} {b r g g' most size : Nat} {s s' : ByteArray} (h : BlocksAt w b r g most size s) (hr : Ring w' r g' most s') (hk : Kept [r, g] w w') (hg : g' = g ∨ w.heap.size ≤ g') : BlocksAt w' b r g' most size s' :=
  ⟨h.blk.kept hk (by have := h.ne1; have := h.ne2; simp; omega), hr, h.ne1, by have := h.blk.lt; have := h.ne2; omega, h.sz, h.szm⟩
def BadP (W : World) (e : Ending) (w' : World) : Prop := e = .returned (.tuple #[.pointer none, .int .i64 1]) ∧ W = w'
theorem bnew_bad (size room : Int) (hb : size < 1 ∨ 32768 < size ∨ room < size ∨ 1048576 < room) (w : World) : Calls Try.prog 7 #[.int .i64 size, .int .i64 room] w (BadP w) := by
  by_cases h1 : size < 1
  · go_enter Try.func7, Try.ntmps7
    go_wp2
    go_ret2
    exact ⟨rfl, rfl⟩
  · by_cases h2 : 32768 < size
    · go_enter Try.func7, Try.ntmps7
      go_wp2
      go_ret2
      exact ⟨rfl, rfl⟩
    · by_cases h3 : room < size
      · go_enter Try.func7, Try.ntmps7
        go_wp2
        go_ret2
        exact ⟨rfl, rfl⟩
      · have h4 : 1048576 < room := by omega
        go_enter Try.func7, Try.ntmps7
        go_wp2_with (go_at_call 14; refine (new_bad _ (.inr h4) _).mono ?_; rintro e w' ⟨rfl, rfl⟩)
        go_ret2
        exact ⟨rfl, rfl⟩
def BNewPost (W : World) (most size : Nat) (e : Ending) (w' : World) : Prop := ∃ b r g, e = .returned (.tuple #[.pointer (some ⟨b, 0, none⟩), .int .i64 0]) ∧ BlocksAt w' b r g most size ⟨#[]⟩ ∧ W.heap.size ≤ b ∧ W.heap.size ≤ r ∧ W.heap.size ≤ g ∧ Below W.heap.size W w'
theorem bnew_good (size most : Nat) (h1 : 1 ≤ size) (h2 : size ≤ 32768) (h3 : size ≤ most) (h4 : most ≤ 1048576) (w : World) : Calls Try.prog 7 #[.int .i64 (size : Int), .int .i64 (most : Int)] w (BNewPost w most size) := by
  go_enter Try.func7, Try.ntmps7
  go_wp2_with (go_at_call 14; refine (new_good most (by omega) h4 _).mono ?_; rintro e w1 ⟨r, g, rfl, hR, hr, hg, hb⟩)
  go_ret2
  obtain ⟨l1, l2, l3, l4, l5⟩ := hR.lt
  exact ⟨w1.heap.size, r, g, rfl, ⟨Blk.new _ _ _, hR.kept ((Kept.refl [] _).alloc _) (by simp) (by simp), by omega, by omega, h1, h2⟩, hb.size, hr, hg, hb.alloc hb.size _⟩
def BActPost (W : World) (b r g most size : Nat) (s : ByteArray) (v : Value) (e : Ending) (w' : World) : Prop := e = .returned v ∧ ∃ g', BlocksAt w' b r g' most size s ∧ Kept [r, g] W w' ∧ (g' = g ∨ W.heap.size ≤ g')
theorem write_any (b r g most size : Nat) (s t : ByteArray) (k : Nat) (ht : t.size ≤ 1048576) (hk : min (t.size : Int) ((most : Int) - (s.size : Int)) = (k : Int)) (w : World) (h : BlocksAt w b r g most size s) :
    Calls Try.prog 8 #[.pointer (some ⟨b, 0, none⟩), .string t] w (BActPost w b r g most size (s ++ t.extract 0 k) (.int .i64 (k : Int))) := by
  obtain ⟨c0, c1⟩ := h.cells
  have H := Lib.hid h
  have HK := Lib.hid hk
  clear h hk
  go_enter Try.func8, Try.ntmps8
  go_wp2_with (go_at_call 15; refine (put_any r g most s t k ht HK.out _ H.out.ring).mono ?_; rintro e w1 ⟨rfl, g1, hR1, hK1, hg1⟩)
  go_ret
  exact ⟨rfl, g1, H.out.turned hR1 hK1 hg1, hK1, hg1⟩
theorem write_nil (t : ByteArray) (w : World) : Calls Try.prog 8 #[.pointer none, .string t] w fun e w' => e = .returned (.int .i64 0) ∧ w = w' := by
  go_enter Try.func8, Try.ntmps8
  go_wp2
  go_ret
  exact ⟨rfl, rfl⟩
theorem blen_any (b r g most size : Nat) (s : ByteArray) (w : World) (h : BlocksAt w b r g most size s) : Calls Try.prog 10 #[.pointer (some ⟨b, 0, none⟩)] w fun e w' => e = .returned (.int .i64 (s.size : Int)) ∧ w = w' := by
  obtain ⟨c0, c1⟩ := h.cells
  have H := Lib.hid h
  clear h
  go_enter Try.func10, Try.ntmps10
  go_wp2_with (go_at_call 17; refine (len_any r g most s _ H.out.ring).mono ?_; rintro e w' ⟨rfl, rfl⟩)
  go_ret
  exact ⟨rfl, rfl⟩
theorem blen_nil (w : World) : Calls Try.prog 10 #[.pointer none] w fun e w' => e = .returned (.int .i64 0) ∧ w = w' := by
  go_enter Try.func10, Try.ntmps10
  go_wp2
  go_ret
  exact ⟨rfl, rfl⟩
theorem broom_any (b r g most size : Nat) (s : ByteArray) (w : World) (h : BlocksAt w b r g most size s) : Calls Try.prog 13 #[.pointer (some ⟨b, 0, none⟩)] w (RoomPost w ((most : Int) - (s.size : Int))) := by
  obtain ⟨c0, c1⟩ := h.cells
  have H := Lib.hid h
  clear h
  go_enter Try.func13, Try.ntmps13
  go_wp2_with (go_at_call 19; refine (room_any r g most s _ H.out.ring).mono ?_; rintro e w3 ⟨rfl, n3, rfl⟩)
  go_ret
  exact ⟨rfl, _, rfl⟩
theorem broom_nil (w : World) : Calls Try.prog 13 #[.pointer none] w fun e w' => e = .returned (.int .i64 0) ∧ w = w' := by
  go_enter Try.func13, Try.ntmps13
  go_wp2
  go_ret
  exact ⟨rfl, rfl⟩
theorem bclear_any (b r g most size : Nat) (s : ByteArray) (w : World) (h : BlocksAt w b r g most size s) : Calls Try.prog 12 #[.pointer (some ⟨b, 0, none⟩)] w (BActPost w b r g most size ⟨#[]⟩ (.tuple #[])) := by
  obtain ⟨c0, c1⟩ := h.cells
  have H := Lib.hid h
  clear h
  go_enter Try.func12, Try.ntmps12
  go_wp2_with (go_at_call 18; refine (clear_any r g most s _ H.out.ring).mono ?_; rintro e w1 ⟨rfl, g1, hR1, hK1, hg1⟩)
  go_returns
  exact ⟨rfl, g1, H.out.turned hR1 hK1 hg1, hK1, hg1⟩
theorem bclear_nil (w : World) : Calls Try.prog 12 #[.pointer none] w fun e w' => e = .returned (.tuple #[]) ∧ w = w' := by
  go_enter Try.func12, Try.ntmps12
  go_wp2
  go_returns
  exact ⟨rfl, rfl⟩
def NoPost (W : World) (e : Ending) (w' : World) : Prop := e = .returned (.tuple #[.string ⟨#[]⟩, .bool false]) ∧ W = w'
theorem next_none (b r g most size : Nat) (s : ByteArray) (fl : Bool) (hn : s.size = 0 ∨ s.size < size ∧ fl = false) (w : World) (h : BlocksAt w b r g most size s) : Calls Try.prog 9 #[.pointer (some ⟨b, 0, none⟩), .bool fl] w (NoPost w) := by
  obtain ⟨c0, c1⟩ := h.cells
  have H := Lib.hid h
  clear h
  by_cases h0 : s.size = 0
  · have b0 : ((s.size : Int) == 0) = true := by rw [beq_iff_eq]; omega
    go_enter Try.func9, Try.ntmps9
    go_wp2_with (go_at_call 10; refine (blen_any b r g most size s _ H.out).mono ?_; rintro e w' ⟨rfl, rfl⟩)
    go_ret2
    exact ⟨rfl, rfl⟩
  · have b0 : ((s.size : Int) == 0) = false := by rw [beq_eq_false_iff_ne]; omega
    have h1 : s.size < size := by omega
    have h2 : fl = false := by
      rcases hn with h | h
      · exact absurd h h0
      · exact h.2
    subst h2
    go_enter Try.func9, Try.ntmps9
    go_wp2_with (go_at_call 10; refine (blen_any b r g most size s _ H.out).mono ?_; rintro e w' ⟨rfl, rfl⟩)
    go_ret2
    exact ⟨rfl, rfl⟩
set_option maxRecDepth 100000 in
set_option maxHeartbeats 2000000 in
theorem next_some (b r g most size : Nat) (s : ByteArray) (fl : Bool) (m : Nat) (hm : m = min size s.size) (hn : 0 < s.size ∧ (size ≤ s.size ∨ fl = true)) (w : World) (h : BlocksAt w b r g most size s) : Calls Try.prog 9 #[.pointer (some ⟨b, 0, none⟩), .bool fl] w (BActPost w b r g most size (s.extract m s.size) (.tuple #[.string (s.extract 0 m), .bool true])) := by
  obtain ⟨c0, c1⟩ := h.cells
  have hbl := h.blk.lt
  have H := Lib.hid h
  have h3 : max 0 (min (size : Int) (s.size : Int)) = (m : Int) := by omega
  have H3 := Lib.hid h3
  have b0 : ((s.size : Int) == 0) = false := by rw [beq_eq_false_iff_ne]; omega
  have h1 := h.ne1
  have h2 := h.ne2
  clear h h3 hm
  have hcase : size ≤ s.size ∨ (¬ size ≤ s.size ∧ fl = true) := by
    rcases hn.2 with h | h
    · exact .inl h
    · by_cases h4 : size ≤ s.size
      · exact .inl h4
      · exact .inr ⟨h4, h⟩
  clear hn
  rcases hcase with hc | ⟨hc, rfl⟩
  all_goals
    go_enter Try.func9, Try.ntmps9
    go_wp2_with (go_at_call 10; refine (blen_any b r g most size s _ H.out).mono ?_; rintro e w' ⟨rfl, rfl⟩)
    go_region_held3 (fun w' => w'.cell? ⟨b, 0, none⟩ = some (.pointer (some ⟨r, 0, none⟩)) ∧ w'.cell? ⟨b, 1, none⟩ = some (.int .i64 (size : Int))) (first | exact ⟨c0, c1⟩ | exact ⟨hK1.cell c0 (by simp; omega), hK1.cell c1 (by simp; omega)⟩) ((go_at_call 16; refine (take_any r g most s (size : Int) m H3.out _ (by first | exact H.out.ring | exact H.out.ring.kept ((Kept.refl [] _).drew) (by simp) (by simp))).mono ?_; rintro e w1 ⟨rfl, g1, hR1, hK1, hg1⟩))
    go_wp2
    go_ret2
    exact ⟨rfl, g1, H.out.turned hR1 ((Kept.refl _ _).drew.trans hK1 (fun x hx => .inl hx)) hg1, (Kept.refl _ _).drew.trans hK1 (fun x hx => .inl hx), hg1⟩
theorem next_nil (fl : Bool) (w : World) : Calls Try.prog 9 #[.pointer none, .bool fl] w (NoPost w) := by
  go_enter Try.func9, Try.ntmps9
  go_wp2_with (go_at_call 10; refine (blen_nil _).mono ?_; rintro e w' ⟨rfl, rfl⟩)
  go_ret2
  exact ⟨rfl, rfl⟩
end Go.Proofs.Ytncfenpeaoppnaa
