/- lightshiplaw12: do, awake. -/
import Derived.Test.YthgbdlchjglmiaaRing4
import Derived.Test.YthgbdlchjglmiaaOpen
import Derived.Deep.RegionHeld3
namespace Go.Proofs.Ythgbdlchjglmiaa
open Go.ChangeShapes Go.WideShapes Go.ChangeAt Go.RowKit
set_option linter.unusedVariables false

def TruePost (W : World) (e : Ending) (w' : World) : Prop := e = .returned (.bool true) ∧ Below W.heap.size W w'
theorem put_lit (b g most : Nat) (s t s' : ByteArray) (r : Int) (k : Nat) (hr : r = (k : Int)) (ht : t.size ≤ 1048576) (hk : min (t.size : Int) ((most : Int) - (s.size : Int)) = (k : Int)) (hs : s ++ t.extract 0 k = s') (w : World) (h : Ring w b g most s) :
    Calls Try.prog 11 #[.pointer (some ⟨b, 0, none⟩), .string t] w (ActPost w b g most s' (.int .i64 r)) := by
  subst hs hr; exact put_any b g most s t k ht hk w h
theorem take_lit (b g most : Nat) (s t s' : ByteArray) (n : Int) (m : Nat) (hm : max 0 (min n (s.size : Int)) = (m : Int)) (h1 : s.extract 0 m = t) (h2 : s.extract m s.size = s') (w : World) (h : Ring w b g most s) :
    Calls Try.prog 12 #[.pointer (some ⟨b, 0, none⟩), .int .i64 n] w (ActPost w b g most s' (.string t)) := by
  subst h1 h2; exact take_any b g most s n m hm w h
theorem peek_lit (b g most : Nat) (s t : ByteArray) (n : Int) (m : Nat) (hm : max 0 (min n (s.size : Int)) = (m : Int)) (h1 : s.extract 0 m = t) (w : World) (h : Ring w b g most s) :
    Calls Try.prog 14 #[.pointer (some ⟨b, 0, none⟩), .int .i64 n] w (PeekPost w t) := by
  subst h1; exact peek_any b g most s n m hm w h
theorem a1 : (⟨#[]⟩ : ByteArray) ++ (⟨#[97, 98, 99, 100]⟩ : ByteArray).extract 0 3 = ⟨#[97, 98, 99]⟩ := by rfl
theorem a2 : (⟨#[97, 98, 99]⟩ : ByteArray).extract 0 2 = ⟨#[97, 98]⟩ := by rfl
theorem a3 : (⟨#[97, 98, 99]⟩ : ByteArray).extract 2 (ByteArray.mk #[97, 98, 99]).size = ⟨#[99]⟩ := by rfl
theorem a4 : (⟨#[99]⟩ : ByteArray) ++ (⟨#[101, 102]⟩ : ByteArray).extract 0 2 = ⟨#[99, 101, 102]⟩ := by rfl
theorem a5 : (⟨#[99, 101, 102]⟩ : ByteArray).extract 0 1 = ⟨#[99]⟩ := by rfl
theorem a6 : (⟨#[99, 101, 102]⟩ : ByteArray).extract 0 3 = ⟨#[99, 101, 102]⟩ := by rfl
theorem a7 : (⟨#[99, 101, 102]⟩ : ByteArray).extract 3 (ByteArray.mk #[99, 101, 102]).size = ⟨#[]⟩ := by rfl
theorem a8 : (⟨#[]⟩ : ByteArray) ++ (⟨#[120]⟩ : ByteArray).extract 0 1 = ⟨#[120]⟩ := by rfl
theorem act_below {b g B : Nat} {w w' : World} (hk : Kept [b, g] w w') (hb : B ≤ b) (hg : B ≤ g) (hs : B ≤ w.heap.size) : Below B w w' := hk.below hs (fun x hx => by simp at hx; rcases hx with h | h <;> omega)
set_option maxRecDepth 100000 in
set_option maxHeartbeats 2000000 in
theorem awake_true (w : World) : Calls Try.prog 6 #[] w (TruePost w) := by
  go_enter Try.func6, Try.ntmps6
  go_wp2_with fail
  refine (new_good 3 (by omega) (by omega) _).mono ?_
  rintro e w0 ⟨b, g0, rfl, hR0, hbW, hgW0, hB0⟩
  go_wp2_with fail
  refine (new_bad 0 (by omega) _).mono ?_
  rintro e w' ⟨rfl, rfl⟩
  go_wp2_with fail
  refine (put_lit b g0 3 _ _ _ 3 3 rfl (by decide) (by decide) a1 _ hR0).mono ?_
  rintro e w1 ⟨rfl, g1, hR1, hK1, hg1⟩
  have hB1 := hB0.trans (act_below hK1 hbW hgW0 hB0.size)
  have hgW1 : w.heap.size ≤ g1 := by have := hB0.size; omega
  clear hK1 hg1
  go_wp2_with fail
  refine (take_lit b g1 3 _ _ _ 2 2 (by decide) a2 a3 _ hR1).mono ?_
  rintro e w2 ⟨rfl, g2, hR2, hK2, hg2⟩
  have hB2 := hB1.trans (act_below hK2 hbW hgW1 hB1.size)
  have hgW2 : w.heap.size ≤ g2 := by have := hB1.size; omega
  clear hK2 hg2
  go_wp2_with fail
  refine (put_lit b g2 3 _ _ _ 2 2 rfl (by decide) (by decide) a4 _ hR2).mono ?_
  rintro e w3 ⟨rfl, g3, hR3, hK3, hg3⟩
  have hB3 := hB2.trans (act_below hK3 hbW hgW2 hB2.size)
  have hgW3 : w.heap.size ≤ g3 := by have := hB2.size; omega
  clear hK3 hg3
  go_wp2_with fail
  refine (peek_lit b g3 3 _ _ 1 1 (by decide) a5 _ hR3).mono ?_
  rintro e w' ⟨rfl, n1, rfl⟩
  go_wp2_with fail
  refine (len_any b g3 3 _ _ (hR3.drewN _)).mono ?_
  rintro e w' ⟨rfl, rfl⟩
  go_wp2_with fail
  refine (room_any b g3 3 _ _ (hR3.drewN _)).mono ?_
  rintro e w' ⟨rfl, n2, rfl⟩
  go_wp2_with fail
  refine (take_lit b g3 3 _ _ _ 9 3 (by decide) a6 a7 _ (by first | exact hR3.drewN _ | exact (hR3.drewN _).drewN _)).mono ?_
  have hB3' : ∀ n, Below w.heap.size w (w3.drewN n) := fun n => bdrewN hB3 n
  rintro e w4 ⟨rfl, g4, hR4, hK4, hg4⟩
  have hB4 : Below w.heap.size w w4 := Below.trans (b := _) (by first | exact hB3' _ | exact bdrewN (hB3' _) _) (act_below hK4 hbW hgW3 (by exact hB3.size))
  have hgW4 : w.heap.size ≤ g4 := by have h := hB3.size; rcases hg4 with h1 | h1; omega; exact Nat.le_trans h (by exact h1)
  clear hK4 hg4
  go_wp2_with fail
  refine (put_lit b g4 3 _ _ _ 1 1 rfl (by decide) (by decide) a8 _ hR4).mono ?_
  rintro e w5 ⟨rfl, g5, hR5, hK5, hg5⟩
  have hB5 := hB4.trans (act_below hK5 hbW hgW4 hB4.size)
  have hgW5 : w.heap.size ≤ g5 := by have := hB4.size; omega
  clear hK5 hg5
  go_wp2_with fail
  refine (clear_any b g5 3 _ _ hR5).mono ?_
  rintro e w6 ⟨rfl, g6, hR6, hK6, hg6⟩
  have hB6 := hB5.trans (act_below hK6 hbW hgW5 hB5.size)
  go_wp2_with fail
  refine (len_any b g6 3 _ _ hR6).mono ?_
  rintro e w' ⟨rfl, rfl⟩
  go_wp2_with fail
  refine (room_any b g6 3 _ _ hR6).mono ?_
  rintro e w' ⟨rfl, n7, rfl⟩
  go_wp2_with fail
  go_ret
  exact ⟨rfl, bdrewN hB6 _⟩

theorem Ring.drew {w : World} {b g most : Nat} {s : ByteArray} (h : Ring w b g most s) : Ring w.drew b g most s := h.kept ((Kept.refl [] w).drew) (by simp) (by simp)
def DoPost (W : World) (b g most : Nat) (s : ByteArray) (e : Ending) (w' : World) : Prop := e = .returned (.tuple #[.string s, .bool true]) ∧ ∃ g', Ring w' b g' most s ∧ Kept [b, g] W w' ∧ (g' = g ∨ W.heap.size ≤ g')
def doS (s body : ByteArray) (K : Int) (k m : Nat) : ByteArray := if K = 0 then s ++ body.extract 0 k else if K = 1 then s.extract m s.size else if K = 2 then s else ⟨#[]⟩
set_option maxRecDepth 100000 in
set_option maxHeartbeats 4000000 in
theorem do_any (b g most : Nat) (s body : ByteArray) (K N : Int) (k m : Nat) (hb : body.size ≤ 500) (hk : min (body.size : Int) ((most : Int) - (s.size : Int)) = (k : Int)) (hm : max 0 (min N (s.size : Int)) = (m : Int)) (w : World) (h : Ring w b g most s) :
    Calls Try.prog 8 #[.pointer (some ⟨b, 0, none⟩), .string s, .int .i64 (most : Int), .agg #[.int .i64 K, .int .i64 N, .string body]] w (DoPost w b g most (doS s body K k m)) := by
  obtain ⟨l1, l2, l3, l4, l5⟩ := h.lt
  have hkb : k ≤ body.size := by omega
  have hms : m ≤ s.size := by omega
  have z1 := size_extract body 0 k hkb
  rw [Nat.sub_zero] at z1
  have H : Hid (∀ T c, Ring (w.alloc (.cells c T)) b g most s) := Lib.hid (fun T c => h.kept ((Kept.refl [] w).alloc (.cells c T)) (by simp) (by simp))
  have HK := Lib.hid hk
  have HM := Lib.hid hm
  have hadd : ¬ 9223372036854775807 < s.size + k := by omega
  have hbx : b ≠ w.heap.size := by omega
  have hgx : g ≠ w.heap.size := by omega
  clear h
  have HB2 : Hid (∀ K2 : Int, (w.alloc (.cells #[.int .i64 K2, .int .i64 N, .string body] 29)).cell? ⟨w.heap.size, 2, none⟩ = some (.string body) ∧ (w.alloc (.cells #[.int .i64 K2, .int .i64 N, .string body] 29)).cell? ⟨w.heap.size, 1, none⟩ = some (.int .i64 N)) := Lib.hid fun K2 => ⟨(Blk.new w _ _).cell 2, (Blk.new w _ _).cell 1⟩
  by_cases h0 : K = 0
  · subst h0
    obtain ⟨x2, x1⟩ := HB2.out 0
    go_enter Try.func8, Try.ntmps8
    go_wp2_with fail
    go_region_held3 (fun w' => w'.cell? ⟨w.heap.size, 2, none⟩ = some (.string body)) (first | exact x2 | exact hK2.cell (by exact x2) (by simp; omega)) ((go_at_call 11; refine (put_any b g most s body k (by omega) HK.out _ (by first | exact H.out _ _ | exact (H.out _ _).drew)).mono ?_; rintro e w2 ⟨rfl, g2, hR2, hK2, hg2⟩))
    go_wp2_with fail
    go_ret2
    refine ⟨?_, g2, ?_, (((Kept.refl _ _).alloc _).drew).trans (by exact hK2) (fun x hx => .inl hx), ?_⟩
    · rw [show doS s body 0 k m = s ++ body.extract 0 k from rfl]; rfl
    · rw [show doS s body 0 k m = s ++ body.extract 0 k from rfl]; exact hR2
    · rcases hg2 with h | h
      · exact .inl h
      · right; simp at h; omega
  · have b0 : (K == 0) = false := by simpa using h0
    by_cases h1 : K = 1
    · subst h1
      obtain ⟨x2, x1⟩ := HB2.out 1
      clear h0
      go_enter Try.func8, Try.ntmps8
      go_wp2_with fail
      go_region_held3 (fun w' => w'.cell? ⟨w.heap.size, 1, none⟩ = some (.int .i64 N)) (first | exact x1 | exact hK2.cell (by exact x1) (by simp; omega)) ((go_at_call 12; refine (take_any b g most s N m HM.out _ (by first | exact H.out _ _ | exact (H.out _ _).drew)).mono ?_; rintro e w2 ⟨rfl, g2, hR2, hK2, hg2⟩))
      go_wp2_with fail
      go_ret2
      refine ⟨?_, g2, ?_, (((Kept.refl _ _).alloc _).drew).trans (by exact hK2) (fun x hx => .inl hx), ?_⟩
      · rw [show doS s body 1 k m = s.extract m s.size from rfl]; rfl
      · rw [show doS s body 1 k m = s.extract m s.size from rfl]; exact hR2
      · rcases hg2 with h | h
        · exact .inl h
        · right; simp at h; omega
    · have b1 : (K == 1) = false := by simpa using h1
      by_cases h2 : K = 2
      · subst h2
        obtain ⟨x2, x1⟩ := HB2.out 2
        clear h0 h1
        go_enter Try.func8, Try.ntmps8
        go_wp2_with fail
        go_quiet ((go_at_call 14; exact Calls.quiet_of ((peek_any b g most s N m HM.out _ (by first | exact H.out _ _ | exact (H.out _ _).drewN _)).mono fun e w' h => h)))
        go_wp2_with fail
        go_ret2
        exact ⟨by rw [show doS s body 2 k m = s from rfl]; rfl, g, (by first | exact (H.out _ _).drewN _ | exact H.out _ _), ((Kept.refl _ _).alloc _).drewN _, .inl rfl⟩
      · have b2 : (K == 2) = false := by simpa using h2
        have HD := Lib.hid (show doS s body K k m = ⟨#[]⟩ by unfold doS; rw [if_neg h0, if_neg h1, if_neg h2])
        clear h0 h1 h2
        go_enter Try.func8, Try.ntmps8
        go_wp2_with fail
        refine (clear_any b g most s _ (H.out _ _)).mono ?_
        rintro e w2 ⟨rfl, g2, hR2, hK2, hg2⟩
        go_wp2_with fail
        go_ret2
        refine ⟨?_, g2, ?_, ((Kept.refl _ _).alloc _).trans hK2 (fun x hx => .inl hx), ?_⟩
        · rw [HD.out]; rfl
        · rw [HD.out]; exact hR2
        · rcases hg2 with h | h
          · exact .inl h
          · right; simp at h; omega
end Go.Proofs.Ythgbdlchjglmiaa
