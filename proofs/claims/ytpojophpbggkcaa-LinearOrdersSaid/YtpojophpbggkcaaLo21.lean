/- few; the example. -/
import Derived.Test.YtpojophpbggkcaaLo20
namespace Go.Proofs.Ytpojophpbggkcaa
open Go.ChangeShapes Go.WideShapes Go.ChangeAt Go.RowKit Go.Shelf
set_option linter.unusedVariables false

def Awake : Prop := ∀ w, Calls Try.prog 5 #[] w (TruePost w)
def FewSays (W : World) (n : Nat) (E : Nat → Ev) (e : Ending) (w' : World) : Prop := ∃ r, e = .returned (.bool r) ∧ w' = W ∧ (r = true → fewB n E)
set_option maxRecDepth 100000 in
set_option maxHeartbeats 4000000 in
theorem few_says (E : Nat → Ev) (p : Option Addr) (bl off n cap : Nat) (hn : n ≤ 20) (hb : ∀ i, i < n → (E i).body.size ≤ maxLen ∧ (E i).ab.size ≤ maxLen) (hp : 0 < n → p = some ⟨bl, off, none⟩) (w : World) (hes : ES w bl off n E) :
    Calls Try.prog 4 #[.slice p n cap] w (FewSays w n E) := by
  have HES := Lib.hid hes
  have HB := Lib.hid hb
  clear hes hb
  go_enter Try.func4, Try.ntmps4
  go_wp2_with fail
  go_loopw [3] (fun iv' wr => ∃ i : Nat, iv' = .int .i64 (i : Int) ∧ i ≤ n ∧ wr = w ∧ fewB i E) (fun iv' _ => n - (intOf iv').toNat)
  case atStart => exact ⟨0, rfl, by omega, rfl, fun j hj => by omega⟩
  case round =>
    obtain ⟨i, rfl, hi, rfl, hfw⟩ := hrel
    have HFW := Lib.hid hfw
    clear hfw
    by_cases hin : i < n
    · obtain rfl := hp (by omega)
      obtain ⟨a0, a1, a2, a3, a4, a5, a6, a7, a8, a9, a10⟩ := HES.out.ev i hin
      have hb1 := (HB.out i hin).1
      have hb2 := (HB.out i hin).2
      have HNX : Hid (¬ 200 < (E i).body.size → ¬ 200 < (E i).ab.size → fewB (i + 1) E) := Lib.hid (fun h1 h2 j hj => by
        by_cases e : j = i
        · subst e; omega
        · exact HFW.out j (by omega))
      unfold maxLen at hb1 hb2
      generalize E i = x at *
      have q1 : (0 : Int) ≤ (i : Int) := by omega
      have q2 : (i : Int) < (n : Int) := by omega
      clear a0 a1 a2 a3 a4 a6 a8 a9 a10
      by_cases h1 : 200 < x.body.size
      · go_wp2_with fail
        go_ret
        exact ⟨false, rfl, rfl, fun h => by cases h⟩
      · by_cases h2 : 200 < x.ab.size
        · go_wp2_with fail
          go_ret
          exact ⟨false, rfl, rfl, fun h => by cases h⟩
        · have HN2 := Lib.hid (HNX.out h1 h2)
          go_wp2_with fail
          go_roundw
          case rel => exact ⟨i + 1, by go_num, by omega, by first | rfl | trivial, HN2.out⟩
          case measure => simp [intOf]; omega
    · obtain rfl : i = n := by omega
      go_wp2_with fail
      go_ret
      exact ⟨true, rfl, rfl, fun _ => HFW.out⟩
def evW : Ev := ⟨0, 0, 2, 0, 0, ⟨#[97, 98]⟩, 2, ⟨#[]⟩, 0, 1, 1⟩
def evR (f : Int) : Ev := ⟨0, 1, 3, 0, 5, ⟨#[]⟩, 2, ⟨#[97, 98]⟩, 0, 0, f⟩
def evB : Ev := ⟨0, 0, 0, 0, 0, ⟨#[]⟩, 0, ⟨#[]⟩, 0, 1, 0⟩
def two (x y : Ev) (i : Nat) : Ev := if i = 0 then x else y
theorem evV_size (x : Ev) : (evV x).size = 11 := rfl
theorem es_two {w : World} {g : Nat} {x y : Ev} (h : Blk w g (evV x ++ evV y) 40) : ES w g 0 2 (two x y) :=
  ⟨fun _ => h.lt, fun i hi j hj => by
    rw [h.cell]
    obtain rfl | rfl : i = 0 ∨ i = 1 := by omega
    · rw [Array.getElem?_append_left (by rw [evV_size]; omega)]
      unfold two
      rw [if_pos rfl]
      congr 1
      omega
    · rw [Array.getElem?_append_right (by rw [evV_size]; omega), evV_size]
      unfold two
      rw [if_neg (by omega)]
      congr 1
      omega⟩
theorem es_one {w : World} {g : Nat} {x : Ev} (h : Blk w g (evV x) 40) : ES w g 0 1 (fun _ => x) :=
  ⟨fun _ => h.lt, fun i hi j hj => by
    rw [h.cell]
    obtain rfl : i = 0 := by omega
    congr 1
    omega⟩
theorem sorted_r3 : Sorted (two (evR 3) evW) 2 [1, 0] := ⟨by decide, by unfold Sd; decide +kernel⟩
theorem sorted_r0 : Sorted (two (evR 0) evW) 2 [0, 1] := ⟨by decide, by unfold Sd; decide +kernel⟩
theorem good3 (i : Nat) (hi : i < 2) : ¬ badE (two (evR 3) evW i) := by
  obtain rfl | rfl : i = 0 ∨ i = 1 := by omega
  all_goals (unfold badE; decide)
theorem good0 (i : Nat) (hi : i < 2) : ¬ badE (two (evR 0) evW i) := by
  obtain rfl | rfl : i = 0 ∨ i = 1 := by omega
  all_goals (unfold badE; decide)
theorem short_two (f : Int) (i : Nat) : ShortE (two (evR f) evW i) := by
  unfold two
  split
  · exact ⟨by show (0 : Nat) ≤ 200; omega, by show (2 : Nat) ≤ 200; omega⟩
  · exact ⟨by show (2 : Nat) ≤ 200; omega, by show (0 : Nat) ≤ 200; omega⟩
theorem fit_two (f : Int) (hf : -9223372036854775808 ≤ f) : FitE (two (evR f) evW) 2 := by
  intro i hi
  unfold two
  split
  · exact hf
  · show (-9223372036854775808 : Int) ≤ 1; decide
theorem chk3 : ChkP 2 (two (evR 3) evW) 0 := by
  refine ⟨0, 2, go_ [1, 0], .inr ⟨good3, rfl, rfl, [1, 0], sorted_r3, rfl⟩, .inr (.inr ⟨rfl, ⟨⟨rfl, fun i hi => ?_⟩, ?_, ?_⟩, rfl⟩)⟩
  · obtain rfl | rfl : i = 0 ∨ i = 1 := by omega
    · exact ⟨by decide, by decide, fun k hk => by omega⟩
    · refine ⟨by decide, by decide, fun k hk => ?_⟩
      obtain rfl : k = 0 := by omega
      decide
  · unfold RealP
    decide +kernel
  · decide +kernel
theorem chk0 : ChkP 2 (two (evR 0) evW) 10 := by
  refine ⟨0, 2, go_ [0, 1], .inr ⟨good0, rfl, rfl, [0, 1], sorted_r0, rfl⟩, .inr (.inl ⟨rfl, fun h => ?_, rfl⟩)⟩
  have h2 : (foldM (xsA 2 (natO (go_ [0, 1])) (two (evR 0) evW))).isSome = false := by decide +kernel
  rw [h.2.2] at h2
  cases h2
theorem evAt_blk {w : World} {b : Nat} {e : Ev} (h : Blk w b (evV e) 40) :
  w.cell? ⟨b, 0, none⟩ = some (.int .i64 e.id) ∧ w.cell? ⟨b, 1, none⟩ = some (.int .i64 e.side) ∧ w.cell? ⟨b, 2, none⟩ = some (.int .i64 e.kind) ∧ w.cell? ⟨b, 3, none⟩ = some (.int .i64 e.stream) ∧
  w.cell? ⟨b, 4, none⟩ = some (.int .i64 e.n) ∧ w.cell? ⟨b, 5, none⟩ = some (.string e.body) ∧ w.cell? ⟨b, 6, none⟩ = some (.int .i64 e.an) ∧ w.cell? ⟨b, 7, none⟩ = some (.string e.ab) ∧
  w.cell? ⟨b, 8, none⟩ = some (.int .i64 e.err) ∧ w.cell? ⟨b, 9, none⟩ = some (.int .i64 e.beg) ∧ w.cell? ⟨b, 10, none⟩ = some (.int .i64 e.fin) :=
  ⟨h.cell 0, h.cell 1, h.cell 2, h.cell 3, h.cell 4, h.cell 5, h.cell 6, h.cell 7, h.cell 8, h.cell 9, h.cell 10⟩
theorem es_blk {w : World} {g : Nat} {x y : Ev} {c : Array Value} (h : Blk w g c 40) (e : c = evV x ++ evV y) : ES w g 0 2 (two x y) := es_two (e ▸ h)
set_option maxRecDepth 100000 in
set_option maxHeartbeats 8000000 in
theorem awake_true : Awake := by
  intro w
  go_enter Try.func5, Try.ntmps5
  go_wp2_with fail
  have hB0 := Grow.alloc (Grow.alloc (Grow.rfl' w) (.cells (evV evW) 40)) (.cells (evV (evR 3)) 40)
  have hBW := (Blk.new w (evV evW) 40).alloc (.cells (evV (evR 3)) 40)
  have hBR := Blk.new (w.alloc (.cells (evV evW) 40)) (evV (evR 3)) 40
  have hES := es_two (Blk.new ((w.alloc (.cells (evV evW) 40)).alloc (.cells (evV (evR 3)) 40)) (evV (evR 3) ++ evV evW) 40)
  have hK := (Kept.refl [] ((w.alloc (.cells (evV evW) 40)).alloc (.cells (evV (evR 3)) 40))).alloc (.cells (evV (evR 3) ++ evV evW) 40)
  have hB1 := hB0.next (hK.below (Nat.le_refl _) (by simp))
  have hBW1 := hBW.kept hK (by simp)
  have hBR1 := hBR.kept hK (by simp)
  clear hB0 hBW hBR hK
  simp only [World.size_alloc] at hES hBR1
  have hO := Lib.hid (order_is _ _ 0 2 2 (by omega) (by omega) _ hES)
  refine hO.out.mono ?_
  clear hO hES
  generalize ((w.alloc _).alloc _).alloc _ = w1 at hB1 hBW1 hBR1 ⊢
  rintro e w2 (⟨⟨i, hi, hb⟩, _, _⟩ | ⟨_, g, M, rfl, hg, hM, hr, hb⟩)
  · exact absurd hb (good3 i hi)
  obtain rfl := hM.eq sorted_r3
  have hBW2 := hBW1.below hb hBW1.lt
  have hBR2 := hBR1.below hb hBR1.lt
  have HB2 := Lib.hid (hB1.next hb)
  have HR2 := Lib.hid hr
  have HBW2 := Lib.hid hBW2
  have HBR2 := Lib.hid hBR2
  have hwl := hBW2.lt
  have hrl := hBR2.lt
  have hgl := hr.1
  obtain ⟨r0, r1, r2, r3, r4, r5, r6, r7, r8, r9, r10⟩ := evAt_blk hBR2
  clear hM hr hb hB1 hBW1 hBR1 hBW2 hBR2
  go_wp2_with fail
  have hS := (Blk.new w2 (evV (evR 0)) 40).alloc (.cells (evV evB) 40)
  have hE3 := es_one (Blk.new (w2.alloc (.cells (evV (evR 0)) 40)) (evV evB) 40)
  have hK := ((Kept.refl [] w2).alloc (.cells (evV (evR 0)) 40)).alloc (.cells (evV evB) 40)
  have HB3 := Lib.hid (HB2.out.next (hK.below (Nat.le_refl _) (by simp)))
  have HR3 := Lib.hid (HR2.out.kept hK (by simp))
  have HBW3 := Lib.hid (HBW2.out.kept hK (by simp))
  have HBR3 := Lib.hid (HBR2.out.kept hK (by simp))
  simp only [World.size_alloc] at hE3
  have hO := Lib.hid (order_is _ _ 0 1 1 (by omega) (by omega) _ hE3)
  refine hO.out.mono ?_
  clear hO hE3 hK HB2 HR2 HBW2 HBR2 r0 r1 r2 r3 r4 r5 r6 r7 r8 r9 r10
  generalize (w2.alloc _).alloc _ = w3 at hS HB3 HR3 HBW3 HBR3 ⊢
  rintro e w4 (⟨_, rfl, hb⟩ | ⟨hok, _⟩)
  · have hS4 := hS.below hb hS.lt
    have HB4 := Lib.hid (HB3.out.next hb)
    have HR4 := Lib.hid (HR3.out.kept (Kept.of_below hb []) (by simp))
    have HBW4 := Lib.hid (HBW3.out.below hb HBW3.out.lt)
    have HBR4 := Lib.hid (HBR3.out.below hb HBR3.out.lt)
    have HS4 := Lib.hid hS4
    have hwl4 := HBW4.out.lt
    have hrl4 := HBR4.out.lt
    have hsl4 := HS4.out.lt
    have hgl4 := HR4.out.1
    clear hb hS hS4 HB3 HR3 HBW3 HBR3 hwl hrl hgl
    go_wp2_with fail
    have hN := Blk.new w4 #[.int .i64 1, .int .i64 0] 3
    have hRN : RowV _ w4.heap.size 2 (iv [1, 0]) := RowV.of_blk _ _ hN (fun j hj => by
      obtain rfl | rfl : j = 0 ∨ j = 1 := by omega
      · rfl
      · rfl)
    have hK := (Kept.refl [] w4).alloc (.cells #[.int .i64 1, .int .i64 0] 3)
    refine (ints_oi (some ⟨g, 0, none⟩) (some ⟨w4.heap.size, 0, none⟩) g w4.heap.size 0 0 2 2 2 (go_ [1, 0]) (go_ [1, 0]) (by omega) (fun _ _ => rfl) _ (oi_row (HR4.out.kept hK (by simp))) (oi_row hRN)).mono ?_
    rintro e w5 ⟨rfl, hb5⟩
    have hk5 := hK.trans (Kept.of_below hb5 []) (by simp)
    have HB5 := Lib.hid (HB4.out.next (hk5.below (Nat.le_refl _) (by simp)))
    have HBW5 := Lib.hid (HBW4.out.kept hk5 (by simp))
    have HBR5 := Lib.hid (HBR4.out.kept hk5 (by simp))
    have HS5 := Lib.hid (HS4.out.kept hk5 (by simp))
    have hs5 := hk5.size
    clear hN hRN hK hb5 hk5 HB4 HR4 HBW4 HBR4 HS4
    obtain ⟨r0, r1, r2, r3, r4, r5, r6, r7, r8, r9, r10⟩ := evAt_blk HBR5.out
    obtain ⟨v0, v1, v2, v3, v4, v5, v6, v7, v8, v9, v10⟩ := evAt_blk HBW5.out
    go_wp2_with fail
    have hE6 := es_two (Blk.new w5 (evV (evR 3) ++ evV evW) 40)
    have hK := (Kept.refl [] w5).alloc (.cells (evV (evR 3) ++ evV evW) 40)
    have HC := Lib.hid (lcheck_says _ (short_two 3) (some ⟨w5.heap.size, 0, none⟩) _ 0 2 2 (fit_two 3 (by decide)) (by omega) (fun _ => rfl) _ hE6)
    refine HC.out.mono ?_
    clear r0 r1 r2 r3 r4 r5 r6 r7 r8 r9 r10 v0 v1 v2 v3 v4 v5 v6 v7 v8 v9 v10 HC hE6
    rintro e w6 ⟨r, rfl, hM, hb6⟩
    obtain rfl := hM.same chk3
    have hk6 := hK.trans (Kept.of_below hb6 []) (by simp)
    have HB6 := Lib.hid (HB5.out.next (hk6.below (Nat.le_refl _) (by simp)))
    have HBW6 := Lib.hid (HBW5.out.kept hk6 (by simp))
    have HS6 := Lib.hid (HS5.out.kept hk6 (by simp))
    have hs6 := hk6.size
    clear hK hb6 hk6 HB5 HBW5 HBR5 HS5 hM
    obtain ⟨r0, r1, r2, r3, r4, r5, r6, r7, r8, r9, r10⟩ := evAt_blk HS6.out
    obtain ⟨v0, v1, v2, v3, v4, v5, v6, v7, v8, v9, v10⟩ := evAt_blk HBW6.out
    go_wp2_with fail
    have hE7 := es_two (Blk.new w6 (evV (evR 0) ++ evV evW) 40)
    have hK := (Kept.refl [] w6).alloc (.cells (evV (evR 0) ++ evV evW) 40)
    have HC := Lib.hid (lcheck_says _ (short_two 0) (some ⟨w6.heap.size, 0, none⟩) _ 0 2 2 (fit_two 0 (by decide)) (by omega) (fun _ => rfl) _ hE7)
    refine HC.out.mono ?_
    clear r0 r1 r2 r3 r4 r5 r6 r7 r8 r9 r10 v0 v1 v2 v3 v4 v5 v6 v7 v8 v9 v10 HC hE7
    rintro e w7 ⟨r, rfl, hM, hb7⟩
    obtain rfl := hM.same chk0
    have hk7 := hK.trans (Kept.of_below hb7 []) (by simp)
    have HB7 := Lib.hid (HB6.out.next (hk7.below (Nat.le_refl _) (by simp)))
    have HBW7 := Lib.hid (HBW6.out.kept hk7 (by simp))
    have hs7 := hk7.size
    clear hK hb7 hk7 HB6 HBW6 HS6 hM
    obtain ⟨v0, v1, v2, v3, v4, v5, v6, v7, v8, v9, v10⟩ := evAt_blk HBW7.out
    go_wp2_with fail
    refine (legal_is (some ⟨w7.heap.size, 0, none⟩) none w7.heap.size 0 1 1 0 0 0 0 (fun _ => 0) (fun _ => evW) (fun _ => ⟨by show (2 : Nat) ≤ 200; omega, by show (0 : Nat) ≤ 200; omega⟩) (fun i hi => by show (-9223372036854775808 : Int) ≤ 1; decide) (by omega) (by omega) (fun _ => rfl) _ (es_one (Blk.new w7 (evV evW) 40)) (oi_none _ _)).mono ?_
    rintro e w8 ⟨r, rfl, hr8, hb8⟩
    obtain rfl : r = false := by
      cases r with
      | false => rfl
      | true => exact absurd (hr8.1 rfl).1.1 (by omega)
    clear hr8
    have HB8 := Lib.hid (Grow.next (Grow.alloc HB7.out _) hb8)
    clear hb8 HB7 HBW7 v0 v1 v2 v3 v4 v5 v6 v7 v8 v9 v10
    go_wp2_with fail
    go_ret
    exact ⟨rfl, HB8.out⟩
  · exact absurd (.inr (by decide)) (hok 0 (by omega))
end Go.Proofs.Ytpojophpbggkcaa
