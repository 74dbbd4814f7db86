/- linear.Check; the example of lightshiplaw35. -/
import Derived.Test.YtpefcmmfocamdaaLin10
namespace Go.Proofs.Ytpefcmmfocamdaa
open Go.ChangeShapes Go.WideShapes Go.ChangeAt Go.RowKit Go.Shelf
set_option linter.unusedVariables false

set_option maxRecDepth 100000 in
set_option maxHeartbeats 4000000 in
theorem legal_none (bl off cap : Nat) (w : World) : Calls Try.prog 9 #[.slice (some ⟨bl, off, none⟩) 1 cap, .slice none 0 0] w fun e w' => e = .returned (.bool false) ∧ Below w.heap.size w w' := by
  refine (callsIn_wide (n := 6)).1 ?_
  have h1 : 1 ≤ 6 := by omega
  refine callsIn_of_wp_marks Try.func9 rfl trivial ?_ rfl
  simp only [Try.ntmps9, List.size_toArray, List.length_cons, List.length_nil, Nat.reduceAdd, Nat.reduceSub, Array.replicate_succ, Array.replicate_zero, List.push_toArray, List.append_toArray, List.nil_append, List.cons_append]
  gi_wp2_with fail
  refine ⟨trivial, ?_⟩
  have hb1 : Grow w (w.alloc (.cells #[.bool false] 4)) := (Grow.rfl' w).alloc _
  refine (callsIn_wide.2 (each_none _)).mono ?_
  rintro e w2 ⟨rfl, hb2⟩
  have bR2 := (Blk.new w #[.bool false] 4).below hb2 (by simp)
  have HB2 := Lib.hid (hb1.next hb2)
  have cR : w2.cell? ⟨w.heap.size, 0, none⟩ = some (.bool false) := bR2.cell 0
  have fR := bR2.free 0
  clear hb1 hb2 bR2
  gi_wp2_with fail
  refine ⟨trivial, ?_⟩
  gi_wp2_with fail
  refine ⟨.bool false, ?_, rfl, HB2.out.setCell (p := ⟨w.heap.size, 0, none⟩) (Nat.le_refl _) _⟩
  have hc5 := World.cell?_setCell_same' w2 ⟨w.heap.size, 0, none⟩ (.bool false) (by rw [cR]; rfl)
  simp [results, Try.f9, go_sem, hc5]
theorem sorted_nodup {E : Nat → Ev} {n : Nat} {M : List Nat} (h : Sorted E n M) : M.Nodup := h.1.nodup_iff.2 List.nodup_range
def legalB (E : Nat → Ev) (M : List Nat) : Bool := (realF (xsOf M E)).isSome && (foldL (xsOf M E)).isSome
def CheckPost (W : World) (n : Nat) (E : Nat → Ev) (e : Ending) (w' : World) : Prop := ∃ M, Sorted E n M ∧ e = .returned (.int .i64 (if legalB E M then 0 else 10)) ∧ Below W.heap.size W w'
set_option maxRecDepth 100000 in
set_option maxHeartbeats 4000000 in
theorem check_is (E : Nat → Ev) (bl off n cap : Nat) (hE : ∀ i, OkE (E i)) (hn1 : 1 ≤ n) (hn2 : n ≤ 20) (hok : ∀ i, i < n → ¬ badE (E i)) (w : World) (hes : ES w bl off n E) : Calls Try.prog 8 #[.slice (some ⟨bl, off, none⟩) n cap] w (CheckPost w n E) := by
  have HES := Lib.hid hes
  have HO := Lib.hid (order_is E bl off n cap hn1 hn2 w hes)
  have hbl := hes.lt (by omega)
  have HOK := Lib.hid hok
  clear hes hok
  go_enter Try.func8, Try.ntmps8
  go_wp2_with fail
  refine HO.out.mono ?_
  rintro e w2 (⟨hbad, _, _⟩ | ⟨_, g, M, rfl, hg, hM, hr, hb⟩)
  · obtain ⟨i, hi, hb⟩ := hbad
    exact absurd hb (HOK.out i hi)
  · have HM := Lib.hid hM
    have HB := Lib.hid hb
    have HL := Lib.hid (legal_is bl off n cap g n M E hE hM.len hn2 (sorted_nodup hM) hM.lt w2 (Nat.lt_of_lt_of_le hbl hb.size) (HES.out.below hb) hr)
    clear hM hr hb HO
    go_wp2_with fail
    refine HL.out.mono ?_
    rintro e w3 ⟨rfl, hb3⟩
    have HX : Hid (CheckPost w n E (.returned (.int .i64 (if legalB E M then 0 else 10))) w3) := Lib.hid ⟨M, HM.out, rfl, HB.out.trans (hb3.mono HB.out.size)⟩
    clear hb3 HL
    have hlb : legalB E M = ((realF (xsOf M E)).isSome && (foldL (xsOf M E)).isSome) := rfl
    rw [← hlb]
    clear hlb
    cases hc : legalB E M with
    | true =>
      rw [hc] at HX
      clear hc
      go_wp2_with fail
      go_ret
      exact HX.out
    | false =>
      rw [hc] at HX
      clear hc
      go_wp2_with fail
      go_ret
      exact HX.out
def evW : Ev := ⟨0, 0, 2, 0, 0, ⟨#[97, 98]⟩, 2, ⟨#[]⟩, 0, 1, 1⟩
def evR (f : Int) : Ev := ⟨0, 1, 3, 0, 5, ⟨#[]⟩, 2, ⟨#[97, 98]⟩, 0, 0, f⟩
def evB : Ev := ⟨0, 0, 0, 0, 0, ⟨#[]⟩, 0, ⟨#[]⟩, 0, 1, 0⟩
def two (x y : Ev) (i : Nat) : Ev := if i = 0 then x else y
theorem ok_two (f : Int) (i : Nat) : OkE (two (evR f) evW i) := by
  unfold two
  split
  · exact ⟨rfl, rfl, .inr ⟨rfl, rfl, by show (2 : Nat) ≤ 200; omega⟩⟩
  · exact ⟨rfl, rfl, .inl ⟨rfl, rfl, 2, rfl, by decide, by decide⟩⟩
theorem evV_size (x : Ev) : (evV x).size = 11 := rfl
theorem es_two {w : World} {g : Nat} {x y : Ev} (h : Blk w g (evV x ++ evV y) 34) : ES w g 0 2 (two x y) :=
  ⟨fun _ => h.lt, fun i hi j hj => by
    rw [h.cell]
    obtain rfl | rfl : i = 0 ∨ i = 1 := by omega
    · rw [Array.getElem?_append_left (by rw [evV_size]; omega)]
      unfold two
      rw [if_pos rfl]
      congr 1
      omega
    · rw [Array.getElem?_append_right (by rw [evV_size]; omega), evV_size]
      unfold two
      rw [if_neg (by omega)]
      congr 1
      omega⟩
theorem es_one {w : World} {g : Nat} {x : Ev} (h : Blk w g (evV x) 34) : ES w g 0 1 (fun _ => x) :=
  ⟨fun _ => h.lt, fun i hi j hj => by
    rw [h.cell]
    obtain rfl : i = 0 := by omega
    congr 1
    omega⟩
theorem sorted_r3 : Sorted (two (evR 3) evW) 2 [1, 0] := ⟨by decide, by unfold Sd; decide +kernel⟩
theorem sorted_r0 : Sorted (two (evR 0) evW) 2 [0, 1] := ⟨by decide, by unfold Sd; decide +kernel⟩
theorem legal_r3 : legalB (two (evR 3) evW) [1, 0] = true := by decide +kernel
theorem legal_r0 : legalB (two (evR 0) evW) [0, 1] = false := by decide +kernel
theorem good3 (i : Nat) (hi : i < 2) : ¬ badE (two (evR 3) evW i) := by
  obtain rfl | rfl : i = 0 ∨ i = 1 := by omega
  all_goals (unfold badE; decide)
theorem good0 (i : Nat) (hi : i < 2) : ¬ badE (two (evR 0) evW i) := by
  obtain rfl | rfl : i = 0 ∨ i = 1 := by omega
  all_goals (unfold badE; decide)
theorem evAt_blk {w : World} {b : Nat} {e : Ev} (h : Blk w b (evV e) 34) :
  w.cell? ⟨b, 0, none⟩ = some (.int .i64 e.id) ∧ w.cell? ⟨b, 1, none⟩ = some (.int .i64 e.side) ∧ w.cell? ⟨b, 2, none⟩ = some (.int .i64 e.kind) ∧ w.cell? ⟨b, 3, none⟩ = some (.int .i64 e.stream) ∧
  w.cell? ⟨b, 4, none⟩ = some (.int .i64 e.n) ∧ w.cell? ⟨b, 5, none⟩ = some (.string e.body) ∧ w.cell? ⟨b, 6, none⟩ = some (.int .i64 e.an) ∧ w.cell? ⟨b, 7, none⟩ = some (.string e.ab) ∧
  w.cell? ⟨b, 8, none⟩ = some (.int .i64 e.err) ∧ w.cell? ⟨b, 9, none⟩ = some (.int .i64 e.beg) ∧ w.cell? ⟨b, 10, none⟩ = some (.int .i64 e.fin) :=
  ⟨h.cell 0, h.cell 1, h.cell 2, h.cell 3, h.cell 4, h.cell 5, h.cell 6, h.cell 7, h.cell 8, h.cell 9, h.cell 10⟩
theorem es_blk {w : World} {g : Nat} {x y : Ev} {c : Array Value} (h : Blk w g c 34) (e : c = evV x ++ evV y) : ES w g 0 2 (two x y) := es_two (e ▸ h)
set_option maxRecDepth 100000 in
set_option maxHeartbeats 8000000 in
theorem awake_true : Awake := by
  intro w
  go_enter Try.func5, Try.ntmps5
  go_wp2_with fail
  have hB0 := Grow.alloc (Grow.alloc (Grow.rfl' w) (.cells (evV evW) 34)) (.cells (evV (evR 3)) 34)
  have hBW := (Blk.new w (evV evW) 34).alloc (.cells (evV (evR 3)) 34)
  have hBR := Blk.new (w.alloc (.cells (evV evW) 34)) (evV (evR 3)) 34
  have hES := es_two (Blk.new ((w.alloc (.cells (evV evW) 34)).alloc (.cells (evV (evR 3)) 34)) (evV (evR 3) ++ evV evW) 34)
  have hK := (Kept.refl [] ((w.alloc (.cells (evV evW) 34)).alloc (.cells (evV (evR 3)) 34))).alloc (.cells (evV (evR 3) ++ evV evW) 34)
  have hB1 := hB0.next (hK.below (Nat.le_refl _) (by simp))
  have hBW1 := hBW.kept hK (by simp)
  have hBR1 := hBR.kept hK (by simp)
  clear hB0 hBW hBR hK
  simp only [World.size_alloc] at hES hBR1
  have hO := Lib.hid (order_is _ _ 0 2 2 (by omega) (by omega) _ hES)
  refine hO.out.mono ?_
  clear hO hES
  generalize ((w.alloc _).alloc _).alloc _ = w1 at hB1 hBW1 hBR1 ⊢
  rintro e w2 (⟨⟨i, hi, hb⟩, _, _⟩ | ⟨_, g, M, rfl, hg, hM, hr, hb⟩)
  · exact absurd hb (good3 i hi)
  obtain rfl := hM.eq sorted_r3
  have hBW2 := hBW1.below hb hBW1.lt
  have hBR2 := hBR1.below hb hBR1.lt
  have HB2 := Lib.hid (hB1.next hb)
  have HR2 := Lib.hid hr
  have HBW2 := Lib.hid hBW2
  have HBR2 := Lib.hid hBR2
  have hwl := hBW2.lt
  have hrl := hBR2.lt
  have hgl := hr.1
  obtain ⟨r0, r1, r2, r3, r4, r5, r6, r7, r8, r9, r10⟩ := evAt_blk hBR2
  clear hM hr hb hB1 hBW1 hBR1 hBW2 hBR2
  go_wp2_with fail
  have hS := (Blk.new w2 (evV (evR 0)) 34).alloc (.cells (evV evB) 34)
  have hE3 := es_one (Blk.new (w2.alloc (.cells (evV (evR 0)) 34)) (evV evB) 34)
  have hK := ((Kept.refl [] w2).alloc (.cells (evV (evR 0)) 34)).alloc (.cells (evV evB) 34)
  have HB3 := Lib.hid (HB2.out.next (hK.below (Nat.le_refl _) (by simp)))
  have HR3 := Lib.hid (HR2.out.kept hK (by simp))
  have HBW3 := Lib.hid (HBW2.out.kept hK (by simp))
  have HBR3 := Lib.hid (HBR2.out.kept hK (by simp))
  simp only [World.size_alloc] at hE3
  have hO := Lib.hid (order_is _ _ 0 1 1 (by omega) (by omega) _ hE3)
  refine hO.out.mono ?_
  clear hO hE3 hK HB2 HR2 HBW2 HBR2 r0 r1 r2 r3 r4 r5 r6 r7 r8 r9 r10
  generalize (w2.alloc _).alloc _ = w3 at hS HB3 HR3 HBW3 HBR3 ⊢
  rintro e w4 (⟨_, rfl, hb⟩ | ⟨hok, _⟩)
  · have hS4 := hS.below hb hS.lt
    have HB4 := Lib.hid (HB3.out.next hb)
    have HR4 := Lib.hid (HR3.out.kept (Kept.of_below hb []) (by simp))
    have HBW4 := Lib.hid (HBW3.out.below hb HBW3.out.lt)
    have HBR4 := Lib.hid (HBR3.out.below hb HBR3.out.lt)
    have HS4 := Lib.hid hS4
    have hwl4 := HBW4.out.lt
    have hrl4 := HBR4.out.lt
    have hsl4 := HS4.out.lt
    have hgl4 := HR4.out.1
    clear hb hS hS4 HB3 HR3 HBW3 HBR3 hwl hrl hgl
    go_wp2_with fail
    have hN := Blk.new w4 #[.int .i64 1, .int .i64 0] 3
    have hRN : RowV _ w4.heap.size 2 (iv [1, 0]) := RowV.of_blk _ _ hN (fun j hj => by
      obtain rfl | rfl : j = 0 ∨ j = 1 := by omega
      · rfl
      · rfl)
    have hK := (Kept.refl [] w4).alloc (.cells #[.int .i64 1, .int .i64 0] 3)
    refine (ints_same g w4.heap.size 2 2 2 [1, 0] (by omega) _ (HR4.out.kept hK (by simp)) hRN).mono ?_
    rintro e w5 ⟨rfl, hb5⟩
    have hk5 := hK.trans (Kept.of_below hb5 []) (by simp)
    have HB5 := Lib.hid (HB4.out.next (hk5.below (Nat.le_refl _) (by simp)))
    have HBW5 := Lib.hid (HBW4.out.kept hk5 (by simp))
    have HBR5 := Lib.hid (HBR4.out.kept hk5 (by simp))
    have HS5 := Lib.hid (HS4.out.kept hk5 (by simp))
    have hs5 := hk5.size
    clear hN hRN hK hb5 hk5 HB4 HR4 HBW4 HBR4 HS4
    obtain ⟨r0, r1, r2, r3, r4, r5, r6, r7, r8, r9, r10⟩ := evAt_blk HBR5.out
    obtain ⟨v0, v1, v2, v3, v4, v5, v6, v7, v8, v9, v10⟩ := evAt_blk HBW5.out
    go_wp2_with fail
    have hE6 := es_two (Blk.new w5 (evV (evR 3) ++ evV evW) 34)
    have hK := (Kept.refl [] w5).alloc (.cells (evV (evR 3) ++ evV evW) 34)
    have HC := Lib.hid (check_is _ _ 0 2 2 (ok_two 3) (by omega) (by omega) good3 _ hE6)
    refine HC.out.mono ?_
    clear r0 r1 r2 r3 r4 r5 r6 r7 r8 r9 r10 v0 v1 v2 v3 v4 v5 v6 v7 v8 v9 v10 HC hE6
    rintro e w6 ⟨M, hM, rfl, hb6⟩
    obtain rfl := hM.eq sorted_r3
    rw [legal_r3]
    have hk6 := hK.trans (Kept.of_below hb6 []) (by simp)
    have HB6 := Lib.hid (HB5.out.next (hk6.below (Nat.le_refl _) (by simp)))
    have HBW6 := Lib.hid (HBW5.out.kept hk6 (by simp))
    have HS6 := Lib.hid (HS5.out.kept hk6 (by simp))
    have hs6 := hk6.size
    clear hK hb6 hk6 HB5 HBW5 HBR5 HS5 hM
    obtain ⟨r0, r1, r2, r3, r4, r5, r6, r7, r8, r9, r10⟩ := evAt_blk HS6.out
    obtain ⟨v0, v1, v2, v3, v4, v5, v6, v7, v8, v9, v10⟩ := evAt_blk HBW6.out
    simp only [if_true]
    go_wp2_with fail
    have hE7 := es_two (Blk.new w6 (evV (evR 0) ++ evV evW) 34)
    have hK := (Kept.refl [] w6).alloc (.cells (evV (evR 0) ++ evV evW) 34)
    have HC := Lib.hid (check_is _ _ 0 2 2 (ok_two 0) (by omega) (by omega) good0 _ hE7)
    refine HC.out.mono ?_
    clear r0 r1 r2 r3 r4 r5 r6 r7 r8 r9 r10 v0 v1 v2 v3 v4 v5 v6 v7 v8 v9 v10 HC hE7
    rintro e w7 ⟨M, hM, rfl, hb7⟩
    obtain rfl := hM.eq sorted_r0
    rw [legal_r0]
    have hk7 := hK.trans (Kept.of_below hb7 []) (by simp)
    have HB7 := Lib.hid (HB6.out.next (hk7.below (Nat.le_refl _) (by simp)))
    have HBW7 := Lib.hid (HBW6.out.kept hk7 (by simp))
    have hs7 := hk7.size
    clear hK hb7 hk7 HB6 HBW6 HS6 hM
    obtain ⟨v0, v1, v2, v3, v4, v5, v6, v7, v8, v9, v10⟩ := evAt_blk HBW7.out
    simp only [Bool.false_eq_true, if_false]
    go_wp2_with fail
    refine (legal_none _ _ _ _).mono ?_
    rintro e w8 ⟨rfl, hb8⟩
    have HB8 := Lib.hid (Grow.next (Grow.alloc HB7.out _) hb8)
    clear hb8 HB7 HBW7 v0 v1 v2 v3 v4 v5 v6 v7 v8 v9 v10
    go_wp2_with fail
    go_ret
    exact ⟨rfl, HB8.out⟩
  · exact absurd (.inr (by decide)) (hok 0 (by omega))
end Go.Proofs.Ytpefcmmfocamdaa
