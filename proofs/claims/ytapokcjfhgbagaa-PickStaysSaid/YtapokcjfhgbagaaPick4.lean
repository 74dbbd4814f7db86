/- slices.SortStableFunc, slices.Clone, pick.Order, pick.Of. -/
import Derived.Test.YtapokcjfhgbagaaPick3
namespace Go.Proofs.Ytapokcjfhgbagaa
open Go.ChangeShapes Go.WideShapes Go.ChangeAt Go.RowKit
set_option linter.unusedVariables false

theorem stable_zero (p : Option Addr) (cap : Nat) (fv : Value) (w : World) :
    Calls Try.prog 23 #[.slice p 0 cap, .int .i64 0, fv] w fun e w' => e = .returned (.tuple #[]) ∧ w' = w := by
  go_enter Try.func23, Try.ntmps23
  go_wp2_with fail
  go_loopw [7, 8] (fun av bv wr => av = .int .i64 0 ∧ bv = .int .i64 20 ∧ wr = w) (fun _ _ _ => 0)
  case atStart => exact ⟨rfl, rfl, rfl⟩
  case round =>
    obtain ⟨rfl, rfl, rfl⟩ := hrel
    go_wp2_with fail
    refine (ins_none p 0 cap fv 0 0 (by omega) (by omega) _).mono ?_
    rintro e w2 ⟨rfl, rfl⟩
    go_wp2_with fail
    go_loopw [6] (fun av wr => av = .int .i64 20 ∧ wr = w2) (fun _ _ => 0)
    case atStart => exact ⟨rfl, rfl⟩
    case round =>
      obtain ⟨rfl, rfl⟩ := hrel
      go_wp2_with fail
      try rw [Exit.noGoto_ret]
      go_returns
      exact ⟨rfl, rfl⟩
set_option maxRecDepth 100000 in
set_option maxHeartbeats 2000000 in
theorem stable_is (key : ByteArray) (kb g n cap : Nat) (L : List ByteArray) (h1 : key.size ≤ maxLen) (hf : Fit L) (hn : n = L.length) (hn1 : 1 ≤ n) (hn2 : n ≤ 20) (hnc : n ≤ cap) (hcm : cap ≤ maxLen) (hgk : kb ≠ g) (w : World) (hk : Blk w kb #[.string key] 9) (hr : RowV w g n (sv L)) :
    Calls Try.prog 23 #[.slice (some ⟨g, 0, none⟩) n cap, .int .i64 (n : Int), .func (.func 19) #[] #[.pointer (some ⟨kb, 0, none⟩)]] w (SortPost w g n key L) := by
  have HI := Lib.hid (ins_sort key kb g n cap L h1 hf hn hn1 hn2 hnc hcm hgk w hk hr)
  clear hk hr hf hn hcm
  by_cases h20 : n = 20
  · subst h20
    show Calls Try.prog 23 #[.slice (some ⟨g, 0, none⟩) 20 cap, .int .i64 20, .func (.func 19) #[] #[.pointer (some ⟨kb, 0, none⟩)]] w (SortPost w g 20 key L)
    go_enter Try.func23, Try.ntmps23
    go_wp2_with fail
    go_loopw [7, 8] (fun av bv wr => ∃ f : Nat, av = .int .i64 (20 * (f : Int)) ∧ bv = .int .i64 (20 * (f : Int) + 20) ∧ f ≤ 1 ∧ (f = 0 → wr = w) ∧ (f = 1 → SortPost w g 20 key L (.returned (.tuple #[])) wr)) (fun _ bv _ => 100 - (intOf bv).toNat)
    case atStart => exact ⟨0, rfl, rfl, by omega, fun _ => rfl, fun h => by omega⟩
    case round =>
      obtain ⟨f, rfl, rfl, hf1, hf2, hf3⟩ := hrel
      obtain rfl | rfl : f = 0 ∨ f = 1 := by omega
      · obtain rfl := hf2 rfl
        clear hf2 hf3
        go_wp2_with fail
        refine HI.out.mono ?_
        rintro e w2 ⟨rfl, hs⟩
        have HS := Lib.hid hs
        clear hs HI
        go_wp2_with fail
        go_roundw
        case rel => exact ⟨1, by simp, by simp, by omega, fun h => by omega, fun _ => ⟨rfl, HS.out⟩⟩
        case measure => simp [intOf]
      · have HS := Lib.hid (hf3 rfl)
        clear hf2 hf3 HI
        go_wp2_with fail
        refine (ins_none (some ⟨g, 0, none⟩) 20 cap _ 20 20 (by omega) (by omega) _).mono ?_
        rintro e w2 ⟨rfl, rfl⟩
        go_wp2_with fail
        obtain ⟨w3, hw3⟩ : ∃ w3, w3 = w2 := ⟨_, rfl⟩
        rw [← hw3] at HS
        go_loopw [6] (fun av wr => av = .int .i64 20 ∧ wr = w3) (fun _ _ => 0)
        case atStart => exact ⟨rfl, hw3.symm⟩
        case round =>
          obtain ⟨rfl, rfl⟩ := hrel
          go_wp2_with fail
          try rw [Exit.noGoto_ret]
          go_returns
          subst hw3
          exact HS.out
  · go_enter Try.func23, Try.ntmps23
    go_wp2_with fail
    go_loopw [7, 8] (fun av bv wr => av = .int .i64 0 ∧ bv = .int .i64 20 ∧ wr = w) (fun _ _ _ => 0)
    case atStart => exact ⟨rfl, rfl, rfl⟩
    case round =>
      obtain ⟨rfl, rfl, rfl⟩ := hrel
      go_wp2_with fail
      refine HI.out.mono ?_
      rintro e w2 ⟨rfl, hs⟩
      have HS := Lib.hid hs
      clear hs HI
      go_wp2_with fail
      obtain ⟨w3, hw3⟩ : ∃ w3, w3 = w2 := ⟨_, rfl⟩
      rw [← hw3] at HS
      go_loopw [6] (fun av wr => av = .int .i64 20 ∧ wr = w3) (fun _ _ => 0)
      case atStart => exact ⟨rfl, hw3.symm⟩
      case round =>
        obtain ⟨rfl, rfl⟩ := hrel
        go_wp2_with fail
        try rw [Exit.noGoto_ret]
        go_returns
        subst hw3
        exact ⟨rfl, HS.out⟩
theorem sort_zero (p : Option Addr) (cap : Nat) (fv : Value) (w : World) :
    Calls Try.prog 17 #[.slice p 0 cap, fv] w fun e w' => e = .returned (.tuple #[]) ∧ w' = w := by
  go_enter Try.func17, Try.ntmps17
  go_wp2_with (go_at_call 23; refine (stable_zero _ _ _ _).mono ?_; rintro e w2 ⟨rfl, rfl⟩)
  try rw [Exit.noGoto_ret]
  go_returns
  exact ⟨rfl, rfl⟩
theorem sort_is (key : ByteArray) (kb g n cap : Nat) (L : List ByteArray) (h1 : key.size ≤ maxLen) (hf : Fit L) (hn : n = L.length) (hn1 : 1 ≤ n) (hn2 : n ≤ 20) (hnc : n ≤ cap) (hcm : cap ≤ maxLen) (hgk : kb ≠ g) (w : World) (hk : Blk w kb #[.string key] 9) (hr : RowV w g n (sv L)) :
    Calls Try.prog 17 #[.slice (some ⟨g, 0, none⟩) n cap, .func (.func 19) #[] #[.pointer (some ⟨kb, 0, none⟩)]] w (SortPost w g n key L) := by
  have HI := Lib.hid (stable_is key kb g n cap L h1 hf hn hn1 hn2 hnc hcm hgk w hk hr)
  clear hk hr hf hn hcm
  go_enter Try.func17, Try.ntmps17
  go_wp2_with fail
  refine HI.out.mono ?_
  rintro e w2 ⟨rfl, hs⟩
  have HS := Lib.hid hs
  clear hs HI
  go_wp2_with fail
  try rw [Exit.noGoto_ret]
  go_returns
  exact ⟨rfl, HS.out⟩
theorem s_info : (Try.prog.info? 9).map (fun i => (i.zero, i.size, i.bytes)) = some (some (.string ⟨#[]⟩), 1, 16) := by kernel_rfl
theorem sl_nil (w : World) : (binOp .eql 22 (.slice none 0 0) (.slice none 0 0)).run Try.prog w = .ok (.bool true) w := by kernel_rfl
theorem sl_non (a : Addr) (n c : Nat) (w : World) : (binOp .eql 22 (.slice (some a) n c) (.slice none 0 0)).run Try.prog w = .ok (.bool false) w := by kernel_rfl
theorem clone_nil (w : World) : Calls Try.prog 16 #[.slice none 0 0] w fun e w' => e = .returned (.slice none 0 0) ∧ w' = w := by
  have e0 := sl_nil
  go_enter Try.func16, Try.ntmps16
  go_wp2_with fail
  go_ret
  exact ⟨rfl, rfl⟩
set_option maxRecDepth 100000 in
set_option maxHeartbeats 1000000 in
theorem clone_is (a : Addr) (cap : Nat) (L : List ByteArray) (w : World) (hs : RS w (some a) cap L) (hL : L.length ≤ 1000) :
    Calls Try.prog 16 #[.slice (some a) L.length cap] w fun e w' => ∃ g c, e = .returned (.slice (some ⟨g, 0, none⟩) L.length c) ∧ w'.ownsRow w.heap.size 9 1 (.slice (some ⟨g, 0, none⟩) L.length c) L.length (sl L) ∧ Below w.heap.size w w' := by
  have e0 := sl_non a L.length cap
  obtain ⟨i0, hi, hz0, hz1, hz2⟩ := info_parts s_info
  have HS := Lib.hid hs
  clear hs
  go_enter Try.func16, Try.ntmps16
  have hown : (w.alloc (.cells #[] 9)).ownsRow w.heap.size 9 1 (.slice (some ⟨w.heap.size, 0, none⟩) 0 0) 0 [] :=
    ⟨rfl, .inr ⟨w.heap.size, 0, #[], rfl, Nat.le_refl _, Blk.new _ _ _, Nat.le_refl _, by unfold maxLen; omega, rfl, rfl⟩⟩
  have hsrc := HS.out.src.kept ((Kept.refl [] w).alloc (.cells #[] 9)) (by simp)
  have HL := Lib.hid (show (sl L).length = L.length from sl_len L)
  obtain ⟨n, hn⟩ : ∃ n, n = L.length := ⟨_, rfl⟩
  rw [← hn] at hsrc hL e0 HL ⊢
  have HO := Lib.hid hown
  have HC := Lib.hid hsrc
  have HN := Lib.hid hn
  clear hown hsrc hn
  go_wp2_with (at_builtin; refine wpList_append_src _ rfl (.tmp 5) (.tmp 6) 22 rfl w.heap.size 9 i0 (.string ⟨#[]⟩) 1 16 Try.underlying22 hi hz0 hz1 hz2 rfl (by decide) _ 0 [] rfl HO.out _ n cap rfl _ HC.out (fun u hu => sl_one _ _ hu) (by unfold maxLen; omega) (by omega) (by simp) ?_)
  intro v1 w1 hown1 hg1 hat1
  have hk1 : Kept [] w w1 := ((Kept.refl [] _).alloc _).grown hg1 (fun x hx => by simp [Value.ownBlock] at hx; omega)
  have HO1 := Lib.hid hown1
  have HB1 := Lib.hid (hk1.below (Nat.le_refl _) (by simp))
  have HA1 := Lib.hid hat1
  clear hown1 hg1 hat1 hk1
  go_wp2_with fail
  go_ret
  rcases HO1.out.2 with ⟨h0, _⟩ | ⟨g, c, cur, hv, _⟩
  · rcases HA1.out with h | h
    all_goals (rw [h0] at h; simp [Value.ownBlock] at h)
  · refine ⟨g, c, by rw [hv]; rfl, ?_, HB1.out⟩
    have := HO1.out
    rw [hv] at this
    exact this
theorem RowV.of_own {w : World} {base : Nat} {e : TypeId} {g n cap : Nat} {L : List ByteArray} (hn : n = L.length) (h : w.ownsRow base e 1 (.slice (some ⟨g, 0, none⟩) n cap) n (sl L)) : RowV w g n (sv L) := by
  obtain ⟨p, c, hv, hs⟩ := Src.of_own h
  injection hv with h1 _ h3
  subst h1 h3
  rcases h.2 with ⟨h0, _⟩ | ⟨g', cap', cur, hv, hb, hg, hnc, hcm, hcs, ht⟩
  · cases h0
  · injection hv with h1 _ h3
    injection h1 with h1; injection h1 with h1
    subst h1 h3
    refine ⟨(Array.getElem?_eq_some_iff.1 hg).1, fun j hj => ⟨?_, ?_⟩⟩
    · have := hs.at_ j _ (sl_at L j (by omega))
      rw [Nat.zero_add] at this
      exact this
    · simp [World.frozen?, hg]
theorem RowV.src {w : World} {g n cap : Nat} {L : List ByteArray} (hn : n = L.length) (hnc : n ≤ cap) (hcm : cap ≤ maxLen) (h : RowV w g n (sv L)) : RS w (some ⟨g, 0, none⟩) cap L := by
  subst hn
  refine ⟨⟨by rw [sl_len]; omega, hnc, hcm, (fun h0 => nomatch h0), (fun a ha => by injection ha with ha; subst ha; rfl), fun a ha j u hu => ?_⟩, fun a ha => by injection ha with ha; subst ha; exact h.1⟩
  injection ha with ha
  subst ha
  have hj : j < L.length := by rw [← sl_len L]; exact (List.getElem?_eq_some_iff.1 hu).1
  rw [sl_at L j hj] at hu
  injection hu with hu
  subst hu
  rw [add_plain, Nat.zero_add]
  exact h.cell hj
set_option maxRecDepth 100000 in
theorem of_none (key : ByteArray) (p : Option Addr) (cap : Nat) (w : World) :
    Calls Try.prog 9 #[.string key, .slice p 0 cap] w fun e w' => e = .returned (.tuple #[.string ⟨#[]⟩, .int .i64 1]) ∧ w' = w := by
  go_enter Try.func9, Try.ntmps9
  go_wp2_with fail
  try rw [Exit.noGoto_ret]
  go_returns
  exact ⟨rfl, rfl⟩
set_option maxRecDepth 100000 in
set_option maxHeartbeats 1000000 in
theorem of_is (key : ByteArray) (p : Option Addr) (cap : Nat) (L : List ByteArray) (h1 : key.size ≤ maxLen) (hf : Fit L) (h0 : 0 < L.length) (hL : L.length ≤ 1000) (w : World) (hs : RS w p cap L) :
    Calls Try.prog 9 #[.string key, .slice p L.length cap] w fun e w' => e = .returned (.tuple #[.string (kmin key L), .int .i64 0]) ∧ Below w.heap.size w w' := by
  have HM := Lib.hid (fun kb w hk hs => minfunc_is key kb p cap L h1 hf h0 w hk hs)
  obtain ⟨n, hn⟩ : ∃ n, n = L.length := ⟨_, rfl⟩
  rw [← hn] at h0 hL HM ⊢
  have HS := Lib.hid hs
  clear hs hf hn
  generalize kmin key L = m at *
  go_enter Try.func9, Try.ntmps9
  go_wp2_with fail
  refine (by_is key _).mono ?_
  rintro e w1 ⟨rfl, hk1, hb1⟩
  have HK1 := Lib.hid hk1
  have HB1 := Lib.hid hb1
  clear hk1 hb1
  go_wp2_with fail
  refine (HM.out _ _ HK1.out (HS.out.below HB1.out)).mono ?_
  rintro e w2 ⟨rfl, hb2⟩
  have HB2 := Lib.hid (HB1.out.trans (hb2.mono HB1.out.size))
  clear hb2
  go_wp2_with fail
  try rw [Exit.noGoto_ret]
  go_returns
  exact ⟨rfl, HB2.out⟩
/-- names in order -/
def OrderPost (W : World) (key : ByteArray) (L : List ByteArray) (e : Ending) (w' : World) : Prop :=
  ∃ p c M, e = .returned (.slice p M.length c) ∧ M.Perm L ∧ Sd (klt key) M ∧ RS w' p c M ∧ Below W.heap.size W w'
theorem RS.nil (w : World) : RS w none 0 [] := ⟨Src.empty w 1, fun a h => nomatch h⟩
set_option maxRecDepth 100000 in
set_option maxHeartbeats 1000000 in
theorem order_is (key : ByteArray) (p : Option Addr) (cap : Nat) (L : List ByteArray) (h1 : key.size ≤ maxLen) (hf : Fit L) (hL : L.length ≤ 20) (w : World) (hs : RS w p cap L) :
    Calls Try.prog 10 #[.string key, .slice p L.length cap] w (OrderPost w key L) := by
  cases p with
  | none =>
    obtain rfl : cap = 0 := hs.src.nil rfl
    have h0 : L.length = 0 := by have := hs.src.fits; omega
    obtain rfl : L = [] := List.eq_nil_of_length_eq_zero h0
    clear hs hL h0
    go_enter Try.func10, Try.ntmps10
    go_wp2_with (first | (go_at_call 16; refine (clone_nil _).mono ?_; rintro e w2 ⟨rfl, rfl⟩) | (go_at_call 15; refine (by_is key _).mono ?_; rintro e w3 ⟨rfl, hk3, hb3⟩) | (go_at_call 17; refine (sort_zero _ _ _ _).mono ?_; rintro e w4 ⟨rfl, rfl⟩))
    go_ret
    exact ⟨none, 0, [], rfl, List.Perm.refl _, List.Pairwise.nil, RS.nil _, hb3⟩
  | some a =>
    have HC := Lib.hid (clone_is a cap L w hs (by omega))
    obtain ⟨n, hn⟩ : ∃ n, n = L.length := ⟨_, rfl⟩
    rw [← hn] at hL HC ⊢
    have HN := Lib.hid hn
    have HF := Lib.hid hf
    clear hs hf hn
    go_enter Try.func10, Try.ntmps10
    go_wp2_with fail
    refine HC.out.mono ?_
    rintro e w1 ⟨g, c, rfl, hown, hb1⟩
    have HO := Lib.hid hown
    have HB1 := Lib.hid hb1
    have hgw := own_lt hown g (by simp [rowOf, Value.ownBlock])
    obtain ⟨hnc, hcm⟩ := own_cap hown
    clear hown hb1 HC
    go_wp2_with fail
    refine (by_is key _).mono ?_
    rintro e w3 ⟨rfl, hk3, hb3⟩
    have hr3 := (RowV.of_own HN.out HO.out).kept (Kept.of_below hb3 []) (by simp)
    have HK3 := Lib.hid hk3
    have HR3 := Lib.hid hr3
    have HB3 := Lib.hid (HB1.out.trans (hb3.mono HB1.out.size))
    have hgk : w1.heap.size ≠ g := by omega
    clear hk3 hr3 hb3
    by_cases h0 : n = 0
    · subst h0
      have e0 : L = [] := List.eq_nil_of_length_eq_zero HN.out.symm
      have HRS := Lib.hid (HR3.out.src HN.out hnc hcm)
      go_wp2_with (go_at_call 17; refine (sort_zero _ _ _ _).mono ?_; rintro e w4 ⟨rfl, rfl⟩)
      go_ret
      subst e0
      exact ⟨_, c, [], rfl, List.Perm.refl _, List.Pairwise.nil, HRS.out, HB3.out⟩
    · have HS := Lib.hid (sort_is key w1.heap.size g n c L h1 HF.out HN.out (by omega) hL hnc hcm hgk w3 HK3.out HR3.out)
      go_wp2_with fail
      refine HS.out.mono ?_
      rintro e w4 ⟨rfl, M, hp, hsd, hr, hkk⟩
      have hm : n = M.length := by rw [hp.length_eq]; exact HN.out
      have HX := Lib.hid (And.intro hp (And.intro hsd (hr.src hm hnc hcm)))
      have HB4 := Lib.hid (HB3.out.trans (hkk.below HB3.out.size (fun x hx => by simp at hx; omega)))
      have HM := Lib.hid hm
      clear hp hsd hr hkk hm HS
      go_wp2_with fail
      go_ret
      exact ⟨some ⟨g, 0, none⟩, c, M, by rw [← HM.out]; rfl, HX.out.1, HX.out.2.1, HX.out.2.2, HB4.out⟩
end Go.Proofs.Ytapokcjfhgbagaa
