/- The walk of PickStays. -/
import Derived.Test.YtapokcjfhgbagaaPick8
namespace Go.Proofs.Ytapokcjfhgbagaa
open Go.ChangeShapes Go.WideShapes Go.ChangeAt Go.RowKit
set_option linter.unusedVariables false

/-- all but one -/
def without (N : List ByteArray) (at_ : Nat) : List ByteArray := N.take at_ ++ N.drop (at_ + 1)
theorem without_sub {N : List ByteArray} {i : Nat} {x : ByteArray} (h : x ∈ without N i) : x ∈ N := by
  unfold without at h
  rcases List.mem_append.1 h with h | h
  · exact List.mem_of_mem_take h
  · exact List.mem_of_mem_drop h
theorem without_len (N : List ByteArray) (i : Nat) (h : i < N.length) : (without N i).length = N.length - 1 := by simp [without]; omega
theorem without_mem {N : List ByteArray} {i : Nat} {x : ByteArray} (hi : i < N.length) (h : x ∈ N) (hne : x ≠ gi N i) : x ∈ without N i := by
  obtain ⟨j, hj, rfl⟩ := List.mem_iff_getElem.1 h
  unfold without
  rw [List.mem_append]
  rcases Nat.lt_trichotomy j i with h1 | h1 | h1
  · exact .inl (List.mem_take_iff_getElem.2 ⟨j, by omega, rfl⟩)
  · subst h1; exact absurd (gi_at N j hj).symm hne
  · exact .inr (List.mem_drop_iff_getElem.2 ⟨j - (i + 1), by omega, by congr 1; omega⟩)
theorem stays {key : ByteArray} {N : List ByteArray} {i : Nat} (hi : i < N.length) (h2 : 2 ≤ N.length) (hne : kmin key N ≠ gi N i) : kmin key N = kmin key (without N i) := by
  have h1 := kmin_is key N (by omega)
  have h3 := kmin_is key (without N i) (by rw [without_len N i hi]; omega)
  exact min_unique (klt_tot key) h1 h3 (without_sub h3.1) (without_mem hi h1.1 hne)
theorem without_fit {N : List ByteArray} (i : Nat) (h : Fit N) : Fit (without N i) := by
  refine Fit.of fun j hj => ?_
  rw [gi_at _ j hj]
  obtain ⟨q, hq, e⟩ := List.mem_iff_getElem.1 (without_sub (List.getElem_mem hj))
  rw [← e, ← gi_at N q hq]; exact h q
set_option maxRecDepth 100000 in
set_option maxHeartbeats 4000000 in
theorem stays_all (pk pn : Option Addr) (kc nc k n gone : Nat) (K N : List ByteArray) (hg : gone ≤ 255) (hkn : k = K.length) (hn : n = N.length) (hkc : k ≤ kc) (hkm : kc ≤ maxLen) (hnc : n ≤ nc) (hnm : nc ≤ maxLen) (hfk : Fit K) (hfn : Fit N) (W : World) (hk : 0 < k → RS W pk kc K) (hs : 0 < n → RS W pn nc N) :
    Calls Try.prog 4 #[.slice pk k kc, .slice pn n nc, .int .u8 (gone : Int)] W (TruePost W) := by
  have HFN := Lib.hid (few_is pn nc N hfn (by omega) hnm W (by rw [← hn]; exact hs))
  have HFK := Lib.hid (few_is pk kc K hfk (by omega) hkm W (by rw [← hkn]; exact hk))
  rw [← hn] at HFN
  rw [← hkn] at HFK
  have hnm2 := hnm
  unfold maxLen at hkm hnm
  cases h1 : fewB N with
  | false =>
    rw [h1] at HFN
    clear hk hs hfk hfn hkn hn HFK
    go_enter Try.func4, Try.ntmps4
    go_wp2_with fail
    refine HFN.out.mono ?_
    rintro e w1 ⟨rfl, rfl⟩
    go_wp2_with fail
    refine (awake_true _).mono ?_
    rintro e w1 ⟨rfl, hb1⟩
    go_wp2_with fail
    go_ret
    exact ⟨rfl, hb1⟩
  | true =>
    cases h2 : fewB K with
    | false =>
      rw [h1] at HFN
      rw [h2] at HFK
      clear hk hs hfk hfn hkn hn
      go_enter Try.func4, Try.ntmps4
      go_wp2_with fail
      refine HFN.out.mono ?_
      rintro e w1 ⟨rfl, rfl⟩
      go_wp2_with fail
      refine HFK.out.mono ?_
      rintro e w1 ⟨rfl, rfl⟩
      go_wp2_with fail
      refine (awake_true _).mono ?_
      rintro e w1 ⟨rfl, hb1⟩
      go_wp2_with fail
      go_ret
      exact ⟨rfl, hb1⟩
    | true =>
      have l1 := (fewB_fit h1).1
      have l2 := (fewB_fit h2).1
      rw [h1] at HFN
      rw [h2] at HFK
      rw [← hkn] at l2
      rw [← hn] at l1
      by_cases h0 : n < 2
      · clear hk hs hfk hfn hkn hn h1 h2
        go_enter Try.func4, Try.ntmps4
        go_wp2_with fail
        refine HFN.out.mono ?_
        rintro e w1 ⟨rfl, rfl⟩
        go_wp2_with fail
        refine HFK.out.mono ?_
        rintro e w1 ⟨rfl, rfl⟩
        go_wp2_with fail
        refine (awake_true _).mono ?_
        rintro e w1 ⟨rfl, hb1⟩
        go_wp2_with fail
        go_ret
        exact ⟨rfl, hb1⟩
      · have hsW := hs (by omega)
        obtain ⟨i0, hi0, hz0, hz1, hz2⟩ := info_parts s_info
        obtain ⟨at_, hat⟩ : ∃ a, a = gone % n := ⟨_, rfl⟩
        have hatn : at_ < n := by rw [hat]; exact Nat.mod_lt _ (by omega)
        have hr0 : IntKind.i64.wrap (gone : Int) = (gone : Int) := IntWalk.i64_in _ (by omega)
        have hr1 : (gone : Int).tmod (n : Int) = (at_ : Int) := by rw [hat]; rfl
        have hr2 : IntKind.i64.wrap (at_ : Int) = (at_ : Int) := IntWalk.i64_in _ (by omega)
        have hr3 : IntKind.i64.wrap ((at_ : Int) + 1) = (at_ : Int) + 1 := IntWalk.i64_in _ (by omega)
        have HAT := Lib.hid hat
        clear hat
        obtain ⟨hhead, _⟩ := hsW.src.cuts 22 (by kernel_rfl) (by intro w; kernel_rfl) at_ (by omega)
        obtain ⟨_, ao, hcut, hsc, hsb⟩ := hsW.src.cuts 22 (by kernel_rfl) (by intro w; kernel_rfl) (at_ + 1) (by omega)
        rw [← hn] at hhead hcut hsc
        have hcut : ∀ w2, (Instr.slice 22 (.slice pn n nc) (some (.int .i64 ((at_ : Int) + 1))) none none).run Try.prog w2 = .ok (.slice ao (n - (at_ + 1)) (nc - (at_ + 1))) w2 := hcut
        have HSH := Lib.hid (hsW.src.head at_ (by omega))
        have HSC := Lib.hid hsc
        have HOF := Lib.hid (fun i w hs => of_is (gi K i) pn nc N (hfk i) hfn (by omega) (by omega) w hs)
        have HOL := Lib.hid (fun i p c w hs => of_is (gi K i) p c (without N at_) (hfk i) (without_fit at_ hfn) (by rw [without_len N at_ (by omega)]; omega) (by rw [without_len N at_ (by omega)]; omega) w hs)
        have hwl : (without N at_).length = n - 1 := by rw [without_len N at_ (by omega), hn]
        rw [← hn] at HOF
        rw [hwl] at HOL
        have HK := Lib.hid hk
        have HS := Lib.hid hsW
        have HKN := Lib.hid hkn
        have HN := Lib.hid hn
        clear hk hs hfk hfn hkn hn h1 h2 hsW hsc hsb
        go_enter Try.func4, Try.ntmps4
        go_wp2_with fail
        refine HFN.out.mono ?_
        rintro e w1 ⟨rfl, rfl⟩
        go_wp2_with fail
        refine HFK.out.mono ?_
        rintro e w1 ⟨rfl, rfl⟩
        clear HFK HFN
        obtain ⟨nb, nof, rfl⟩ := HS.out.src.of_pos (by omega)
        go_wp2_with (at_builtin; refine wpList_append_src _ rfl (.tmp 33) (.tmp 36) 22 rfl W.heap.size 9 i0 (.string ⟨#[]⟩) 1 16 Try.underlying22 hi0 hz0 hz1 hz2 rfl (by decide) _ 0 [] rfl (World.ownsRow_nil _ _ _ _) _ at_ nc rfl _ HSH.out (fun u hu => sl_one _ _ (List.mem_of_mem_take hu)) (by unfold maxLen; omega) (by omega) (Nat.le_refl _) ?_)
        intro v1 w1 hown1 hg1 hat1
        have hk1 : Kept [] W w1 := (Kept.refl [] _).grown hg1 (fun x hx => by simp [Value.ownBlock] at hx)
        have hs1 : W.heap.size ≤ w1.heap.size := hk1.size
        have hr1 : ∀ x ∈ rowOf v1, W.heap.size ≤ x := fun x hx => by
          rcases rowOf_new hat1 x hx with h | h
          · simp [rowOf, Value.ownBlock] at h
          · exact h
        have HO1 := Lib.hid hown1
        have HR1 := Lib.hid hr1
        have HK1 := Lib.hid hk1
        have HSC1 := Lib.hid (HSC.out.kept hk1 (by simp))
        clear hown1 hg1 hat1 hk1 hr1 hhead
        go_wp2_with (at_builtin; refine wpList_append_src _ rfl (.tmp 38) (.tmp 42) 22 rfl W.heap.size 9 i0 (.string ⟨#[]⟩) 1 16 Try.underlying22 hi0 hz0 hz1 hz2 rfl (by decide) _ _ _ rfl HO1.out _ (n - (at_ + 1)) (nc - (at_ + 1)) rfl _ HSC1.out (fun u hu => sl_one _ _ (List.mem_of_mem_drop hu)) (by unfold maxLen; omega) (by omega) (by omega) ?_)
        intro v3 w3 hown3 hg3 hat3
        have hk3 : Kept [] W w3 := HK1.out.grown hg3 (fun x hx => .inr (HR1.out x (mem_rowOf hx)))
        have hown4 : w3.ownsRow W.heap.size 9 1 v3 (without N at_).length (sl (without N at_)) := by
          unfold without
          rw [sl_app, sl_take, sl_drop, List.length_append, List.length_take, List.length_drop, ← HN.out, Nat.min_eq_left (by omega)]
          simpa using hown3
        obtain ⟨lp, lc, rfl, hrs⟩ := RS.of_own hown4
        rw [hwl]
        have HL3 := Lib.hid hrs
        have HB3 := Lib.hid (hk3.below (Nat.le_refl _) (by simp))
        clear hown3 hg3 hat3 hcut hk3 hown4 hrs HO1 HR1 HK1 HSC1 HSH HSC
        go_wp2_with fail
        go_loopw [9] (fun iv wr => ∃ (i : Nat), iv = .int .i64 (i : Int) ∧ i ≤ k ∧ Below w3.heap.size w3 wr) (fun iv _ => k - (intOf iv).toNat)
        case atStart => exact ⟨0, rfl, Nat.zero_le _, Below.refl _ _⟩
        case round =>
          obtain ⟨i, rfl, hik, hb⟩ := hrel
          have HB := Lib.hid hb
          clear hb
          by_cases hi : i < k
          · have HKW := Lib.hid (HK.out (by omega))
            obtain ⟨kb, kof, rfl⟩ := HKW.out.src.of_pos (by omega)
            have hbw : Below W.heap.size W wr := HB3.out.trans (HB.out.mono HB3.out.size)
            have CK : Hid (∀ w', Below W.heap.size W w' → w'.cell? ⟨kb, kof + i, none⟩ = some (.string (gi K i))) := Lib.hid (fun w' hb => (HKW.out.src.below hb HKW.out.lt).at_ i _ (sl_at K i (by rw [← HKN.out]; exact hi)))
            have CN : Hid (∀ w', Below W.heap.size W w' → w'.cell? ⟨nb, nof + at_, none⟩ = some (.string (gi N at_))) := Lib.hid (fun w' hb => (HS.out.src.below hb HS.out.lt).at_ at_ _ (sl_at N at_ (by rw [← HN.out]; exact hatn)))
            have HSR := Lib.hid (HS.out.kept (Kept.of_below hbw []) (by simp))
            have HLR := Lib.hid (HL3.out.below HB.out)
            have HBW := Lib.hid hbw
            have HO1 := Lib.hid (HOF.out i)
            have HO2 := Lib.hid (HOL.out i)
            have HST := Lib.hid (fun h => stays (key := gi K i) (N := N) (i := at_) (by rw [← HN.out]; exact hatn) (by rw [← HN.out]; omega) h)
            have ck := CK.out wr hbw
            generalize kmin (gi K i) (without N at_) = b at *
            generalize kmin (gi K i) N = a at *
            generalize gi K i = x at *
            generalize gi N at_ = y at *
            clear hbw
            have q1 : (0 : Int) ≤ (i : Int) := by omega
            have q2 : (i : Int) < (k : Int) := by omega
            have q3 : (0 : Int) ≤ (at_ : Int) := by omega
            have q4 : (at_ : Int) < (n : Int) := by omega
            go_wp2_with fail
            refine (HO1.out _ HSR.out).mono ?_
            rintro e w4 ⟨rfl, hb4⟩
            have HB4 := Lib.hid (HB.out.trans (hb4.mono HB.out.size))
            have HBW4 := Lib.hid (HBW.out.trans (hb4.mono HBW.out.size))
            have HLR4 := Lib.hid (HLR.out.below hb4)
            have ck4 := CK.out w4 HBW4.out
            clear hb4 ck HO1 HSR HLR HBW HB
            go_wp2_with fail
            refine (HO2.out _ _ _ HLR4.out).mono ?_
            rintro e w5 ⟨rfl, hb5⟩
            have HB5 := Lib.hid (HB4.out.trans (hb5.mono HB4.out.size))
            have cn := CN.out w5 (HBW4.out.trans (hb5.mono HBW4.out.size))
            clear hb5 ck4 HO2 HLR4 HBW4 HB4 CK CN
            by_cases he : a = y
            · subst he
              go_wp2_with fail
              go_roundw
              case rel => exact ⟨i + 1, by go_num, by omega, HB5.out⟩
              case measure => simp [intOf]; omega
            · obtain rfl := HST.out he
              have e2 : (a.toList == y.toList) = false := by rw [tlist_eq, decide_eq_false he]
              go_wp2_with fail
              go_roundw
              case rel => exact ⟨i + 1, by go_num, by omega, HB5.out⟩
              case measure => simp [intOf]; omega
          · have HBW := Lib.hid (HB3.out.trans (HB.out.mono HB3.out.size))
            go_wp2_with fail
            refine (awake_true _).mono ?_
            rintro e w5 ⟨rfl, hb5⟩
            go_wp2_with fail
            go_ret
            exact ⟨rfl, HBW.out.trans (hb5.mono HBW.out.size)⟩
end Go.Proofs.Ytapokcjfhgbagaa
