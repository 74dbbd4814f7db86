/- The walk of PickOrders. -/
import Derived.Test.YtapokcjfhgbagaaPick8
namespace Go.Proofs.Ytapokcjfhgbagaa
open Go.ChangeShapes Go.WideShapes Go.ChangeAt Go.RowKit
set_option linter.unusedVariables false

theorem first_min {key : ByteArray} {L M : List ByteArray} (hp : M.Perm L) (hs : Sd (klt key) M) (h0 : 0 < M.length) : kmin key L = gi M 0 := by
  refine (kmin_eq ⟨hp.mem_iff.1 ?_, fun x hx => ?_⟩).symm
  · rw [gi_at M 0 h0]; exact List.getElem_mem h0
  · obtain ⟨j, hj, e⟩ := List.mem_iff_getElem.1 (hp.mem_iff.2 hx)
    rw [← e, ← gi_at M j hj]
    by_cases h : j = 0
    · subst h; exact klt_irr key _
    · exact hs.to 0 j (by omega) hj
set_option maxRecDepth 100000 in
set_option maxHeartbeats 4000000 in
theorem orders_all (key : ByteArray) (hkey : key.size ≤ maxLen) (p : Option Addr) (cap n : Nat) (L : List ByteArray) (hn : n = L.length) (hnc : n ≤ cap) (hcm : cap ≤ maxLen) (hp : p = none → cap = 0) (hf : Fit L) (W : World) (hs : 0 < n → RS W p cap L) :
    Calls Try.prog 3 #[.string key, .slice p n cap] W (TruePost W) := by
  have hks := hkey
  unfold maxLen at hks
  have hcm2 := hcm
  unfold maxLen at hcm2
  have HFW := Lib.hid (few_is p cap L hf (by omega) hcm W (by rw [← hn]; exact hs))
  rw [← hn] at HFW
  cases hfe : fewB L with
  | false =>
    rw [hfe] at HFW
    clear hs hf hn
    go_enter Try.func3, Try.ntmps3
    go_wp2_with fail
    refine HFW.out.mono ?_
    rintro e w1 ⟨rfl, rfl⟩
    go_wp2_with fail
    refine (awake_true _).mono ?_
    rintro e w1 ⟨rfl, hb1⟩
    go_wp2_with fail
    go_ret
    exact ⟨rfl, hb1⟩
  | true =>
    have hfit := fewB_fit hfe
    rw [hfe] at HFW
    by_cases hk : 100 < key.size
    · clear hs hf hn hfit
      go_enter Try.func3, Try.ntmps3
      go_wp2_with fail
      refine HFW.out.mono ?_
      rintro e w1 ⟨rfl, rfl⟩
      go_wp2_with fail
      refine (awake_true _).mono ?_
      rintro e w1 ⟨rfl, hb1⟩
      go_wp2_with fail
      go_ret
      exact ⟨rfl, hb1⟩
    · by_cases h0 : n = 0
      · subst h0
        have HOZ := Lib.hid (fun w => order_zero key p cap hp w)
        clear hs hf hn hfit
        go_enter Try.func3, Try.ntmps3
        go_wp2_with fail
        refine HFW.out.mono ?_
        rintro e w1 ⟨rfl, rfl⟩
        go_wp2_with fail
        refine (ref_zero key p cap _).mono ?_
        rintro e w2 ⟨rfl, rfl⟩
        go_wp2_with fail
        refine (of_none key p cap _).mono ?_
        rintro e w3 ⟨rfl, rfl⟩
        go_wp2_with fail
        refine (HOZ.out _).mono ?_
        rintro e w4 ⟨p', c', rfl, hb4⟩
        have HB4 := Lib.hid hb4
        clear hb4
        go_wp2_with fail
        refine (awake_true _).mono ?_
        rintro e w5 ⟨rfl, hb5⟩
        go_wp2_with fail
        go_ret
        exact ⟨rfl, HB4.out.trans (hb5.mono HB4.out.size)⟩
      · have hsW := hs (by omega)
        have HRF := Lib.hid (ref_is key p cap L hkey hf hfit.1 W hsW)
        have HOF := Lib.hid (fun w hs => of_is key p cap L hkey hf (by omega) (by omega) w hs)
        have HOR := Lib.hid (fun w hs => order_is key p cap L hkey hf hfit.1 w hs)
        rw [← hn] at HRF HOF HOR
        have HS := Lib.hid hsW
        have HN := Lib.hid hn
        clear hs hf hfit hsW hn
        go_enter Try.func3, Try.ntmps3
        go_wp2_with fail
        refine HFW.out.mono ?_
        rintro e w1 ⟨rfl, rfl⟩
        go_wp2_with fail
        refine HRF.out.mono ?_
        rintro e w2 ⟨v, M, rfl, hown, hpm, hsd, hb2⟩
        obtain ⟨q, mc, rfl, hrs⟩ := RS.of_own hown
        have hml : n = M.length := by rw [hpm.length_eq]; exact HN.out
        have hmin : kmin key L = gi M 0 := first_min hpm hsd (by omega)
        have HR2 := Lib.hid hrs
        have HX := Lib.hid (And.intro hpm hsd)
        have HB2 := Lib.hid hb2
        rw [hmin] at HOF
        rw [← hml]
        have HML := Lib.hid hml
        have hmcap := hrs.src.fits
        rw [← hml] at hmcap
        have hmbig := hrs.src.big
        unfold maxLen at hmbig
        clear hown hpm hsd hb2 hrs hml hmin
        go_wp2_with fail
        refine (HOF.out _ (HS.out.below HB2.out)).mono ?_
        rintro e w3 ⟨rfl, hb3⟩
        have HB3 := Lib.hid (HB2.out.trans (hb3.mono HB2.out.size))
        have HR3 := Lib.hid (HR2.out.below hb3)
        clear hb3
        go_wp2_with fail
        refine (HOR.out _ (HS.out.below HB3.out)).mono ?_
        rintro e w4 ⟨p4, c4, M4, rfl, hp4, hs4, hr4, hb4⟩
        have HB4 := Lib.hid (HB3.out.trans (hb4.mono HB3.out.size))
        have HR4 := Lib.hid (HR3.out.below hb4)
        obtain rfl : M4 = M := sd_unique (klt_tot key) hs4 HX.out.2 (hp4.trans HX.out.1.symm)
        have HR5 := Lib.hid hr4
        rw [← HML.out]
        have HT := Lib.hid (texts_true p4 q c4 mc n M4 HML.out w4 HR5.out HR4.out)
        clear hp4 hs4 hr4 hb4
        go_wp2_with fail
        refine HT.out.mono ?_
        rintro e w5 ⟨rfl, nq, rfl⟩
        obtain ⟨lb, off, rfl⟩ := HR4.out.src.of_pos (by omega)
        have c0 := (HR4.out.src.kept ((Kept.refl [] w4).drewN nq) (by simp)).at_ 0 _ (sl_at M4 0 (by rw [← HML.out]; omega))
        rw [Nat.add_zero] at c0
        have q2 : (0 : Int) < (n : Int) := by omega
        have HB5 := Lib.hid (bdrewN HB4.out nq)
        clear HT HOF HOR HRF HFW HR2 HR3 HX
        generalize gi M4 0 = x at *
        go_wp2_with fail
        refine (awake_true _).mono ?_
        rintro e w6 ⟨rfl, hb6⟩
        have HB6 := Lib.hid (HB5.out.trans (hb6.mono HB5.out.size))
        go_wp2_with fail
        go_ret
        exact ⟨rfl, HB6.out⟩
end Go.Proofs.Ytapokcjfhgbagaa
