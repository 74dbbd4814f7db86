/- The walk of PickShares. -/
import Derived.Test.YtapokcjfhgbagaaPick8
namespace Go.Proofs.Ytapokcjfhgbagaa
open Go.ChangeShapes Go.WideShapes Go.ChangeAt Go.RowKit
set_option linter.unusedVariables false

set_option maxRecDepth 100000 in
set_option maxHeartbeats 4000000 in
theorem shares_all (pk pn : Option Addr) (kc nc k n : Nat) (K N : List ByteArray) (hkn : k = K.length) (hn : n = N.length) (hkc : k ≤ kc) (hkm : kc ≤ maxLen) (hnc : n ≤ nc) (hnm : nc ≤ maxLen) (hfk : Fit K) (hfn : Fit N) (W : World) (hk : 0 < k → RS W pk kc K) (hs : 0 < n → RS W pn nc N) :
    Calls Try.prog 5 #[.slice pk k kc, .slice pn n nc] W (TruePost W) := by
  have HFN := Lib.hid (few_is pn nc N hfn (by omega) hnm W (by rw [← hn]; exact hs))
  have HFK := Lib.hid (few_is pk kc K hfk (by omega) hkm W (by rw [← hkn]; exact hk))
  rw [← hn] at HFN
  rw [← hkn] at HFK
  unfold maxLen at hkm hnm
  cases h1 : fewB N with
  | false =>
    rw [h1] at HFN
    clear hk hs hfk hfn hkn hn HFK
    go_enter Try.func5, Try.ntmps5
    go_wp2_with fail
    refine HFN.out.mono ?_
    rintro e w1 ⟨rfl, rfl⟩
    go_wp2_with fail
    refine (awake_true _).mono ?_
    rintro e w1 ⟨rfl, hb1⟩
    go_wp2_with fail
    go_ret
    exact ⟨rfl, hb1⟩
  | true =>
    cases h2 : fewB K with
    | false =>
      rw [h1] at HFN
      rw [h2] at HFK
      clear hk hs hfk hfn hkn hn
      go_enter Try.func5, Try.ntmps5
      go_wp2_with fail
      refine HFN.out.mono ?_
      rintro e w1 ⟨rfl, rfl⟩
      go_wp2_with fail
      refine HFK.out.mono ?_
      rintro e w1 ⟨rfl, rfl⟩
      go_wp2_with fail
      refine (awake_true _).mono ?_
      rintro e w1 ⟨rfl, hb1⟩
      go_wp2_with fail
      go_ret
      exact ⟨rfl, hb1⟩
    | true =>
      have l1 := (fewB_fit h1).1
      have l2 := (fewB_fit h2).1
      rw [h1] at HFN
      rw [h2] at HFK
      by_cases h0 : n = 0
      · have HSZ := Lib.hid (share_none pk pn kc nc K l2 (by omega) W (by rw [← hkn]; exact hk))
        rw [← hkn] at HSZ
        subst h0
        clear hk hs hfk hfn hkn hn h1 h2 l1 l2
        go_enter Try.func5, Try.ntmps5
        go_wp2_with fail
        refine HFN.out.mono ?_
        rintro e w1 ⟨rfl, rfl⟩
        go_wp2_with fail
        refine HFK.out.mono ?_
        rintro e w1 ⟨rfl, rfl⟩
        go_wp2_with fail
        refine HSZ.out.mono ?_
        rintro e w2 ⟨g, rfl, hb2⟩
        have HB2 := Lib.hid hb2
        clear hb2 HSZ HFK HFN
        go_wp2_with fail
        go_loopw [6] (fun iv wr => iv = .int .i64 0 ∧ Below W.heap.size W wr) (fun _ _ => 0)
        case atStart => exact ⟨rfl, by first | exact HB2.out | assumption⟩
        case round =>
          obtain ⟨rfl, hb⟩ := hrel
          have HB3 := Lib.hid hb
          clear hb
          go_wp2_with fail
          refine (awake_true _).mono ?_
          rintro e w5 ⟨rfl, hb5⟩
          go_wp2_with fail
          go_ret
          exact ⟨rfl, HB3.out.trans (hb5.mono HB3.out.size)⟩
      · have hsW := hs (by omega)
        have HSH := Lib.hid (share_is pk pn kc nc K N hfk hfn l2 l1 (by omega) (by omega) W (by rw [← hkn]; exact hk) hsW)
        have HOF := Lib.hid (fun i w hs => of_is (gi K i) pn nc N (hfk i) hfn (by omega) (by omega) w hs)
        unfold SharePost at HSH
        rw [← hkn, ← hn] at HSH
        rw [← hn] at HOF
        have HK := Lib.hid hk
        have HS := Lib.hid hsW
        have HKN := Lib.hid hkn
        have HN := Lib.hid hn
        rw [← hkn] at l2
        rw [← hn] at l1
        clear hk hs hfk hfn hkn hn h1 h2 hsW
        go_enter Try.func5, Try.ntmps5
        go_wp2_with fail
        refine HFN.out.mono ?_
        rintro e w1 ⟨rfl, rfl⟩
        go_wp2_with fail
        refine HFK.out.mono ?_
        rintro e w1 ⟨rfl, rfl⟩
        go_wp2_with fail
        refine HSH.out.mono ?_
        rintro e w2 ⟨g, rfl, hrow, hgb, hb2⟩
        have HB2 := Lib.hid hb2
        have HR2 := Lib.hid hrow
        have hgl := hrow.1
        clear hb2 hrow HSH HFK HFN
        go_wp2_with fail
        go_loopg [6] n (fun gh iv wr => ∃ (i : Nat), iv = .int .i64 (i : Int) ∧ gh + i = n ∧ Below w2.heap.size w2 wr)
        case atStart => exact ⟨0, rfl, by omega, Below.refl _ _⟩
        case round =>
          obtain ⟨i, rfl, hgi, hb⟩ := hrel
          have HB := Lib.hid hb
          clear hb
          by_cases hin : i < n
          · go_wp2_with fail
            go_loopw [7, 8] (fun nv kv wr => ∃ (j : Nat), kv = .int .i64 (j : Int) ∧ j ≤ k ∧ nv = .int .i64 (cntTo K N (gi N i) j : Int) ∧ Below w2.heap.size w2 wr) (fun _ kv _ => k - (intOf kv).toNat)
            case atStart => exact ⟨0, rfl, Nat.zero_le _, rfl, HB.out⟩
            case round =>
              clear HB
              obtain ⟨j, rfl, hj, rfl, hb⟩ := hrel
              have HB := Lib.hid hb
              clear hb
              have hcl := cntTo_le K N (gi N i) j
              by_cases hjk : j < k
              · have HKW := Lib.hid (HK.out (by omega))
                obtain ⟨kb, kof, rfl⟩ := HKW.out.src.of_pos (by omega)
                obtain ⟨nb, nof, rfl⟩ := HS.out.src.of_pos (by omega)
                have hbw : Below W.heap.size W wr := HB2.out.trans (HB.out.mono HB2.out.size)
                have ck := (HKW.out.src.below hbw HKW.out.lt).at_ j _ (sl_at K j (by rw [← HKN.out]; exact hjk))
                have HSR := Lib.hid (HS.out.kept (Kept.of_below hbw []) (by simp))
                have HBW := Lib.hid hbw
                have HCI : Hid (∀ w', Below wr.heap.size wr w' → w'.cell? ⟨nb, nof + i, none⟩ = some (.string (gi N i))) := Lib.hid (fun w' hb => (HSR.out.src.below hb HSR.out.lt).at_ i _ (sl_at N i (by rw [← HN.out]; exact hin)))
                have HOJ := Lib.hid (HOF.out j)
                have HCN : Hid (cntTo K N (gi N i) (j + 1) = cntTo K N (gi N i) j + if kmin (gi K j) N = gi N i then 1 else 0) := Lib.hid rfl
                obtain ⟨c1, hc1⟩ : ∃ c1, c1 = cntTo K N (gi N i) (j + 1) := ⟨_, rfl⟩
                have HCE := Lib.hid hc1
                rw [← hc1] at HCN
                clear hc1
                generalize cntTo K N (gi N i) j = c0 at hcl HCN ⊢
                obtain ⟨x, hx⟩ : ∃ x, x = gi K j := ⟨_, rfl⟩
                obtain ⟨y, hy⟩ : ∃ y, y = gi N i := ⟨_, rfl⟩
                obtain ⟨z, hz⟩ : ∃ z, z = kmin (gi K j) N := ⟨_, rfl⟩
                rw [← hz] at HOJ HCN
                rw [← hx] at ck HOJ
                rw [← hy] at HCI HCN
                clear hx hy hz hbw
                have q1 : (0 : Int) ≤ (j : Int) := by omega
                have q2 : (j : Int) < (k : Int) := by omega
                have q3 : (0 : Int) ≤ (i : Int) := by omega
                have q4 : (i : Int) < (n : Int) := by omega
                go_wp2_with fail
                refine (HOJ.out _ HSR.out).mono ?_
                rintro e w3 ⟨rfl, hb3⟩
                have HB3 := Lib.hid (HB.out.trans (hb3.mono HB.out.size))
                have cn := HCI.out w3 hb3
                clear hb3 ck HOJ HSR HCI HBW
                by_cases he : z = y
                · subst he
                  have HC1 := Lib.hid (show c1 = c0 + 1 by rw [HCN.out, if_pos rfl])
                  clear HCN
                  go_wp2_with fail
                  go_roundw
                  case rel => exact ⟨j + 1, by go_num, by omega, by rw [← HCE.out, HC1.out]; go_num, HB3.out⟩
                  case measure => simp [intOf]; omega
                · have e2 : (z.toList == y.toList) = false := by rw [tlist_eq, decide_eq_false he]
                  have HC1 := Lib.hid (show c1 = c0 by rw [HCN.out, if_neg he]; rfl)
                  clear HCN
                  go_wp2_with fail
                  go_roundw
                  case rel => exact ⟨j + 1, by go_num, by omega, by rw [← HCE.out, HC1.out], HB3.out⟩
                  case measure => simp [intOf]; omega
              · have hjk2 : j = k := by omega
                subst hjk2
                have cg := (HR2.out.kept (Kept.of_below HB.out []) (by simp)).cell hin
                unfold shareRow at cg
                have q3 : (0 : Int) ≤ (i : Int) := by omega
                have q4 : (i : Int) < (n : Int) := by omega
                generalize cntTo K N (gi N i) j = c0 at *
                have b0 : ((c0 : Int) != (c0 : Int)) = false := by simp
                go_wp2_with fail
                go_roundg (gk - 1)
                case measure => omega
                case rel => exact ⟨i + 1, by go_num, by omega, HB.out⟩
          · have hin2 : i = n := by omega
            subst hin2
            have HBW := Lib.hid (HB2.out.trans (HB.out.mono HB2.out.size))
            go_wp2_with fail
            refine (awake_true _).mono ?_
            rintro e w5 ⟨rfl, hb5⟩
            go_wp2_with fail
            go_ret
            exact ⟨rfl, HBW.out.trans (hb5.mono HBW.out.size)⟩
end Go.Proofs.Ytapokcjfhgbagaa
