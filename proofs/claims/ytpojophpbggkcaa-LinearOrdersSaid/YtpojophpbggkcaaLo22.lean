/- LinearOrders. -/
import Derived.Test.YtpojophpbggkcaaLo21
namespace Go.Proofs.Ytpojophpbggkcaa
open Go.ChangeShapes Go.WideShapes Go.ChangeAt Go.RowKit
set_option linter.unusedVariables false

set_option maxRecDepth 100000 in
set_option maxHeartbeats 4000000 in
theorem lo_long (p po : Option Addr) (n cap m oc : Nat) (h : 20 < n) (hn : n ≤ maxLen) (w : World) : Calls Try.prog 3 #[.slice p n cap, .slice po m oc] w (TruePost w) := by
  have HN := Lib.hid hn
  clear hn
  go_enter Try.func3, Try.ntmps3
  go_wp2_with fail
  refine (few_long p n cap h HN.out _).mono ?_
  rintro e w1 ⟨rfl, rfl⟩
  go_wp2_with fail
  refine (awake_true _).mono ?_
  rintro e w9 ⟨rfl, hb9⟩
  go_wp2_with fail
  go_ret
  exact ⟨rfl, hb9⟩
theorem ES.congr {w : World} {b off n : Nat} {E E' : Nat → Ev} (h : ES w b off n E) (he : ∀ i, i < n → E i = E' i) : ES w b off n E' :=
  ⟨h.lt, fun i hi j hj => by rw [← he i hi]; exact h.at_ i hi j hj⟩
set_option maxRecDepth 100000 in
set_option maxHeartbeats 8000000 in
theorem lo_few (E : Nat → Ev) (p : Option Addr) (bl off n cap : Nat) (po : Option Addr) (g oo m oc : Nat) (O : Nat → Int) (hn : n ≤ 20) (hm : m ≤ maxLen) (hz : ∀ i, i < n → (E i).body.size ≤ maxLen ∧ (E i).ab.size ≤ maxLen) (hF : FitE E n) (hp : 0 < n → p = some ⟨bl, off, none⟩) (w : World) (hes : ES w bl off n E) (hoi : OI w po g oo m O) :
    Calls Try.prog 3 #[.slice p n cap, .slice po m oc] w (TruePost w) := by
  have HFW := Lib.hid (few_says E p bl off n cap hn hz hp w hes)
  have HES := Lib.hid hes
  have HOI := Lib.hid hoi
  have HF := Lib.hid hF
  have HP := Lib.hid hp
  clear hz hes hoi hF hp
  unfold maxLen at hm
  go_enter Try.func3, Try.ntmps3
  go_wp2_with fail
  refine HFW.out.mono ?_
  rintro e w1 ⟨r, rfl, rfl, hfb⟩
  have HFB := Lib.hid hfb
  clear hfb HFW
  cases r with
  | false =>
    go_wp2_with fail
    refine (awake_true _).mono ?_
    rintro e w9 ⟨rfl, hb9⟩
    go_wp2_with fail
    go_ret
    exact ⟨rfl, hb9⟩
  | true =>
    by_cases h30 : 30 < m
    · go_wp2_with fail
      refine (awake_true _).mono ?_
      rintro e w9 ⟨rfl, hb9⟩
      go_wp2_with fail
      go_ret
      exact ⟨rfl, hb9⟩
    · obtain ⟨E', hE'⟩ : ∃ E' : Nat → Ev, E' = fun i => if i < n then E i else evB := ⟨_, rfl⟩
      have hcg : ∀ i, i < n → E i = E' i := fun i hi => by rw [hE']; simp [hi]
      have HES' : Hid (ES w1 bl off n E') := Lib.hid (HES.out.congr hcg)
      have HSE : Hid (∀ i, ShortE (E' i)) := Lib.hid (fun i => by
        by_cases hi : i < n
        · rw [← hcg i hi]; exact HFB.out rfl i hi
        · rw [hE']
          dsimp only
          rw [if_neg hi]
          exact ⟨by show (0 : Nat) ≤ 200; omega, by show (0 : Nat) ≤ 200; omega⟩)
      have HF' : Hid (FitE E' n) := Lib.hid (fun i hi => by rw [← hcg i hi]; exact HF.out i hi)
      clear hE' hcg HES HF HFB
      have hm2 : m ≤ 1000 := by omega
      have d30 : decide ((30 : Int) < (m : Int)) = false := by rw [decide_eq_false_iff_not]; omega
      go_wp2_with fail
      refine (lorder_says E' p bl off n cap hn HP.out _ HES'.out).mono ?_
      rintro e w2 ⟨d, pa, ga, oa, ca, ma, A, rfl, ha, hpa, hb⟩
      have HB2 := Lib.hid hb
      have HA2 := Lib.hid ha
      have HPA := Lib.hid hpa
      clear hb ha hpa
      go_wp2_with fail
      refine (rorder_says E' p bl off n cap hn HP.out _ (HES'.out.below HB2.out)).mono ?_
      rintro e w3 ⟨d2, pb, gb, ob, cb, mb, B, rfl, hb', hpb, hb⟩
      obtain ⟨rfl, rfl, hAB⟩ := HPA.out.same hpb
      have hma : ma ≤ 1000 := by have := HPA.out.le; omega
      have HAB := Lib.hid hAB
      have HB3 := Lib.hid (Grow.next HB2.out hb)
      have HA3 := Lib.hid (HA2.out.below hb)
      have HBB3 := Lib.hid hb'
      clear hb hb' hpb hAB HA2 HB2
      have dd : (d == d) = true := by simp
      go_wp2_with fail
      refine (ints_oi pa pb ga gb oa ob ma ca cb A B hma HAB.out _ HA3.out HBB3.out).mono ?_
      rintro e w4 ⟨rfl, hb⟩
      have HB4 := Lib.hid (Grow.next HB3.out hb)
      have HA4 := Lib.hid (HA3.out.below hb)
      have HBB4 := Lib.hid (HBB3.out.below hb)
      clear hb HB3 HA3 HBB3
      go_wp2_with fail
      refine (legal_is p po bl off n cap g oo m oc O E' HSE.out HF'.out hm2 hn HP.out _ (HES'.out.below HB4.out) (HOI.out.below HB4.out)).mono ?_
      rintro e w5 ⟨r1, rfl, hr1, hb⟩
      have HR1 := Lib.hid hr1
      have HB5 := Lib.hid (Grow.next HB4.out hb)
      have HA5 := Lib.hid (HA4.out.below hb)
      have HBB5 := Lib.hid (HBB4.out.below hb)
      clear hb HB4 HA4 HBB4 hr1
      go_wp2_with fail
      refine (rlegal_is p po bl off n cap g oo m oc O E' HSE.out hm2 hn HP.out _ (HES'.out.below HB5.out) (HOI.out.below HB5.out)).mono ?_
      rintro e w6 ⟨r2, rfl, hr2, hb⟩
      obtain rfl := HR1.out.same hr2
      have HB6 := Lib.hid (Grow.next HB5.out hb)
      have HA6 := Lib.hid (HA5.out.below hb)
      have HBB6 := Lib.hid (HBB5.out.below hb)
      clear hb HB5 HA5 HBB5 hr2 HR1
      have dr1 : (r1 == r1) = true := by simp
      go_wp2_with fail
      refine (legal_is p pa bl off n cap ga oa ma ca A E' HSE.out HF'.out hma hn HP.out _ (HES'.out.below HB6.out) HA6.out).mono ?_
      rintro e w7 ⟨s1, rfl, hs1, hb⟩
      have HS1 := Lib.hid hs1
      have HB7 := Lib.hid (Grow.next HB6.out hb)
      have HBB7 := Lib.hid (HBB6.out.below hb)
      clear hb HB6 HA6 HBB6 hs1
      go_wp2_with fail
      refine (rlegal_is p pb bl off n cap gb ob ma cb B E' HSE.out hma hn HP.out _ (HES'.out.below HB7.out) HBB7.out).mono ?_
      rintro e w8 ⟨s2, rfl, hs2, hb⟩
      have hs3 : IsR s2 (LegalP n ma E' A) := by unfold IsR at *; rw [legalP_congr HAB.out]; exact hs2
      obtain rfl := HS1.out.same hs3
      have HB8 := Lib.hid (Grow.next HB7.out hb)
      clear hb HB7 HBB7 hs2 hs3 HS1
      have ds1 : (s1 == s1) = true := by simp
      go_wp2_with fail
      refine (lcheck_says E' HSE.out p bl off n cap HF'.out hn HP.out _ (HES'.out.below HB8.out)).mono ?_
      rintro e wc ⟨c1, rfl, hc1, hb⟩
      have HC1 := Lib.hid hc1
      have HBc := Lib.hid (Grow.next HB8.out hb)
      clear hb hc1 HB8
      go_wp2_with fail
      refine (rcheck_says E' HSE.out p bl off n cap hn HP.out _ (HES'.out.below HBc.out)).mono ?_
      rintro e wd ⟨c2, rfl, hc2, hb⟩
      obtain rfl := HC1.out.same hc2
      have HBd := Lib.hid (Grow.next HBc.out hb)
      clear hb hc2 HBc HC1
      have dc1 : (c1 == c1) = true := by simp
      go_wp2_with fail
      refine (awake_true _).mono ?_
      rintro e w9 ⟨rfl, hb9⟩
      have HB9 := Lib.hid (Grow.next HBd.out hb9)
      clear hb9 HBd
      go_wp2_with fail
      go_ret
      exact ⟨rfl, HB9.out⟩
end Go.Proofs.Ytpojophpbggkcaa
