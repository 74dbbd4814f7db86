/- lightshipref35.Legal. -/
import Derived.Test.YtpojophpbggkcaaLo18
import Derived.Test.YtpojophpbggkcaaLo12
import Derived.Great.Walk
import Derived.Deep.Cut
import Derived.Deep.LoopGhost
namespace Go.Proofs.Ytpojophpbggkcaa
open Go.ChangeShapes Go.WideShapes Go.ChangeAt Go.RowKit
set_option linter.unusedVariables false

/-- no later one of the first i ended before an earlier one began -/
def RealTo (A : Nat → Nat) (E : Nat → Ev) (i : Nat) : Prop := ∀ k, k < i → ∀ j, j < k → ¬ (E (A k)).fin < (E (A j)).beg
theorem realTo_iff (m : Nat) (A : Nat → Nat) (E : Nat → Ev) : RealP (xsA m A E) ↔ RealTo A E m := by
  unfold RealP xsA uptoF RealTo
  rw [List.pairwise_map]
  constructor
  · intro h k hk j hj
    rw [List.pairwise_iff_getElem] at h
    have := h j k (by simp; omega) (by simp; omega) hj
    simpa using this
  · intro h
    rw [List.pairwise_iff_getElem]
    intro j k h1 h2 hjk
    simp at h1 h2 ⊢
    have := h k h2 j hjk
    omega
set_option maxRecDepth 100000 in
set_option maxHeartbeats 4000000 in
theorem rlegal_is (p po : Option Addr) (bl off n cap g oo m oc : Nat) (O : Nat → Int) (E : Nat → Ev) (hE : ∀ i, ShortE (E i)) (hm : m ≤ 1000) (hn : n ≤ 20) (hp : 0 < n → p = some ⟨bl, off, none⟩) (w : World) (hes : ES w bl off n E) (hr : OI w po g oo m O) :
    Calls Try.prog 10 #[.slice p n cap, .slice po m oc] w (ISays w (LegalP n m E O)) := by
  have HE := Lib.hid (fun w hr => reach_is po g oo m oc n O hm (by omega) w hr)
  have HES := Lib.hid hes
  have HRV := Lib.hid hr
  have HP := Lib.hid hp
  have HSE := Lib.hid hE
  have hgl := hr.lt
  have hbl := hes.lt
  clear hes hr hp hE
  go_enter Try.func10, Try.ntmps10
  go_wp2_with (go_at_call 25; refine (HE.out _ HRV.out).mono ?_; rintro e w2 ⟨re, rfl, hre, hb2⟩)
  · rename_i hre0
    obtain rfl : re = false := by simpa using hre0
    have HB2 := Lib.hid hb2
    have HRE := Lib.hid hre
    clear hb2 hre HE hre0
    have HX : Hid (IsR false (LegalP n m E O)) := Lib.hid (by have h := HRE.out; unfold IsR LegalP at *; simp only [Bool.false_eq_true, false_iff] at h ⊢; exact fun k => h k.1)
    go_ret
    exact ⟨false, rfl, HX.out, HB2.out⟩
  · rename_i hre0 _ _
    obtain rfl : re = true := by simpa using hre0
    have HB2 := Lib.hid hb2
    have HRE := Lib.hid hre
    clear hb2 hre HE hre0
    have HET : Hid (EachP n m O) := Lib.hid (HRE.out.1 rfl)
    have HA := Lib.hid (natO_lt HET.out.2)
    have HOS : Hid (OS w po g oo m (natO O)) := Lib.hid (HRV.out.os HET.out.2)
    have HLP : Hid (LegalP n m E O ↔ RealTo (natO O) E m ∧ (foldM (xsA m (natO O) E)).isSome = true) := Lib.hid (by unfold LegalP; rw [realTo_iff]; exact ⟨fun h => h.2, fun h => ⟨HET.out, h⟩⟩)
    generalize natO O = A at *
    clear HRV HRE
    go_loopw [5] (fun iv wr => ∃ i : Nat, iv = .int .i64 (i : Int) ∧ i ≤ m ∧ RealTo A E i ∧ Below w.heap.size w wr) (fun iv _ => m - (intOf iv).toNat)
    case atStart => exact ⟨0, rfl, by omega, fun k hk => by omega, HB2.out⟩
    case round =>
      clear HB2
      obtain ⟨i, rfl, hi, hre, hb⟩ := hrel
      have HB := Lib.hid hb
      have HRT := Lib.hid hre
      clear hb hre
      by_cases hin : i < m
      · go_wp2
        obtain ⟨wo, hwo⟩ : ∃ wo, wo = wr := ⟨_, rfl⟩
        go_loopw [6] (fun jv wr => ∃ j : Nat, jv = .int .i64 (j : Int) ∧ j ≤ i ∧ (∀ t, t < j → ¬ (E (A i)).fin < (E (A t)).beg) ∧ Below w.heap.size w wr) (fun jv _ => i - (intOf jv).toNat)
        case atStart => exact ⟨0, rfl, by omega, fun j hj => by omega, HB.out⟩
        case round =>
          clear HB hwo
          obtain ⟨j, rfl, hji, hne, hb⟩ := hrel
          have HB := Lib.hid hb
          have HNE := Lib.hid hne
          clear hb hne
          by_cases hj2 : j < i
          · obtain rfl := HOS.out.ptr (by omega)
            obtain rfl := HP.out (by have := HA.out i hin; omega)
            have ci := (HOS.out.below HB.out).at_ i hin
            have cj := (HOS.out.below HB.out).at_ j (by omega)
            have hxi := HA.out i hin
            have hxj := HA.out j (by omega)
            have fi : wr.cell? ⟨bl, off + A i * 11 + 10, none⟩ = some (.int .i64 (E (A i)).fin) := (HES.out.below HB.out).at_ (A i) hxi 10 (by omega)
            have bj : wr.cell? ⟨bl, off + A j * 11 + 9, none⟩ = some (.int .i64 (E (A j)).beg) := (HES.out.below HB.out).at_ (A j) hxj 9 (by omega)
            have q1 : (0 : Int) ≤ (i : Int) := by omega
            have q2 : (i : Int) < (m : Int) := by omega
            have q3 : (0 : Int) ≤ (j : Int) := by omega
            have q4 : (j : Int) < (m : Int) := by omega
            have q5 : (0 : Int) ≤ (A i : Int) := by omega
            have q6 : (A i : Int) < (n : Int) := by omega
            have q7 : (0 : Int) ≤ (A j : Int) := by omega
            have q8 : (A j : Int) < (n : Int) := by omega
            by_cases hlt : (E (A i)).fin < (E (A j)).beg
            · have HX : Hid (IsR false (LegalP n m E O)) := Lib.hid (by
                unfold IsR
                rw [HLP.out]
                simp only [Bool.false_eq_true, false_iff]
                exact fun h => h.1 i hin j hj2 hlt)
              have d3 : decide ((E (A i)).fin < (E (A j)).beg) = true := by simpa using hlt
              generalize (E (A i)).fin = x at *
              generalize (E (A j)).beg = y at *
              go_wp2
              go_quiet (fail)
              go_wp2
              go_ret
              exact ⟨false, rfl, HX.out, bdrewN HB.out _⟩
            · have HN2 : Hid (∀ t, t < j + 1 → ¬ (E (A i)).fin < (E (A t)).beg) := Lib.hid (fun t ht => by
                by_cases e : t = j
                · subst e; exact hlt
                · exact HNE.out t (by omega))
              have d3 : decide ((E (A i)).fin < (E (A j)).beg) = false := by simpa using hlt
              clear hlt
              go_wp2
              go_quiet (fail)
              go_wp2
              go_roundw
              case rel => exact ⟨j + 1, by go_num, by omega, HN2.out, bdrewN HB.out _⟩
              case measure => simp [intOf]; omega
          · obtain rfl : j = i := by omega
            have HE2 : Hid (RealTo A E (j + 1)) := Lib.hid (fun k hk t ht => by
              by_cases e : k = j
              · subst e; exact HNE.out t ht
              · exact HRT.out k (by omega) t ht)
            go_wp2
            go_roundw
            case rel => exact ⟨j + 1, by go_num, by omega, HE2.out, HB.out⟩
            case measure => simp [intOf]; omega
      · obtain rfl : i = m := by omega
        obtain ⟨Z, hZr, hZz⟩ := mZ_ex
        have HZS := Lib.hid hZr.size
        have HZZ := Lib.hid hZz
        have HZR := Lib.hid hZr
        clear hZr hZz
        go_upto_region 12 with (first | (refine Go.Great.wpList_allocTo rfl (some 7) rfl (.pointer (some ⟨wr.heap.size, 0, none⟩)) (.cells Z 59) (run_allocN _ (by simp) rfl HZZ.out) ?_))
        have bM : Blk (wr.alloc (.cells Z 59)) wr.heap.size Z 59 := Blk.new wr Z _
        have hBm : Below w.heap.size w (wr.alloc (.cells Z 59)) := HB.out.alloc HB.out.size _
        have hzz : w.heap.size ≤ wr.heap.size := HB.out.size
        clear HB
        generalize World.alloc wr _ = wm at *
        generalize wr.heap.size = z at *
        go_wp2
        go_loopw [8] (fun iv wr => ∃ (k : Nat) (cs : Array Value) (mm : Mq), iv = .int .i64 (k : Int) ∧ k ≤ i ∧ foldM (xsA k A E) = some mm ∧ MRow cs mm ∧ Small mm (200 * k) ∧ Blk wr z cs 59 ∧ Below w.heap.size w wr) (fun iv _ => i - (intOf iv).toNat)
        case atStart => exact ⟨0, Z, mq0, rfl, by omega, rfl, HZR.out, fun a s => Nat.le_refl 0, bM, hBm⟩
        case round =>
          clear bM hBm
          obtain ⟨k, cs, mm, rfl, hki, hfm, hrow, hsm, hbk, hb⟩ := hrel
          have HB := Lib.hid hb
          have HBK := Lib.hid hbk
          have HFM := Lib.hid hfm
          have HSM := Lib.hid hsm
          have HROW := Lib.hid hrow
          have HCS := Lib.hid hrow.size
          clear hb hbk hfm hsm hrow
          by_cases hk2 : k < i
          · obtain rfl := HOS.out.ptr (by omega)
            obtain rfl := HP.out (by have := HA.out k hk2; omega)
            have ck := (HOS.out.below HB.out).at_ k hk2
            have hxk := HA.out k hk2
            obtain ⟨l0, l1, l2, l3, l4, l5, l6, l7, l8, l9, l10⟩ := (HES.out.below HB.out).ev (A k) hxk
            have q3 : (0 : Int) ≤ (k : Int) := by omega
            have q4 : (k : Int) < (i : Int) := by omega
            have q5 : (0 : Int) ≤ (A k : Int) := by omega
            have q6 : (A k : Int) < (n : Int) := by omega
            have hF2 : foldM (xsA (k + 1) A E) = stepM (some mm) (E (A k)) := by unfold xsA; rw [uptoF_succ, foldM_snoc]; have := HFM.out; unfold xsA at this; rw [this]
            have HF2 := Lib.hid hF2
            have HPRE : Hid (foldM (xsA (k + 1) A E) = none → foldM (xsA i A E) = none) := Lib.hid (foldM_pre (uptoF_pre _ _ _ (by omega)))
            have HSE2 := Lib.hid (HSE.out (A k))
            clear hF2
            generalize E (A k) = e at *
            have HDO := Lib.hid (fun w => rdo_is cs mm HROW.out e (by have := HSE2.out.1; omega) (fun a s => by have := HSM.out a s; omega) w)
            have HSM2 : Hid (Small (doM mm e).2 (200 * (k + 1))) := Lib.hid ((doM_small HSM.out HSE2.out).mono (by omega))
            generalize hd : (doM mm e).1 = d at *
            generalize hm2 : (doM mm e).2 = m2 at *
            have HST : Hid (stepM (some mm) e = if d = 0 then some m2 else none) := Lib.hid (by unfold stepM; dsimp only; rw [hd, hm2])
            clear hd hm2
            go_upto_region 16 with (fail)
            clear l0 l1 l2 l3 l4 l5 l6 l7 l8 l9 l10 ck
            have hBa : Below w.heap.size w (wr.alloc (.cells #[.int .i64 e.id, .int .i64 e.side, .int .i64 e.kind, .int .i64 e.stream, .int .i64 e.n, .string e.body, .int .i64 e.an, .string e.ab, .int .i64 e.err, .int .i64 e.beg, .int .i64 e.fin] 40)) := HB.out.alloc HB.out.size _
            have bX : Blk (wr.alloc (.cells #[.int .i64 e.id, .int .i64 e.side, .int .i64 e.kind, .int .i64 e.stream, .int .i64 e.n, .string e.body, .int .i64 e.an, .string e.ab, .int .i64 e.err, .int .i64 e.beg, .int .i64 e.fin] 40)) wr.heap.size #[.int .i64 e.id, .int .i64 e.side, .int .i64 e.kind, .int .i64 e.stream, .int .i64 e.n, .string e.body, .int .i64 e.an, .string e.ab, .int .i64 e.err, .int .i64 e.beg, .int .i64 e.fin] 40 := Blk.new wr _ _
            have bK := HBK.out.alloc (.cells #[.int .i64 e.id, .int .i64 e.side, .int .i64 e.kind, .int .i64 e.stream, .int .i64 e.n, .string e.body, .int .i64 e.an, .string e.ab, .int .i64 e.err, .int .i64 e.beg, .int .i64 e.fin] 40)
            clear HB HBK
            generalize World.alloc wr _ = wa at *
            generalize wr.heap.size = y at *
            have c1 : wa.cell? ⟨y, 1, none⟩ = some (.int .i64 e.side) := bX.cell 1
            have c2 : wa.cell? ⟨y, 2, none⟩ = some (.int .i64 e.kind) := bX.cell 2
            have c3 : wa.cell? ⟨y, 2 + 1, none⟩ = some (.int .i64 e.stream) := bX.cell 3
            have c4 : wa.cell? ⟨y, 2 + 2, none⟩ = some (.int .i64 e.n) := bX.cell 4
            have c5 : wa.cell? ⟨y, 2 + 3, none⟩ = some (.string e.body) := bX.cell 5
            have c6 : wa.cell? ⟨y, 6, none⟩ = some (.int .i64 e.an) := bX.cell 6
            have c7 : wa.cell? ⟨y, 6 + 1, none⟩ = some (.string e.ab) := bX.cell 7
            have c8 : wa.cell? ⟨y, 6 + 2, none⟩ = some (.int .i64 e.err) := bX.cell 8
            have HBA := Lib.hid hBa
            have HBK := Lib.hid bK
            clear bX bK hBa
            go_upto_region 17 with (first | (refine wpList_load_row rfl 59 _ rfl z rfl 59 cs (0, 0) _ (by exact HBK.out) Try.underlying59 rfl (by rw [HCS.out]; kernel_rfl) ?_) | (go_at_call 26; refine (HDO.out _).mono ?_; rintro e w3 ⟨cs2, rfl, hrow2, hb3⟩; have HR3 := Lib.hid hrow2; have HRS := Lib.hid hrow2.size; have HRO := Lib.hid hrow2.one) | (refine Go.Great.wpList_allocTo rfl (some 10) rfl (.pointer (some ⟨w3.heap.size, 0, none⟩)) (.cells Z 59) (run_allocN _ (by simp) rfl HZZ.out) ?_) | (refine wpList_store_rowTo rfl 59 _ _ rfl rfl w3.heap.size cs2 rfl rfl 59 Z (by exact Blk.new _ _ _) (by rw [HRS.out]; kernel_rfl) (by rw [HRS.out]; exact HZS.out) HRO.out ?_))
            have hz3 : z < wa.heap.size := HBK.out.lt
            have hs3 : wa.heap.size ≤ w3.heap.size := hb3.size
            have hzne : z ≠ w3.heap.size := by omega
            have bK3 := HBK.out.below hb3 hz3
            have bZ : Blk ((w3.alloc (.cells Z 59)).setRow w3.heap.size cs2) z cs 59 := (bK3.alloc _).rowO hzne cs2
            have bN : Blk ((w3.alloc (.cells Z 59)).setRow w3.heap.size cs2) w3.heap.size cs2 59 := (Blk.new w3 Z _).row cs2
            have hBf : Below w.heap.size w ((w3.alloc (.cells Z 59)).setRow w3.heap.size cs2) := ((((Kept.of_below HBA.out []).trans (Kept.of_below hb3 []) (by simp)).alloc _).setRow _ (.inr (by have := HBA.out.size; omega)) _).below (Nat.le_refl _) (by simp)
            clear c1 c2 c3 c4 c5 c6 c7 c8 HBA HBK hrow2 hb3 HDO hs3 hz3 bK3
            generalize World.setRow _ _ _ = w5 at *
            generalize w3.heap.size = y3 at *
            have HBZ := Lib.hid bZ
            have HBN := Lib.hid bN
            have HBF := Lib.hid hBf
            clear bZ bN hBf
            by_cases hd0 : d = 0
            · subst hd0
              have HST2 : Hid (foldM (xsA (k + 1) A E) = some m2) := Lib.hid (by rw [HF2.out, HST.out, if_pos rfl])
              clear HF2 HST
              go_wp2_with (first | (refine wpList_load_row rfl 59 _ rfl y3 rfl 59 cs2 (0, 0) _ (by exact HBN.out) Try.underlying59 rfl (by rw [HRS.out]; kernel_rfl) ?_) | (refine wpList_store_rowTo rfl 59 _ _ rfl rfl z cs2 rfl rfl 59 cs (by exact HBZ.out) (by rw [HRS.out]; kernel_rfl) (by rw [HRS.out]; exact HCS.out) HRO.out ?_))
              go_roundw
              case rel => exact ⟨k + 1, cs2, m2, by go_num, by omega, HST2.out, HR3.out, HSM2.out, HBZ.out.row cs2, ((Kept.of_below HBF.out []).setRow _ (.inr hzz) _).below (Nat.le_refl _) (by simp)⟩
              case measure => simp [intOf]; omega
            · have hdb : (d != 0) = true := by simpa using hd0
              have HX : Hid (IsR false (LegalP n i E O)) := Lib.hid (by
                have h1 : foldM (xsA i A E) = none := HPRE.out (by rw [HF2.out, HST.out, if_neg hd0])
                unfold IsR
                rw [HLP.out, h1]
                simp)
              clear hd0 HF2 HST
              go_wp2
              go_ret
              exact ⟨false, rfl, HX.out, HBF.out⟩
          · obtain rfl : k = i := by omega
            have HX : Hid (IsR true (LegalP n k E O)) := Lib.hid (by
              unfold IsR
              rw [HLP.out]
              exact ⟨fun _ => ⟨HRT.out, by rw [HFM.out]; rfl⟩, fun _ => rfl⟩)
            go_wp2
            go_ret
            exact ⟨true, rfl, HX.out, HB.out⟩
end Go.Proofs.Ytpojophpbggkcaa
