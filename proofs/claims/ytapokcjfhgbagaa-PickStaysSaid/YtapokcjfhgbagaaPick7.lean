/- lightshiplaw55.order; lightshipref05.Texts. -/
import Derived.Test.YtapokcjfhgbagaaPick6
import Derived.Lib.SliceRun
import Derived.Deep.LoopGhost
namespace Go.Proofs.Ytapokcjfhgbagaa
open Go.ChangeShapes Go.WideShapes Go.ChangeAt Go.RowKit
set_option linter.unusedVariables false

theorem sl_take (L : List ByteArray) (k : Nat) : sl (L.take k) = (sl L).take (k * 1) := by simp [sl, List.map_take]
theorem sl_drop (L : List ByteArray) (k : Nat) : sl (L.drop k) = (sl L).drop (k * 1) := by simp [sl, List.map_drop]
theorem src_s (w : World) (n : Nat) (hn : n = w.heap.size) (d : ByteArray) : Src (w.alloc (.cells #[.string d] 9)) (some ⟨n, 0, none⟩) 1 1 1 [.string d] := by
  subst hn
  refine ⟨rfl, Nat.le_refl _, by unfold maxLen; omega, (fun h => nomatch h), (fun a ha => by injection ha with ha; subst ha; rfl), fun a ha j u hu => ?_⟩
  injection ha with ha; subst ha
  rw [add_plain, (Blk.new w _ _).cell]
  match j, hu with
  | 0, hu => exact hu
/-- names in order, owned -/
def RefPost (W : World) (key : ByteArray) (L : List ByteArray) (e : Ending) (w' : World) : Prop :=
  ∃ v M, e = .returned v ∧ w'.ownsRow W.heap.size 9 1 v M.length (sl M) ∧ M.Perm L ∧ Sd (klt key) M ∧ Below W.heap.size W w'
set_option maxRecDepth 100000 in
set_option maxHeartbeats 8000000 in
theorem ref_is (key : ByteArray) (p : Option Addr) (cap : Nat) (L : List ByteArray) (h1 : key.size ≤ maxLen) (hf : Fit L) (hL : L.length ≤ 20) (W : World) (hs : RS W p cap L) :
    Calls Try.prog 8 #[.string key, .slice p L.length cap] W (RefPost W key L) := by
  unfold RefPost
  obtain ⟨i0, hi0, hz0, hz1, hz2⟩ := info_parts s_info
  have hfit := hs.src.fits
  have hbig := hs.src.big
  obtain ⟨n, hn⟩ : ∃ n, n = L.length := ⟨_, rfl⟩
  rw [← hn] at hfit hL ⊢
  have HN := Lib.hid hn
  have HS := Lib.hid hs
  have HF := Lib.hid hf
  clear hs hn hf
  go_enter Try.func8, Try.ntmps8
  go_wp2_with fail
  go_loopg [5, 6] n (fun g mv iv wr => ∃ (i : Nat) (v : Value) (M : List ByteArray), iv = .int .i64 (i : Int) ∧ g + i = n ∧ mv = v ∧ wr.ownsRow W.heap.size 9 1 v M.length (sl M) ∧ M.Perm (L.take i) ∧ Sd (klt key) M ∧ M.length ≤ i ∧ Below W.heap.size W wr)
  case atStart => exact ⟨0, _, [], rfl, by omega, rfl, World.ownsRow_nil _ _ _ _, List.Perm.refl _, List.Pairwise.nil, Nat.le_refl _, Below.refl _ _⟩
  case round =>
    obtain ⟨i, v, M, rfl, hgi, rfl, hown, hpm, hso, hml, hb⟩ := hrel
    have HO := Lib.hid hown
    have HPM := Lib.hid hpm
    have HSO := Lib.hid hso
    have HB := Lib.hid hb
    clear hown hpm hso hb
    obtain ⟨mp, mk, rfl, hms⟩ := Src.of_own HO.out
    obtain ⟨m, hm⟩ : ∃ m, m = M.length := ⟨_, rfl⟩
    rw [← hm] at hms hml ⊢
    have HWS := Lib.hid hms
    have HM := Lib.hid hm
    have hmfit := hms.fits
    clear hms hm
    by_cases hin : i < n
    · obtain ⟨lb, off, rfl⟩ := HS.out.src.of_pos (by omega)
      have hx := HF.out i
      obtain ⟨x, hxe⟩ : ∃ x, x = gi L i := ⟨_, rfl⟩
      rw [← hxe] at hx
      have HX := Lib.hid hxe
      have CI : Hid (∀ w', Below W.heap.size W w' → w'.cell? ⟨lb, off + i, none⟩ = some (.string x)) := Lib.hid (fun w' hb => by rw [HX.out]; exact (HS.out.src.below hb HS.out.lt).at_ i _ (sl_at L i (by rw [← HN.out]; exact hin)))
      clear hxe
      have q1 : (0 : Int) ≤ (i : Int) := by omega
      have q2 : (i : Int) < (n : Int) := by omega
      have HFM : Hid (Fit M) := Lib.hid (Fit.of fun j hj => by
        have h9 := HPM.out.mem_iff.1 (List.getElem_mem hj)
        obtain ⟨q, hq, e⟩ := List.mem_iff_getElem.1 (List.mem_of_mem_take h9)
        rw [gi_at M j hj, ← e, ← gi_at L q hq]; exact HF.out q)
      go_wp2_with fail
      obtain ⟨wo, hwo⟩ : ∃ wo, wo = wr := ⟨_, rfl⟩
      rw [← hwo] at HB HWS HO
      go_loopw [7] (fun kv wr => ∃ k q : Nat, kv = .int .i64 (k : Int) ∧ k ≤ m ∧ (∀ j, j < k → klt key x (gi M j) = false) ∧ wr = wo.drewN q) (fun kv _ => m - (intOf kv).toNat)
      case atStart => exact ⟨0, 0, rfl, Nat.zero_le _, fun j hj => absurd hj (Nat.not_lt_zero _), hwo.symm⟩
      case round =>
        clear hwo
        obtain ⟨k, q, rfl, hkm, hj, rfl⟩ := hrel
        have HJ := Lib.hid hj
        clear hj
        by_cases hk : k < m
        · obtain ⟨wb, wof, rfl⟩ := HWS.out.of_pos (by omega)
          have ck : (wo.drewN q).cell? ⟨wb, wof + k, none⟩ = some (.string (gi M k)) := (HWS.out.kept ((Kept.refl [] wo).drewN q) (by simp)).at_ k _ (sl_at M k (by rw [← HM.out]; exact hk))
          have ci := CI.out _ (bdrewN HB.out q)
          have hy := HFM.out k
          have HA := Lib.hid (fun w => ahead_is key x (gi M k) h1 hx hy w)
          obtain ⟨y, hye⟩ : ∃ y, y = gi M k := ⟨_, rfl⟩
          rw [← hye] at ck HA
          have HY := Lib.hid hye
          clear hye hy
          have d0 : decide ((k : Int) < (m : Int)) = true := by rw [decide_eq_true_iff]; omega
          have q4 : (0 : Int) ≤ (k : Int) := by omega
          have q5 : (k : Int) < (m : Int) := by omega
          cases hl : klt key x y with
          | false =>
            rw [hl] at HA
            have HL := Lib.hid hl
            clear hl
            go_wp2_with fail
            go_region_held3 (fun w' => w'.cell? ⟨wb, wof + k, none⟩ = some (.string y) ∧ w'.cell? ⟨lb, off + i, none⟩ = some (.string x)) (first | exact ⟨ck, ci⟩ | exact ⟨kdrew ck, kdrew ci⟩)              ((go_at_call 13; refine (HA.out _).mono ?_; rintro e w' ⟨rfl, rfl⟩))
            clear ck ci d0 HA
            go_wp2_with fail
            go_roundw
            case rel => exact ⟨k + 1, q + 1, by go_num, by omega, fun j hj => by (rcases Nat.lt_or_ge j k with h | h); exact HJ.out j h; (obtain rfl : j = k := by omega); rw [← HY.out]; exact HL.out, by rfl⟩
            case measure => simp [intOf]; omega
          | true =>
            rw [hl] at HA
            have HL := Lib.hid hl
            clear hl
            go_wp2_with fail
            go_region_held3 (fun w' => w'.cell? ⟨wb, wof + k, none⟩ = some (.string y) ∧ w'.cell? ⟨lb, off + i, none⟩ = some (.string x)) (first | exact ⟨ck, ci⟩ | exact ⟨kdrew ck, kdrew ci⟩)              ((go_at_call 13; refine (HA.out _).mono ?_; rintro e w' ⟨rfl, rfl⟩))
            clear ck ci d0 HA q4 q5
            have hwq : W.heap.size ≤ (wo.drewN (q + 1)).heap.size := by exact HB.out.size
            have hSe := Src.kept HWS.out ((Kept.refl [] wo).drewN (q + 1)) (by simp)
            obtain ⟨hhead, ao, hcut, hsc, hsb⟩ := hSe.cuts 22 (by kernel_rfl) (by intro w; kernel_rfl) k hkm
            have HSC := Lib.hid hsc
            have HSH := Lib.hid (hSe.head k hkm)
            have ci := (HS.out.src.below (bdrewN HB.out (q + 1)) HS.out.lt).at_ i _ (sl_at L i (by rw [← HN.out]; exact hin))
            rw [← HX.out] at ci
            have HBE := Lib.hid (bdrewN HB.out (q + 1))
            generalize hwe : wo.drewN (q + 1) = we at *
            clear hsc hsb hSe hwe
            go_wp2_with (at_builtin; refine wpList_append_src _ rfl (.tmp 34) (.tmp 37) 22 rfl W.heap.size 9 i0 (.string ⟨#[]⟩) 1 16 Try.underlying22 hi0 hz0 hz1 hz2 rfl (by decide) _ 0 [] rfl (World.ownsRow_nil _ _ _ _) _ k mk rfl _ HSH.out (fun u hu => sl_one _ _ (List.mem_of_mem_take hu)) (by unfold maxLen; omega) (by omega) hwq ?_)
            intro v1 w1 hown1 hg1 hat1
            have hk1 : Kept [] we w1 := (Kept.refl [] _).grown hg1 (fun x hx => by simp [Value.ownBlock] at hx)
            have hs1 : we.heap.size ≤ w1.heap.size := hk1.size
            have hr1 : ∀ x ∈ rowOf v1, we.heap.size ≤ x := fun x hx => by
              rcases rowOf_new hat1 x hx with h | h
              · simp [rowOf, Value.ownBlock] at h
              · exact h
            replace ci := hk1.cell ci (by simp)
            have HO1 := Lib.hid hown1
            have HR1 := Lib.hid hr1
            have HK1 := Lib.hid hk1
            clear hown1 hg1 hat1 hk1 hr1 hhead
            go_wp2_with (at_builtin; refine wpList_append_src _ rfl (.tmp 39) (.tmp 44) 22 rfl W.heap.size 9 i0 (.string ⟨#[]⟩) 1 16 Try.underlying22 hi0 hz0 hz1 hz2 rfl (by decide) _ _ _ rfl (HO1.out.alloc _) _ 1 1 rfl _ (src_s w1 _ rfl x) (fun u hu => by simp at hu; subst hu; rfl) (by unfold maxLen; omega) (by omega) (by simp; omega) ?_)
            intro v2 w2 hown2 hg2 hat2
            have hk2 : Kept [] we w2 := (HK1.out.alloc _).grown hg2 (fun x hx => .inr (HR1.out x (mem_rowOf hx)))
            have hr2 : ∀ x ∈ rowOf v2, we.heap.size ≤ x := fun x hx => by
              rcases rowOf_new hat2 x hx with h | h
              · exact HR1.out x h
              · first | omega | (simp at h; omega)
            have HSC2 := Lib.hid (HSC.out.kept hk2 (by simp))
            have hs2 : we.heap.size ≤ w2.heap.size := hk2.size
            have HO2 := Lib.hid hown2
            have HR2 := Lib.hid hr2
            have HK2 := Lib.hid hk2
            clear hown2 hg2 hat2 hk2 hr2 ci
            go_wp2_with (at_builtin; refine wpList_append_src _ rfl (.tmp 46) (.tmp 49) 22 rfl W.heap.size 9 i0 (.string ⟨#[]⟩) 1 16 Try.underlying22 hi0 hz0 hz1 hz2 rfl (by decide) _ _ _ rfl HO2.out _ (m - k) (mk - k) rfl _ HSC2.out (fun u hu => sl_one _ _ (List.mem_of_mem_drop hu)) (by unfold maxLen; omega) (by omega) (by omega) ?_)
            intro v3 w3 hown3 hg3 hat3
            have hk3 : Kept [] we w3 := HK2.out.grown hg3 (fun x hx => .inr (HR2.out x (mem_rowOf hx)))
            have hb3 : Below W.heap.size W w3 := HBE.out.trans (hk3.below hwq (by simp))
            have HF := Lib.hid (And.intro hown3 hb3)
            clear hown3 hg3 hat3 hcut hk3 hb3
            go_wp2_with fail
            go_roundg (gk - 1)
            case measure => omega
            case rel =>
              have hx0 : k ≤ M.length := by rw [← HM.out]; exact hkm
              have hlen := (ins_perm M x k).length_eq
              refine ⟨i + 1, v3, M.take k ++ x :: M.drop k, by go_num, by omega, rfl, ?_, ?_, sd_ins (klt_law key) HSO.out hx0 HJ.out (.inr (by rw [← HY.out]; exact HL.out)), ?_, HF.out.2⟩
              · rw [hlen]
                have e : sl (M.take k ++ x :: M.drop k) = [] ++ (sl M).take (k * 1) ++ [.string x] ++ (sl M).drop (k * 1) := by
                  rw [sl_app, ← sl_take, ← sl_drop]; simp [sl]
                rw [e]
                have e2 : (x :: M).length = 0 + k + 1 + (m - k) := by have := HM.out; simp; omega
                rw [e2]
                first | exact HF.out.1 | simpa using HF.out.1
              · refine (ins_perm M _ k).trans ?_
                have hki : i < L.length := by rw [← HN.out]; exact hin
                have e3 : L.take (i + 1) = L.take i ++ [x] := by rw [List.take_succ_eq_append_getElem hki, HX.out, gi_at _ _ hki]
                rw [e3]
                exact (HPM.out.cons _).trans (List.perm_append_singleton _ _).symm
              · have h9 := HM.out
                rw [hlen]; simp; omega
        · have hkm2 : k = m := by omega
          have d0 : decide ((k : Int) < (m : Int)) = false := by rw [decide_eq_false_iff_not]; omega
          go_wp2_with fail
          go_quiet (fail)
          rw [World.drewN_drewN]
          have HKM := Lib.hid hkm2
          clear d0 hkm2 hk
          have hwq : W.heap.size ≤ (wo.drewN (q + nq)).heap.size := by exact HB.out.size
          have hSe := Src.kept HWS.out ((Kept.refl [] wo).drewN (q + nq)) (by simp)
          obtain ⟨hhead, ao, hcut, hsc, hsb⟩ := hSe.cuts 22 (by kernel_rfl) (by intro w; kernel_rfl) k hkm
          have HSC := Lib.hid hsc
          have HSH := Lib.hid (hSe.head k hkm)
          have ci := (HS.out.src.below (bdrewN HB.out (q + nq)) HS.out.lt).at_ i _ (sl_at L i (by rw [← HN.out]; exact hin))
          rw [← HX.out] at ci
          have HBE := Lib.hid (bdrewN HB.out (q + nq))
          generalize hwe : wo.drewN (q + nq) = we at *
          clear hsc hsb hSe hwe
          go_wp2_with (at_builtin; refine wpList_append_src _ rfl (.tmp 34) (.tmp 37) 22 rfl W.heap.size 9 i0 (.string ⟨#[]⟩) 1 16 Try.underlying22 hi0 hz0 hz1 hz2 rfl (by decide) _ 0 [] rfl (World.ownsRow_nil _ _ _ _) _ k mk rfl _ HSH.out (fun u hu => sl_one _ _ (List.mem_of_mem_take hu)) (by unfold maxLen; omega) (by omega) hwq ?_)
          intro v1 w1 hown1 hg1 hat1
          have hk1 : Kept [] we w1 := (Kept.refl [] _).grown hg1 (fun x hx => by simp [Value.ownBlock] at hx)
          have hs1 : we.heap.size ≤ w1.heap.size := hk1.size
          have hr1 : ∀ x ∈ rowOf v1, we.heap.size ≤ x := fun x hx => by
            rcases rowOf_new hat1 x hx with h | h
            · simp [rowOf, Value.ownBlock] at h
            · exact h
          replace ci := hk1.cell ci (by simp)
          have HO1 := Lib.hid hown1
          have HR1 := Lib.hid hr1
          have HK1 := Lib.hid hk1
          clear hown1 hg1 hat1 hk1 hr1 hhead
          go_wp2_with (at_builtin; refine wpList_append_src _ rfl (.tmp 39) (.tmp 44) 22 rfl W.heap.size 9 i0 (.string ⟨#[]⟩) 1 16 Try.underlying22 hi0 hz0 hz1 hz2 rfl (by decide) _ _ _ rfl (HO1.out.alloc _) _ 1 1 rfl _ (src_s w1 _ rfl x) (fun u hu => by simp at hu; subst hu; rfl) (by unfold maxLen; omega) (by omega) (by simp; omega) ?_)
          intro v2 w2 hown2 hg2 hat2
          have hk2 : Kept [] we w2 := (HK1.out.alloc _).grown hg2 (fun x hx => .inr (HR1.out x (mem_rowOf hx)))
          have hr2 : ∀ x ∈ rowOf v2, we.heap.size ≤ x := fun x hx => by
            rcases rowOf_new hat2 x hx with h | h
            · exact HR1.out x h
            · first | omega | (simp at h; omega)
          have HSC2 := Lib.hid (HSC.out.kept hk2 (by simp))
          have hs2 : we.heap.size ≤ w2.heap.size := hk2.size
          have HO2 := Lib.hid hown2
          have HR2 := Lib.hid hr2
          have HK2 := Lib.hid hk2
          clear hown2 hg2 hat2 hk2 hr2 ci
          go_wp2_with (at_builtin; refine wpList_append_src _ rfl (.tmp 46) (.tmp 49) 22 rfl W.heap.size 9 i0 (.string ⟨#[]⟩) 1 16 Try.underlying22 hi0 hz0 hz1 hz2 rfl (by decide) _ _ _ rfl HO2.out _ (m - k) (mk - k) rfl _ HSC2.out (fun u hu => sl_one _ _ (List.mem_of_mem_drop hu)) (by unfold maxLen; omega) (by omega) (by omega) ?_)
          intro v3 w3 hown3 hg3 hat3
          have hk3 : Kept [] we w3 := HK2.out.grown hg3 (fun x hx => .inr (HR2.out x (mem_rowOf hx)))
          have hb3 : Below W.heap.size W w3 := HBE.out.trans (hk3.below hwq (by simp))
          have HF := Lib.hid (And.intro hown3 hb3)
          clear hown3 hg3 hat3 hcut hk3 hb3
          go_wp2_with fail
          go_roundg (gk - 1)
          case measure => omega
          case rel =>
            have hx0 : k ≤ M.length := by rw [← HM.out]; exact hkm
            have hlen := (ins_perm M x k).length_eq
            refine ⟨i + 1, v3, M.take k ++ x :: M.drop k, by go_num, by omega, rfl, ?_, ?_, sd_ins (klt_law key) HSO.out hx0 HJ.out (.inl (by rw [← HM.out]; exact HKM.out)), ?_, HF.out.2⟩
            · rw [hlen]
              have e : sl (M.take k ++ x :: M.drop k) = [] ++ (sl M).take (k * 1) ++ [.string x] ++ (sl M).drop (k * 1) := by
                rw [sl_app, ← sl_take, ← sl_drop]; simp [sl]
              rw [e]
              have e2 : (x :: M).length = 0 + k + 1 + (m - k) := by have := HM.out; simp; omega
              rw [e2]
              first | exact HF.out.1 | simpa using HF.out.1
            · refine (ins_perm M _ k).trans ?_
              have hki : i < L.length := by rw [← HN.out]; exact hin
              have e3 : L.take (i + 1) = L.take i ++ [x] := by rw [List.take_succ_eq_append_getElem hki, HX.out, gi_at _ _ hki]
              rw [e3]
              exact (HPM.out.cons _).trans (List.perm_append_singleton _ _).symm
            · have h9 := HM.out
              rw [hlen]; simp; omega
    · have hin2 : i = n := by omega
      subst hin2
      have HP2 : Hid (M.Perm L) := Lib.hid (by have := HPM.out; rwa [HN.out, List.take_length] at this)
      go_wp2_with fail
      go_ret
      exact ⟨_, M, rfl, by rw [← HM.out]; have := HO.out; rw [← HM.out] at this; exact this, HP2.out, HSO.out, HB.out⟩
end Go.Proofs.Ytapokcjfhgbagaa
