/- Contracts of package heap: down. -/
import Derived.Test.YtplgcnlnhboneaaHeap2
namespace Go.Proofs.Ytplgcnlnhboneaa
open Go.ChangeShapes Go.WideShapes Go.ChangeAt Go.RowKit
set_option linter.unusedVariables false

set_option maxRecDepth 100000 in
set_option maxHeartbeats 8000000 in
theorem hdown (b g n cap : Nat) (L : List Du) (w : World) (h : HeapG w b g n cap L) (hu : DownInv L 0) : Calls Try.prog 20 #[.pointer (some ⟨b, 0, none⟩)] w (HGPost w b g n cap L) := by
  obtain ⟨hbg, hgl, hn⟩ := h.lt
  have H := Lib.hid h
  have HU := Lib.hid hu
  clear h hu
  go_enter Try.func20, Try.ntmps20
  go_wp2_with fail
  go_loopw [2] (fun iv wr => ∃ (i : Nat) (M : List Du), iv = .int .i64 (i : Int) ∧ (i < n ∨ i = 0) ∧ HeapG wr b g n cap M ∧ M.Perm L ∧ DownInv M i ∧ Kept [g] w wr) (fun iv _ => n - (intOf iv).toNat)
  case atStart => exact ⟨0, L, rfl, .inr rfl, H.out, List.Perm.refl _, HU.out, Kept.refl _ _⟩
  case round =>
    clear H HU
    obtain ⟨i, M, rfl, hin, hG, hP, hU, hK⟩ := hrel
    have hi5 : i ≤ 5000 := by omega
    have HP := Lib.hid hP
    have HU := Lib.hid hU
    have HG := Lib.hid hG
    have HK := Lib.hid hK
    clear hG hP hU hK
    go_wp2_with fail
    obtain ⟨wo, hwo⟩ : ∃ wo : World, wo = wr := ⟨_, rfl⟩
    subst hwo
    go_loopw [3, 4] (fun mv kv wr => ∃ (m k : Nat), mv = .int .i64 (m : Int) ∧ kv = .int .i64 (k : Int) ∧ 2 * i + 1 ≤ k ∧ k ≤ 2 * i + 3 ∧ LeastOf M i k m ∧ HeapG wr b g n cap M ∧ Kept [g] w wr) (fun _ kv _ => 2 * i + 3 - (intOf kv).toNat)
    case atStart => exact ⟨i, 2 * i + 1, rfl, by (refine congrArg (Value.int .i64) ?_; omega), Nat.le_refl _, by omega, least_start M i, HG.out, HK.out⟩
    case round =>
      clear HG HK
      obtain ⟨m, k, rfl, rfl, hk1, hk2, hL, hG, hK⟩ := hrel
      have hML : M.length = n := hG.2
      have hmn : m < n ∨ m = i := by
        rcases hL.1 with h | ⟨_, _, h, _⟩
        · exact .inr h
        · left; omega
      have hm5 : m ≤ 5000 := by omega
      have HML := Lib.hid hML
      have HL := Lib.hid hL
      have HG := Lib.hid hG
      have hgr := hG.lt.2.1
      have hbr : b < wr.heap.size := by omega
      clear hG hL hML
      obtain ⟨c0, c1⟩ := HG.out.cells
      by_cases hk3 : k ≤ 2 * i + 2
      · by_cases hkn : k < n
        · have hmn2 : m < n := by omega
          obtain ⟨x0, x1, x2⟩ := HG.out.elem k hkn
          obtain ⟨y0, y1, y2⟩ := HG.out.elem m hmn2
          have HLS := Lib.hid (fun w => hless (ga M k) (ga M m) w)
          have d0 : decide ((k : Int) < (n : Int)) = true := by rw [decide_eq_true_iff]; omega
          have d1 : decide (k < n) = true := by rw [decide_eq_true_iff]; omega
          have q4 : (0 : Int) ≤ (k : Int) := by omega
          have q5 : (k : Int) < (n : Int) := by omega
          have q6 : (m : Int) < (n : Int) := by omega
          have q7 : (0 : Int) ≤ (m : Int) := by omega
          clear hmn
          go_wp2_with fail
          go_region_held3 (fun w' => w'.cell? ⟨b, 0, none⟩ = some (.slice (some ⟨g, 0, none⟩) n cap) ∧ w'.cell? ⟨b, 1, none⟩ = some (.func (.func 15) #[] #[]) ∧ w'.cell? ⟨g, k * 3, none⟩ = some (.int .i64 (ga M k).st) ∧ w'.cell? ⟨g, k * 3 + 1, none⟩ = some (.int .u32 (ga M k).bl) ∧ w'.cell? ⟨g, k * 3 + 2, none⟩ = some (.int .i64 (ga M k).at_) ∧ w'.cell? ⟨g, m * 3, none⟩ = some (.int .i64 (ga M m).st) ∧ w'.cell? ⟨g, m * 3 + 1, none⟩ = some (.int .u32 (ga M m).bl) ∧ w'.cell? ⟨g, m * 3 + 2, none⟩ = some (.int .i64 (ga M m).at_)) (first | exact ⟨c0, c1, x0, x1, x2, y0, y1, y2⟩ | exact ⟨kbelow hb4 (by exact hbr) c0, kbelow hb4 (by exact hbr) c1, kbelow hb4 (by exact hgr) x0, kbelow hb4 (by exact hgr) x1, kbelow hb4 (by exact hgr) x2, kbelow hb4 (by exact hgr) y0, kbelow hb4 (by exact hgr) y1, kbelow hb4 (by exact hgr) y2⟩) ((go_at_call 15; refine (HLS.out _).mono ?_; rintro e w4 ⟨rfl, hb4⟩))
          rename_i hHeld
          have hk4 : Kept [] wr w4 := ((Kept.refl [] wr).drew).trans (Kept.of_below hb4 []) (fun x hx => .inl hx)
          have HG4 : Hid (HeapG w4 b g n cap M) := Lib.hid (HG.out.kept hk4 (by simp) (by simp))
          have HK4 := Lib.hid (hK.trans hk4 (fun x hx => by simp at hx))
          clear hb4 hk4 hK c0 c1 x0 x1 x2 y0 y1 y2 HG d0 d1 HLS hHeld
          cases hlt : (ga M k).lt (ga M m) with
          | false =>
            have HLT := Lib.hid hlt
            clear hlt
            go_wp2_with fail
            go_roundw
            case rel => exact ⟨m, k + 1, rfl, by go_num, by omega, by omega, least_old HL.out (.inr HLT.out), HG4.out, HK4.out⟩
            case measure => simp [intOf]; omega
          | true =>
            have HLT := Lib.hid hlt
            clear hlt
            go_wp2_with fail
            go_roundw
            case rel => exact ⟨k, k + 1, rfl, by go_num, by omega, by omega, least_new HL.out hk1 (by rw [HML.out]; exact hkn) HLT.out, HG4.out, HK4.out⟩
            case measure => simp [intOf]; omega
        · have d0 : decide ((k : Int) < (n : Int)) = false := by rw [decide_eq_false_iff_not]; omega
          have d1 : decide (k < n) = false := by rw [decide_eq_false_iff_not]; omega
          go_wp2_with fail
          go_quiet (fail)
          have HG4 := Lib.hid (HG.out.kept ((Kept.refl [] _).drewN nq) (by simp) (by simp))
          have HK4 := Lib.hid (hK.drewN nq)
          clear d0 d1 HG hK c0 c1
          go_wp2_with fail
          go_roundw
          case rel => exact ⟨m, k + 1, rfl, by go_num, by omega, by omega, least_old HL.out (.inl (by rw [HML.out]; omega)), HG4.out, HK4.out⟩
          case measure => simp [intOf]; omega
      · have hk4 : k = 2 * i + 3 := by omega
        have HL3 : Hid (LeastOf M i (2 * i + 3) m) := Lib.hid (by rw [← hk4]; exact HL.out)
        have d2 : decide ((k : Int) ≤ 2 * (i : Int) + 2) = false := by rw [decide_eq_false_iff_not]; omega
        clear hk4 HL
        by_cases hmi : m = i
        · subst hmi
          go_wp2_with fail
          go_returns
          exact ⟨rfl, M, HG.out, HP.out, down_stop HU.out HL3.out, hK⟩
        · have hmn2 : m < n := by omega
          have hin2 : i < n := by
            rcases HL3.out.1 with h | ⟨h1, _, _, _⟩
            · exact absurd h hmi
            · omega
          have b1 : ((m : Int) == (i : Int)) = false := by rw [beq_eq_false_iff_ne]; omega
          have b2 : (m == i) = false := by rw [beq_eq_false_iff_ne]; omega
          obtain ⟨hd1, hd2, hd3, hd4⟩ := down_step HU.out (by rw [HML.out]; exact hin2) HL3.out hmi
          obtain ⟨x0, x1, x2⟩ := HG.out.elem i hin2
          obtain ⟨y0, y1, y2⟩ := HG.out.elem m hmn2
          have f0 := HG.out.free (i * 3)
          have f1 := HG.out.free (i * 3 + 1)
          have f2 := HG.out.free (i * 3 + 2)
          have e0 := HG.out.free (m * 3)
          have e1 := HG.out.free (m * 3 + 1)
          have e2 := HG.out.free (m * 3 + 2)
          have hbg2 : b ≠ g := by omega
          have HD := Lib.hid hd1
          have q5 : (i : Int) < (n : Int) := by omega
          have q6 : (m : Int) < (n : Int) := by omega
          clear hd1 hd2 hmn hin
          go_wp2_with fail
          go_region
          have hG5 : HeapG (set3 (set3 wr g i (ga M m)) g m (ga M i)) b g n cap (sw M i m) := (HG.out.put i hin2 _).put m hmn2 _
          have hk5 : Kept [g] w (set3 (set3 wr g i (ga M m)) g m (ga M i)) := set3_kept (set3_kept hK g i _ (.inl (by simp))) g m _ (.inl (by simp))
          have hP5 : (sw M i m).Perm L := (sw_perm M i m (by rw [HML.out]; exact hin2) (by rw [HML.out]; exact hmn2)).trans HP.out
          have HX := Lib.hid (And.intro hG5 (And.intro hk5 hP5))
          clear hG5 hk5 hP5 HG hK c0 c1 x0 x1 x2 y0 y1 y2 f0 f1 f2 e0 e1 e2 b1 b2
          go_wp2_with fail
          go_roundw
          case rel => exact ⟨m, sw M i m, rfl, .inl hmn2, HX.out.1.kept ((Kept.refl [] _).drew) (by simp) (by simp), HX.out.2.2, HD.out, HX.out.2.1.drew⟩
          case measure => simp [intOf]; omega
end Go.Proofs.Ytplgcnlnhboneaa
