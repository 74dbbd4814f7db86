/- lightshipref28: Lacks -/
import Derived.Test.YtdggnhgflfaffaaInbRef
namespace Go.Proofs.Ytdggnhgflfaffaa
set_option maxRecDepth 20000
open Go.ChangeShapes Go.WideShapes Go.ChangeAt Go.RowKit
set_option linter.unusedVariables false
set_option linter.unusedSimpArgs false

def mxI (base : Nat) (S : List Nat) : Int := S.foldl (fun (a : Int) (s : Nat) => max a ((s : Int) - (base : Int))) (-1)
theorem mxI_app (base : Nat) (S : List Nat) (x : Nat) : mxI base (S ++ [x]) = max (mxI base S) ((x : Int) - (base : Int)) := by simp [mxI, List.foldl_append]
theorem mxI_le (base : Nat) (S : List Nat) (B : Nat) (h : ∀ y ∈ S, y < B) (hB : base < B) : -1 ≤ mxI base S ∧ mxI base S < B := by
  unfold mxI
  have : ∀ (S : List Nat) (a : Int), -1 ≤ a → a < B → (∀ y ∈ S, y < B) → -1 ≤ S.foldl (fun (a : Int) (s : Nat) => max a ((s : Int) - (base : Int))) a ∧ S.foldl (fun (a : Int) (s : Nat) => max a ((s : Int) - (base : Int))) a < B := by
    intro S
    induction S with
    | nil => intro a h1 h2 _; exact ⟨h1, h2⟩
    | cons y S ih =>
      intro a h1 h2 hs
      have := hs y (by simp)
      exact ih (max a ((y : Int) - (base : Int))) (by omega) (by omega) (fun z hz => hs z (by simp [hz]))
  exact this S (-1) (by omega) (by omega) h
theorem mxI_eq (base : Nat) (S : List Nat) : mxI base S = if S.isEmpty then -1 else max (-1) ((mx S : Int) - (base : Int)) := by
  have key : ∀ (S : List Nat) (a : Nat), S.foldl (fun (a : Int) (s : Nat) => max a ((s : Int) - (base : Int))) (max (-1) ((a : Int) - (base : Int))) = max (-1) ((S.foldl max a : Nat) - (base : Int)) := by
    intro S
    induction S with
    | nil => intro a; rfl
    | cons y S ih =>
      intro a
      simp only [List.foldl_cons]
      rw [← ih (max a y)]
      congr 1
      omega
  cases S with
  | nil => rfl
  | cons y S =>
    have h := key S y
    unfold mxI mx
    simp only [List.foldl_cons, List.isEmpty_cons, if_neg (by simp : ¬ (false = true)), Nat.zero_max]
    exact h
set_option maxHeartbeats 4000000 in
theorem rlacks (C : Nat → Int) (win que k : Nat) (x : Ist) (p : Option Addr) (cap : Nat) (q : Option Addr) (cap2 : Nat) (hf : Fine x win que k) (w : World) (h : RefAt w x p cap q cap2) :
    Calls Try.prog 17 #[.agg (rC C win x p cap q cap2)] w (LackPost w (lacksL x)) := by
  obtain ⟨i0, hi0, hz0, hz1, hz2⟩ := info_parts u_info
  obtain ⟨c0, c1, c2, c3, c4, c5, c6, c7, c8, c9, c10, c11, c12, c13, c14, c15, c16, c17⟩ := rGet C win x p cap q cap2
  clear c0 c1 c2 c3 c4 c5 c6 c7 c8 c9 c10 c15 c16 c17
  have hbase : x.base ≤ 1000 := by have := hf.base; have := hf.small; omega
  have hSm : ∀ y ∈ x.S, y < 1064 + 1 := fun y hy => by have := hf.seen y hy; have := hf.small; have := hf.w2; omega
  have hmxb := mxI_le x.base x.S 1065 hSm (by omega)
  have hL : x.L.length ≤ 1000 := by have := hf.len; omega
  have HH := Lib.hid (fun (n : Nat) w hs => rhas_any x.base win p cap x.L n hL w hs)
  have HAH := Lib.hid (fun (y : Nat) (hy : y < 1065) w => refAhead (x.base : Int) (y : Int) (by omega) (by omega) (by omega) (by omega) w)
  have HSM := Lib.hid hSm
  obtain ⟨ns, hns⟩ : ∃ n, n = x.S.length := ⟨_, rfl⟩
  have hsl : ns ≤ 1000 := by rw [hns]; have := hf.slen; have := hf.small; omega
  have hS := h.ru.src
  rw [← hns] at hS c14
  have HNS := Lib.hid hns
  have HRO0 := Lib.hid h.ro
  have HPL : Hid (∀ a, p = some a → a.block < w.heap.size) := Lib.hid h.ro.lt
  have HLE := Lib.hid (mxI_eq x.base x.S)
  have HLD : Hid (lacksL x = lackTo x (lackN x)) := Lib.hid rfl
  have HLN : Hid (lackN x = if x.S.isEmpty then 0 else mx x.S + 1 - x.base) := Lib.hid rfl
  have HT : Hid (∀ j, lackTo x (j + 1) = if hasR x.L (x.base + j) then lackTo x j else lackTo x j ++ [x.base + j]) := Lib.hid (fun j => rfl)
  have HTL := Lib.hid (lackTo_le x)
  generalize lacksL x = LL at *
  generalize lackN x = LN at *
  generalize lackTo x = F at *
  generalize x.base = base at *
  generalize rC C win x p cap q cap2 = cv at *
  clear h hf hns hSm
  go_enter Try.func17, Try.ntmps17
  go_wp2_with fail
  generalize hwb : w.alloc _ = wb
  have hB : Blk wb w.heap.size cv 38 := by rw [← hwb]; exact Blk.new _ _ _
  have HBW : Hid (Below w.heap.size w wb) := Lib.hid (by rw [← hwb]; exact below1 _ _)
  have HS : Hid (Src wb q ns cap2 1 (ul x.S)) := Lib.hid (hS.kept (by rw [← hwb]; exact (Kept.refl [] w).alloc _) (by simp))
  have HR : Hid (RO wb p cap x.L) := Lib.hid (HRO0.out.below HBW.out)
  have HCC := Lib.hid (And.intro c11 (And.intro c12 c13))
  have d11 := (hB.cell 11).trans c11
  have d14 := (hB.cell 14).trans c14
  have HB := Lib.hid hB
  clear hwb hB hS c11 c12 c13 c14 HRO0
  go_loopw [3, 4] (fun lv iv wr => ∃ i : Nat, iv = .int .i64 (i : Int) ∧ i ≤ ns ∧ lv = .int .i64 (mxI base (x.S.take i)) ∧ -1 ≤ mxI base (x.S.take i) ∧ mxI base (x.S.take i) < 1065 ∧ Kept [] wb wr) (fun _ iv _ => ns - (intOf iv).toNat)
  case atStart => exact ⟨0, rfl, Nat.zero_le _, rfl, by simp [mxI], by simp [mxI], Kept.refl _ _⟩
  case round =>
    obtain ⟨i, rfl, hin, rfl, hm1, hm2, hkw⟩ := hrel
    have HKW := Lib.hid hkw
    have e11 := hkw.cell d11 (by simp)
    have e14 := hkw.cell d14 (by simp)
    clear d11 d14
    by_cases hlt : i < ns
    · obtain ⟨lb, off, rfl⟩ := HS.out.of_pos (by have := HS.out.fits; omega)
      have hiS : i < x.S.length := by rw [← HNS.out]; exact hlt
      have y0 := hkw.cell (HS.out.at_ i _ (ul_at x.S i hiS)) (by simp)
      have hyb := HSM.out _ (List.getElem_mem hiS)
      have HTK : Hid (mxI base (x.S.take (i + 1)) = max (mxI base (x.S.take i)) (((x.S[i]'hiS : Nat) : Int) - (base : Int))) := Lib.hid (by rw [List.take_succ_eq_append_getElem hiS, mxI_app])
      have HA := Lib.hid (HAH.out _ hyb)
      have HAE := ahead_small (a := base) (b := x.S[i]'hiS) (by omega) (by omega)
      rw [HAE] at HA
      clear HAE hkw
      generalize (x.S[i]'hiS) = ys at *
      generalize mxI base (x.S.take i) = m0 at *
      go_wp2_with fail
      go_region_held3 (fun w' => w'.cell? ⟨w.heap.size, 11, none⟩ = some (.int .u32 (base : Int)) ∧ w'.cell? ⟨w.heap.size, 14, none⟩ = some (.slice (some ⟨lb, off, none⟩) ns cap2) ∧ w'.cell? ⟨lb, off + i, none⟩ = some (.int .u32 (ys : Int))) (first | exact ⟨e11, e14, y0⟩ | exact ⟨kdrew e11, kdrew e14, kdrew y0⟩) ((go_at_call 40; refine (HA.out _).mono ?_; rintro e w' ⟨rfl, rfl⟩))
      go_wp2_with fail
      go_roundw
      case rel => exact ⟨i + 1, by go_num, by omega, by rw [HTK.out], by rw [HTK.out]; omega, by rw [HTK.out]; omega, HKW.out.drewN _⟩
      case measure => simp [intOf]; omega
    · obtain rfl : i = ns := by omega
      have e1 : x.S.take i = x.S := List.take_of_length_le (by have := HNS.out; omega)
      rw [e1] at hm1 hm2 ⊢
      have HLN2 : Hid ((LN : Int) = mxI base x.S + 1) := Lib.hid (by
        have h1 := HLE.out
        have h2 := HLN.out
        by_cases h3 : x.S.isEmpty = true
        · rw [if_pos h3] at h1 h2; omega
        · rw [if_neg h3] at h1 h2; omega)
      have HF0 : Hid (F 0 = []) := Lib.hid (by have := HTL.out 0; exact List.eq_nil_of_length_eq_zero (by omega))
      have HB2 := Lib.hid (HB.out.kept hkw (by simp))
      have HR2 := Lib.hid (HR.out.kept hkw (by simp))
      have HBW2 : Hid (Below w.heap.size w wr) := Lib.hid (HBW.out.trans (hkw.below HBW.out.size (by simp)))
      generalize mxI base x.S = m0 at *
      clear e1 e11 hkw HS HKW HB HR HBW HSM HAH HLE HLN hlt hin
      go_wp2_with fail
      clear e14
      go_loopg [5, 6] LN (fun g ov kv wr => ∃ (j : Nat) (v : Value), g + j = LN ∧ ov = v ∧ kv = .int .i64 (j : Int) ∧ wr.ownsRow (w.heap.size + 1) 32 1 v (F j).length (ul (F j)) ∧ Below w.heap.size w wr ∧ Blk wr w.heap.size cv 38 ∧ RO wr p cap x.L)
      case atStart => exact ⟨0, _, by omega, rfl, by simp, by rw [HF0.out]; exact World.ownsRow_nil _ _ _ _, HBW2.out, HB2.out, HR2.out⟩
      case round =>
        clear HB2 HR2 HBW2
        obtain ⟨j, v, hj, rfl, rfl, ho, hb, hB, hR⟩ := hrel
        have HLN3 := HLN2.out
        have HO := Lib.hid ho
        have HBW := Lib.hid hb
        have HB := Lib.hid hB
        have HR := Lib.hid hR
        have hsw := hb.size
        have hbl := hB.lt
        have e11 := (hB.cell 11).trans HCC.out.1
        have e12 := (hB.cell 12).trans HCC.out.2.1
        have e13 := (hB.cell 13).trans HCC.out.2.2
        clear ho hb hB hR
        by_cases hjc : j < LN
        · have hle : (j : Int) ≤ m0 := by omega
          have qa : IntKind.u32.wrap (j : Int) = (j : Int) := by simp [IntKind.wrap, IntKind.signed, IntKind.bits]; omega
          have qb : IntKind.u32.wrap ((base : Int) + (j : Int)) = (base : Int) + (j : Int) := by simp [IntKind.wrap, IntKind.signed, IntKind.bits]; omega
          have HH2 : Hid (∀ w', RO w' p cap x.L → Calls Try.prog 41 #[.agg #[.int .u32 (base : Int), .int .i64 (win : Int), .slice p x.L.length cap], .int .u32 ((base : Int) + (j : Int))] w' fun e w'' => e = .returned (.bool (hasR x.L (base + j))) ∧ Below w'.heap.size w' w'') := Lib.hid (fun w' hs => HH.out (base + j) w' hs)
          have HTJ := Lib.hid (HT.out j)
          have hfl := HTL.out j
          cases h1 : hasR x.L (base + j) with
          | true =>
            rw [h1] at HH2 HTJ
            clear h1
            go_wp2_with fail
            refine (HH2.out _ HR.out).mono ?_
            rintro e w3 ⟨rfl, hb3⟩
            have HK3 := Lib.hid (Kept.of_below hb3 [])
            have HB3 := Lib.hid (HBW.out.trans (hb3.mono hsw))
            clear hb3
            go_wp2_with fail
            go_roundg (gk - 1)
            case measure => omega
            case rel => exact ⟨j + 1, u5, by omega, rfl, by go_num, by have := HTJ.out; rw [if_pos trivial] at this; rw [this]; exact own_kept HO.out HK3.out (by simp), HB3.out, HB.out.kept HK3.out (by simp), HR.out.kept HK3.out (by simp)⟩
          | false =>
            rw [h1] at HH2 HTJ
            clear h1
            go_wp2_with fail
            refine (HH2.out _ HR.out).mono ?_
            rintro e w2 ⟨rfl, hb3⟩
            have HK3 := Lib.hid (Kept.of_below hb3 [])
            have HB3 := Lib.hid (HBW.out.trans (hb3.mono hsw))
            have HO2 := Lib.hid (own_kept HO.out HK3.out (by simp))
            have hws : w.heap.size + 1 ≤ w2.heap.size := by have := hb3.size; omega
            clear hb3 e11 e12 e13
            go_wp2_with (at_builtin; refine wpList_append_src _ rfl (.tmp 42) (.tmp 44) 36 rfl (w.heap.size + 1) 32 i0 (.int .u32 0) 1 4 Try.underlying36 hi0 hz0 hz1 hz2 rfl (by decide) _ _ _ rfl (HO2.out.alloc _) _ 1 1 rfl _ (src_u w2 ((base : Int) + (j : Int)) 32) (fun u hu => by simp at hu; subst hu; rfl) (by unfold maxLen; omega) (by omega) (by simp; omega) ?_)
            intro v1 w3 hown1 hg1 hat1
            have hk1 : Kept (rowOf u5) w2 w3 := ((Kept.refl _ _).alloc _).grown hg1 (fun y hy => .inl (mem_rowOf hy))
            have hlo := own_lt HO2.out
            have HO3 := Lib.hid hown1
            have HB4 := Lib.hid (HB3.out.trans (hk1.below (by omega) (fun y hy => by have := (hlo y hy).1; omega)))
            have HK4 : Hid (Kept [] wr w2 ∧ Kept (rowOf u5) w2 w3) := Lib.hid ⟨HK3.out, hk1⟩
            have HBF : Hid (Blk w3 w.heap.size cv 38) := Lib.hid ((HB.out.kept HK3.out (by simp)).kept hk1 (fun hm => by have := (hlo _ hm).1; omega))
            have HRF : Hid (RO w3 p cap x.L) := Lib.hid ((HR.out.kept HK3.out (by simp)).kept hk1 (fun a ha hm => by have := (hlo _ hm).1; have := HPL.out a ha; omega))
            clear hown1 hg1 hat1 hk1 hlo
            go_wp2_with fail
            go_roundg (gk - 1)
            case measure => omega
            case rel =>
              refine ⟨j + 1, v1, by omega, rfl, by go_num, ?_, HB4.out, HBF.out, HRF.out⟩
              have := HTJ.out
              rw [if_neg (by simp)] at this
              rw [this, ul_app, List.length_append]
              simpa [ul] using HO3.out
        · obtain rfl : j = LN := by omega
          have hle : ¬ (j : Int) ≤ m0 := by omega
          go_wp2_with fail
          go_ret
          obtain ⟨p', cap', rfl, hru⟩ := RU.of_own HO.out
          rw [HLD.out]
          exact ⟨p', cap', rfl, hru, (fun a ha => by have := (own_lt HO.out a.block (by simp [rowOf, Value.ownBlock, ha])).1; omega), HBW.out⟩
end Go.Proofs.Ytdggnhgflfaffaa
