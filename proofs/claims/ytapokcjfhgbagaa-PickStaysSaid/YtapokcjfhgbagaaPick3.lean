/- slices.SortStableFunc of at most 20 texts (insertion alone). -/
import Derived.Test.YtapokcjfhgbagaaPick2
import Derived.Test.YtapokcjfhgbagaaRowV
import Derived.Deep.RegionLaw
namespace Go.Proofs.Ytapokcjfhgbagaa
open Go.ChangeShapes Go.WideShapes Go.ChangeAt Go.RowKit
set_option linter.unusedVariables false

def sv (L : List ByteArray) (j : Nat) : Value := .string (gi L j)
theorem sv_swap (L : List ByteArray) (i j : Nat) (hi : i < L.length) (hj : j < L.length) (k : Nat) : upd (upd (sv L) i (sv L j)) j (sv L i) k = sv (sx L i j) k := by
  unfold upd sv
  rw [gi_sx L i j k hi hj]
  by_cases h1 : k = j
  · rw [if_pos h1, if_pos h1]
  · rw [if_neg h1, if_neg h1]
    by_cases h2 : k = i
    · rw [if_pos h2, if_pos h2]
    · rw [if_neg h2, if_neg h2]
theorem ins_none (p : Option Addr) (n cap : Nat) (fv : Value) (a b : Nat) (ha : a ≤ 1000) (hb : b ≤ a + 1) (w : World) :
    Calls Try.prog 26 #[.slice p n cap, .int .i64 (a : Int), .int .i64 (b : Int), fv] w fun e w' => e = .returned (.tuple #[]) ∧ w' = w := by
  go_enter Try.func26, Try.ntmps26
  go_wp2_with fail
  go_loopw [8] (fun iv wr => iv = .int .i64 ((a : Int) + 1) ∧ wr = w) (fun iv _ => 0)
  case atStart => exact ⟨rfl, rfl⟩
  case round =>
    obtain ⟨rfl, rfl⟩ := hrel
    go_wp2_with fail
    try rw [Exit.noGoto_ret]
    go_returns
    exact ⟨rfl, rfl⟩
def SortPost (W : World) (g n : Nat) (key : ByteArray) (L : List ByteArray) (e : Ending) (w' : World) : Prop :=
  e = .returned (.tuple #[]) ∧ ∃ M : List ByteArray, M.Perm L ∧ Sd (klt key) M ∧ RowV w' g n (sv M) ∧ Kept [g] W w'
theorem fit_perm {L M : List ByteArray} (h : Fit L) (hp : M.Perm L) : Fit M := by
  refine Fit.of fun i hi => ?_
  rw [gi_at M i hi]
  obtain ⟨j, hj, e⟩ := List.mem_iff_getElem.1 (hp.mem_iff.1 (List.getElem_mem hi))
  rw [← e, ← gi_at L j hj]; exact h j
set_option maxRecDepth 100000 in
set_option maxHeartbeats 4000000 in
theorem ins_sort (key : ByteArray) (kb g n cap : Nat) (L : List ByteArray) (h1 : key.size ≤ maxLen) (hf : Fit L) (hn : n = L.length) (hn1 : 1 ≤ n) (hn2 : n ≤ 20) (hnc : n ≤ cap) (hcm : cap ≤ maxLen) (hgk : kb ≠ g) (w : World) (hk : Blk w kb #[.string key] 9) (hr : RowV w g n (sv L)) :
    Calls Try.prog 26 #[.slice (some ⟨g, 0, none⟩) n cap, .int .i64 0, .int .i64 (n : Int), .func (.func 19) #[] #[.pointer (some ⟨kb, 0, none⟩)]] w (SortPost w g n key L) := by
  have hkb := hk.lt
  have hkc := Lib.hid (fun (w' : World) (hb : Kept [g] w w') => (hk.kept hb (by simpa using hgk)).one)
  have HR0 := Lib.hid hr
  have HN := Lib.hid hn
  have HF := Lib.hid hf
  unfold maxLen at hcm
  clear hk hr hn hf
  go_enter Try.func26, Try.ntmps26
  go_wp2_with fail
  go_loopw [8] (fun iv wr => ∃ (i : Nat) (M : List ByteArray), iv = .int .i64 (i : Int) ∧ 1 ≤ i ∧ i ≤ n ∧ M.Perm L ∧ SrtTo (klt key) M i ∧ RowV wr g n (sv M) ∧ Kept [g] w wr) (fun iv _ => n - (intOf iv).toNat)
  case atStart => exact ⟨1, L, rfl, by omega, by omega, List.Perm.refl _, fun p q h1 h2 => by omega, HR0.out, Kept.refl _ _⟩
  case round =>
    obtain ⟨i, M, rfl, hi1, hi2, hp, hs, hr, hkp⟩ := hrel
    have HP := Lib.hid hp
    have HS := Lib.hid hs
    have HR := Lib.hid hr
    have HK := Lib.hid hkp
    clear hp hs hr hkp
    by_cases hi : i < n
    · go_wp2_with fail
      obtain ⟨wo, hwo⟩ : ∃ wo, wo = wr := ⟨_, rfl⟩
      go_loopw [9] (fun jv wr => ∃ (j : Nat) (M : List ByteArray), jv = .int .i64 (j : Int) ∧ j ≤ i ∧ M.Perm L ∧ InsInv (klt key) M i j ∧ RowV wr g n (sv M) ∧ Kept [g] w wr) (fun jv _ => (intOf jv).toNat)
      case atStart => exact ⟨i, M, rfl, Nat.le_refl _, HP.out, ins_start HS.out, HR.out, HK.out⟩
      case round =>
        clear HP HS HR HK hwo
        obtain ⟨j, M, rfl, hj, hp, hs, hr, hkp⟩ := hrel
        have HP := Lib.hid hp
        have HS := Lib.hid hs
        have HR := Lib.hid hr
        have HK := Lib.hid hkp
        clear hp hs hr hkp
        by_cases hj0 : j = 0
        · subst hj0
          have q0 : decide ((0 : Int) < ((0 : Nat) : Int)) = false := by simp
          have HX := Lib.hid (ins_stop (klt_law key) HS.out (Nat.zero_le _) (.inl rfl))
          go_wp2_with fail
          go_quiet (fail)
          go_wp2_with fail
          go_roundw
          case rel => exact ⟨i + 1, M, by go_num, by omega, by omega, HP.out, HX.out, HR.out.kept ((Kept.refl [] _).drewN _) (by simp), HK.out.drewN _⟩
          case measure => simp [intOf]; omega
        · obtain ⟨k, rfl⟩ : ∃ k, j = k + 1 := ⟨j - 1, by omega⟩
          have cj := HR.out.cell (j := k + 1) (by omega)
          have ck := HR.out.cell (j := k) (by omega)
          unfold sv at cj ck
          have HFM := Lib.hid (fit_perm HF.out HP.out)
          have hkr := hkc.out wr HK.out
          have HC := Lib.hid (fun w hk => bydollar kb key (gi M (k + 1)) (gi M k) h1 (HFM.out _) (HFM.out _) w hk)
          have hgl := cmpK_dec key (gi M (k + 1)) (gi M k)
          generalize cmpK key (gi M (k + 1)) (gi M k) = r at *
          obtain ⟨x, hx⟩ : ∃ x, x = gi M (k + 1) := ⟨_, rfl⟩
          obtain ⟨y, hy⟩ : ∃ y, y = gi M k := ⟨_, rfl⟩
          rw [← hx] at cj hgl HC
          rw [← hy] at ck hgl HC
          have HX := Lib.hid hx
          have HY := Lib.hid hy
          clear hx hy
          have hgw := HR.out.1
          have hkbw : kb < wr.heap.size := Nat.lt_of_lt_of_le hkb HK.out.size
          have d0 : decide ((0 : Int) < (k : Int) + 1) = true := by rw [decide_eq_true_iff]; omega
          have q1 : IntKind.i64.wrap ((k : Int) + 1) = (k : Int) + 1 := IntWalk.i64_in _ (by omega)
          have q2 : (k : Int) + 1 - 1 = (k : Int) := by omega
          have q3 : IntKind.i64.wrap (k : Int) = (k : Int) := IntWalk.i64_in _ (by omega)
          have q4 : (0 : Int) ≤ (k : Int) := by omega
          have q5 : (k : Int) < (n : Int) := by omega
          have q6 : (k : Int) + 1 < (n : Int) := by omega
          have q7 : (0 : Int) ≤ (k : Int) + 1 := by omega
          have q8 : ((k : Int) + 1).toNat = k + 1 := by omega
          go_wp2_with fail
          go_region_held3 (fun w' => w'.cell? ⟨kb, 0, none⟩ = some (.string key) ∧ w'.cell? ⟨g, k + 1, none⟩ = some (.string x) ∧ w'.cell? ⟨g, k, none⟩ = some (.string y)) (first | exact ⟨hkr, cj, ck⟩ | exact ⟨kbelow hb4 (by exact hkbw) hkr, kbelow hb4 (by exact hgw) cj, kbelow hb4 (by exact hgw) ck⟩) ((go_at_call 19; refine (HC.out _ (by first | exact hkr | exact kdrew hkr)).mono ?_; rintro e w4 ⟨rfl, hb4⟩))
          rename_i hHeld
          have hk4 : Kept [] wr w4 := ((Kept.refl [] wr).drew).trans (Kept.of_below hb4 []) (fun x hx => .inl hx)
          have HR4 := Lib.hid (HR.out.kept hk4 (by simp))
          have HK4 := Lib.hid (HK.out.trans hk4 (fun x hx => by simp at hx))
          clear hb4 hk4 hkr cj ck HR HK HC hHeld d0 q1 q3
          cases hlt : klt key x y with
          | false =>
            rw [hlt] at hgl
            have HX2 := Lib.hid (ins_stop (klt_law key) HS.out hj (.inr (by show klt key (gi M (k + 1)) (gi M k) = false; rw [← HX.out, ← HY.out]; exact hlt)))
            clear hlt
            go_wp2_with fail
            go_roundw
            case rel => exact ⟨i + 1, M, by go_num, by omega, by omega, HP.out, HX2.out, HR4.out, HK4.out⟩
            case measure => simp [intOf]; omega
          | true =>
            rw [hlt] at hgl
            have hML : M.length = n := by rw [HP.out.length_eq, ← HN.out]
            have HX2 := Lib.hid (ins_step (klt_law key) HS.out hj (by omega) (by rw [← HX.out, ← HY.out]; exact hlt))
            have HP2 := Lib.hid ((sx_perm M (k + 1) k (by omega) (by omega)).trans HP.out)
            have HR5 : Hid (RowV ((w4.setCell ⟨g, k + 1, none⟩ (.string y)).setCell ⟨g, k, none⟩ (.string x)) g n (sv (sx M (k + 1) k))) := Lib.hid (by
              refine ((HR4.out.set (k + 1) (by omega) (.string y)).set k (by omega) (.string x)).congr fun q hq => ?_
              rw [HX.out, HY.out]
              exact sv_swap M (k + 1) k (by omega) (by omega) q)
            have HK5 : Hid (Kept [g] w ((w4.setCell ⟨g, k + 1, none⟩ (.string y)).setCell ⟨g, k, none⟩ (.string x))) := Lib.hid ((HK4.out.set _ (.inl (by simp)) _).set _ (.inl (by simp)) _)
            have cj := HR4.out.cell (j := k + 1) (by omega)
            have ck := HR4.out.cell (j := k) (by omega)
            have fj := HR4.out.free (j := k + 1) (by omega)
            have fk := HR4.out.free (j := k) (by omega)
            unfold sv at cj ck
            rw [← HX.out] at cj
            rw [← HY.out] at ck
            have hgw4 := HR4.out.1
            have q1 : IntKind.i64.wrap ((k : Int) + 1) = (k : Int) + 1 := IntWalk.i64_in _ (by omega)
            have q3 : IntKind.i64.wrap (k : Int) = (k : Int) := IntWalk.i64_in _ (by omega)
            clear hlt hML
            go_wp2_with fail
            go_region
            clear cj ck fj fk
            go_wp2_with fail
            go_roundw
            case rel => exact ⟨k, sx M (k + 1) k, rfl, by omega, HP2.out, HX2.out, HR5.out.kept ((Kept.refl [] _).drew) (by simp), HK5.out.drew⟩
            case measure => simp [intOf]
    · have hin : i = n := by omega
      subst hin
      have HD : Hid (Sd (klt key) M) := Lib.hid (Sd.of_to (by rw [HP.out.length_eq, ← HN.out]; exact HS.out))
      go_wp2_with fail
      try rw [Exit.noGoto_ret]
      go_returns
      exact ⟨rfl, M, HP.out, HD.out, HR.out, HK.out⟩
end Go.Proofs.Ytapokcjfhgbagaa
