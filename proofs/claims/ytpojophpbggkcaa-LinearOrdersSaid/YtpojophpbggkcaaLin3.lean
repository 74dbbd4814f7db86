/- slices.SortStableFunc of at most 20 places (insertion alone), by the closure of linear.Order. -/
import Derived.Test.YtpojophpbggkcaaLin2
import Derived.Deep.RegionLaw
namespace Go.Proofs.Ytpojophpbggkcaa
open Go.ChangeShapes Go.WideShapes Go.ChangeAt Go.RowKit
set_option linter.unusedVariables false

/-- does place a stand ahead of place b -/
def elt (E : Nat → Ev) (a b : Nat) : Bool := decide (whenE (E a) < whenE (E b) ∨ whenE (E a) = whenE (E b) ∧ (rankE (E a) < rankE (E b) ∨ rankE (E a) = rankE (E b) ∧ a < b))
theorem elt_iff (E : Nat → Ev) (a b : Nat) : elt E a b = true ↔ (whenE (E a) < whenE (E b) ∨ whenE (E a) = whenE (E b) ∧ (rankE (E a) < rankE (E b) ∨ rankE (E a) = rankE (E b) ∧ a < b)) := by unfold elt; rw [decide_eq_true_iff]
theorem elt_niff (E : Nat → Ev) (a b : Nat) : elt E a b = false ↔ ¬ (whenE (E a) < whenE (E b) ∨ whenE (E a) = whenE (E b) ∧ (rankE (E a) < rankE (E b) ∨ rankE (E a) = rankE (E b) ∧ a < b)) := by unfold elt; rw [decide_eq_false_iff_not]
theorem elt_law (E : Nat → Ev) : LtLaw (elt E) where
  irr x := by rw [elt_niff]; omega
  ntr x y z h k := by rw [elt_niff] at *; omega
  nas x y h := by rw [elt_iff] at h; rw [elt_niff]; omega
theorem elt_tot (E : Nat → Ev) (x y : Nat) (h : elt E x y = false) (k : elt E y x = false) : x = y := by rw [elt_niff] at *; omega
theorem cmpI_neg (a b : Int) : cmpI a b < 0 ↔ a < b := by unfold cmpI; split; omega; split <;> omega
theorem cmpI_zero (a b : Int) : cmpI a b = 0 ↔ a = b := by unfold cmpI; split; omega; split <;> omega
theorem cmpE_dec (E : Nat → Ev) (a b : Nat) (h : b < a) : decide (cmpE (E a) (E b) < 0) = elt E a b := by
  rw [Bool.eq_iff_iff, decide_eq_true_iff, elt_iff]
  unfold cmpE orI
  have h1 := cmpI_neg (whenE (E a)) (whenE (E b))
  have h2 := cmpI_zero (whenE (E a)) (whenE (E b))
  have h3 := cmpI_neg (rankE (E a)) (rankE (E b))
  split
  · rename_i h4; rw [Ne, h2] at h4; rw [h1]; omega
  · rename_i h4
    have h5 := h2.1 (by simpa using h4)
    rw [h3]; omega
def iv (L : List Nat) (j : Nat) : Value := .int .i64 ((gi L j : Nat) : Int)
theorem iv_swap (L : List Nat) (i j : Nat) (hi : i < L.length) (hj : j < L.length) (k : Nat) : upd (upd (iv L) i (iv L j)) j (iv L i) k = iv (sx L i j) k := by
  unfold upd iv
  rw [gi_sx L i j k hi hj]
  by_cases h1 : k = j
  · rw [if_pos h1, if_pos h1]
  · rw [if_neg h1, if_neg h1]
    by_cases h2 : k = i
    · rw [if_pos h2, if_pos h2]
    · rw [if_neg h2, if_neg h2]
theorem ins_none (p : Option Addr) (n cap : Nat) (fv : Value) (a b : Nat) (ha : a ≤ 1000) (hb : b ≤ a + 1) (w : World) :
    Calls Try.prog 38 #[.slice p n cap, .int .i64 (a : Int), .int .i64 (b : Int), fv] w fun e w' => e = .returned (.tuple #[]) ∧ w' = w := by
  go_enter Try.func38, Try.ntmps38
  go_wp2_with fail
  go_loopw [8] (fun iv wr => iv = .int .i64 ((a : Int) + 1) ∧ wr = w) (fun iv _ => 0)
  case atStart => exact ⟨rfl, rfl⟩
  case round =>
    obtain ⟨rfl, rfl⟩ := hrel
    go_wp2_with fail
    try rw [Exit.noGoto_ret]
    go_returns
    exact ⟨rfl, rfl⟩
/-- the places in order -/
def Sorted (E : Nat → Ev) (n : Nat) (M : List Nat) : Prop := M.Perm (List.range n) ∧ Sd (elt E) M
theorem Sorted.len {E : Nat → Ev} {n : Nat} {M : List Nat} (h : Sorted E n M) : M.length = n := by rw [h.1.length_eq, List.length_range]
theorem Sorted.lt {E : Nat → Ev} {n : Nat} {M : List Nat} (h : Sorted E n M) (i : Nat) (hi : i < n) : gi M i < n := by
  rw [gi_at M i (by rw [h.len]; exact hi)]
  exact List.mem_range.1 (h.1.mem_iff.1 (List.getElem_mem _))
theorem Sorted.eq {E : Nat → Ev} {n : Nat} {M M' : List Nat} (h : Sorted E n M) (h' : Sorted E n M') : M = M' :=
  sd_unique (elt_tot E) h.2 h'.2 (h.1.trans h'.1.symm)
def SortPost (W : World) (g n : Nat) (E : Nat → Ev) (e : Ending) (w' : World) : Prop :=
  e = .returned (.tuple #[]) ∧ ∃ M : List Nat, Sorted E n M ∧ RowV w' g n (iv M) ∧ Kept [g] W w'
/-- behind i steps: those from i on lie as they lay -/
def Rest (M : List Nat) (i n : Nat) : Prop := M.length = n ∧ (∀ q, i ≤ q → q < n → gi M q = q) ∧ ∀ q, q < i → gi M q < i
/-- within step i: place i has come to j -/
def RestJ (M : List Nat) (i j n : Nat) : Prop := M.length = n ∧ gi M j = i ∧ (∀ q, i < q → q < n → gi M q = q) ∧ ∀ q, q ≤ i → q ≠ j → gi M q < i
theorem rest_start (n : Nat) (hn : 1 ≤ n) : Rest (List.range n) 1 n := by
  have g : ∀ q, q < n → gi (List.range n) q = q := fun q hq => by rw [gi_at _ _ (by simpa using hq)]; simp
  exact ⟨by simp, fun q _ hq => g q hq, fun q hq => by rw [g q (by omega)]; exact hq⟩
theorem rest_in {M : List Nat} {i n : Nat} (h : Rest M i n) (hi : i < n) : RestJ M i i n := ⟨h.1, h.2.1 i (Nat.le_refl _) hi, fun q h1 h2 => h.2.1 q (by omega) h2, fun q h1 h2 => h.2.2 q (by omega)⟩
theorem rest_out {M : List Nat} {i j n : Nat} (h : RestJ M i j n) : Rest M (i + 1) n := ⟨h.1, fun q h1 h2 => h.2.2.1 q (by omega) h2, fun q hq => by
  by_cases e : q = j
  · subst e; rw [h.2.1]; omega
  · have := h.2.2.2 q (by omega) e; omega⟩
theorem rest_step {M : List Nat} {i k n : Nat} (h : RestJ M i (k + 1) n) (hk : k + 1 ≤ i) (hi : i < n) : RestJ (sx M (k + 1) k) i k n := by
  have g := fun q => gi_sx M (k + 1) k q (by have := h.1; omega) (by have := h.1; omega)
  refine ⟨by rw [sx_len]; exact h.1, by rw [g, if_pos rfl]; exact h.2.1, fun q h1 h2 => by rw [g, if_neg (by omega), if_neg (by omega)]; exact h.2.2.1 q h1 h2, fun q h1 h2 => ?_⟩
  rw [g, if_neg h2]
  by_cases e : q = k + 1
  · rw [if_pos e]; exact h.2.2.2 k (by omega) (by omega)
  · rw [if_neg e]; exact h.2.2.2 q h1 e
set_option maxRecDepth 100000 in
set_option maxHeartbeats 4000000 in
theorem ins_sort (E : Nat → Ev) (lb bl off ecap g n cap : Nat) (hn1 : 1 ≤ n) (hn2 : n ≤ 20) (hnc : n ≤ cap) (hcm : cap ≤ maxLen) (hgk : lb ≠ g) (hgb : bl ≠ g) (w : World) (hlb : lb < w.heap.size) (hl : w.cell? ⟨lb, 0, none⟩ = some (.slice (some ⟨bl, off, none⟩) n ecap)) (hes : ES w bl off n E) (hr : RowV w g n (iv (List.range n))) :
    Calls Try.prog 38 #[.slice (some ⟨g, 0, none⟩) n cap, .int .i64 0, .int .i64 (n : Int), .func (.func 14) #[] #[.pointer (some ⟨lb, 0, none⟩)]] w (SortPost w g n E) := by
  have HC := Lib.hid (fun (w' : World) (hb : Kept [g] w w') (i k : Nat) (hi : i < n) (hk : k < n) => ord_fn lb bl off n ecap E i k hi hk w' (Nat.lt_of_lt_of_le hlb hb.size) (hb.cell hl (by simpa using hgk)) (hes.kept hb (by simpa using hgb)))
  have HR0 := Lib.hid hr
  unfold maxLen at hcm
  clear hl hr hes
  go_enter Try.func38, Try.ntmps38
  go_wp2_with fail
  go_loopw [8] (fun iv' wr => ∃ (i : Nat) (M : List Nat), iv' = .int .i64 (i : Int) ∧ 1 ≤ i ∧ i ≤ n ∧ M.Perm (List.range n) ∧ SrtTo (elt E) M i ∧ Rest M i n ∧ RowV wr g n (iv M) ∧ Kept [g] w wr) (fun iv' _ => n - (intOf iv').toNat)
  case atStart => exact ⟨1, _, rfl, by omega, by omega, List.Perm.refl _, fun p q h1 h2 => by omega, rest_start n hn1, HR0.out, Kept.refl _ _⟩
  case round =>
    obtain ⟨i, M, rfl, hi1, hi2, hp, hs, ht, hr, hkp⟩ := hrel
    have HP := Lib.hid hp
    have HS := Lib.hid hs
    have HT := Lib.hid ht
    have HR := Lib.hid hr
    have HK := Lib.hid hkp
    clear hp hs hr hkp ht
    by_cases hi : i < n
    · go_wp2_with fail
      obtain ⟨wo, hwo⟩ : ∃ wo, wo = wr := ⟨_, rfl⟩
      go_loopw [9] (fun jv wr => ∃ (j : Nat) (M : List Nat), jv = .int .i64 (j : Int) ∧ j ≤ i ∧ M.Perm (List.range n) ∧ InsInv (elt E) M i j ∧ RestJ M i j n ∧ RowV wr g n (iv M) ∧ Kept [g] w wr) (fun jv _ => (intOf jv).toNat)
      case atStart => exact ⟨i, M, rfl, Nat.le_refl _, HP.out, ins_start HS.out, rest_in HT.out hi, HR.out, HK.out⟩
      case round =>
        clear HP HS HR HK HT hwo
        obtain ⟨j, M, rfl, hj, hp, hs, ht, hr, hkp⟩ := hrel
        have HP := Lib.hid hp
        have HS := Lib.hid hs
        have HT := Lib.hid ht
        have HR := Lib.hid hr
        have HK := Lib.hid hkp
        clear hp hs hr hkp ht
        by_cases hj0 : j = 0
        · subst hj0
          have q0 : decide ((0 : Int) < ((0 : Nat) : Int)) = false := by simp
          have HX := Lib.hid (ins_stop (elt_law E) HS.out (Nat.zero_le _) (.inl rfl))
          go_wp2_with fail
          go_quiet (fail)
          go_wp2_with fail
          go_roundw
          case rel => exact ⟨i + 1, M, by go_num, by omega, by omega, HP.out, HX.out, rest_out HT.out, HR.out.kept ((Kept.refl [] _).drewN _) (by simp), HK.out.drewN _⟩
          case measure => simp [intOf]; omega
        · obtain ⟨k, rfl⟩ : ∃ k, j = k + 1 := ⟨j - 1, by omega⟩
          have cj := HR.out.cell (j := k + 1) (by omega)
          have ck := HR.out.cell (j := k) (by omega)
          unfold iv at cj ck
          have hxi : gi M (k + 1) = i := HT.out.2.1
          have hyi : gi M k < i := HT.out.2.2.2 k (by omega) (by omega)
          have hgl := cmpE_dec E (gi M (k + 1)) (gi M k) (by omega)
          have HC2 := Lib.hid (fun w' hk => HC.out w' hk (gi M (k + 1)) (gi M k) (by omega) (by omega))
          generalize cmpE (E (gi M (k + 1))) (E (gi M k)) = r at *
          clear hxi
          obtain ⟨x, hx⟩ : ∃ x, x = gi M (k + 1) := ⟨_, rfl⟩
          obtain ⟨y, hy⟩ : ∃ y, y = gi M k := ⟨_, rfl⟩
          rw [← hx] at cj hgl HC2
          rw [← hy] at ck hgl HC2
          have HX := Lib.hid hx
          have HY := Lib.hid hy
          clear hx hy hyi
          have hgw := HR.out.1
          have d0 : decide ((0 : Int) < (k : Int) + 1) = true := by rw [decide_eq_true_iff]; omega
          have q1 : IntKind.i64.wrap ((k : Int) + 1) = (k : Int) + 1 := IntWalk.i64_in _ (by omega)
          have q2 : (k : Int) + 1 - 1 = (k : Int) := by omega
          have q3 : IntKind.i64.wrap (k : Int) = (k : Int) := IntWalk.i64_in _ (by omega)
          have q4 : (0 : Int) ≤ (k : Int) := by omega
          have q5 : (k : Int) < (n : Int) := by omega
          have q6 : (k : Int) + 1 < (n : Int) := by omega
          have q7 : (0 : Int) ≤ (k : Int) + 1 := by omega
          have q8 : ((k : Int) + 1).toNat = k + 1 := by omega
          have HKr : Hid (Kept [g] w wr) := HK
          go_wp2_with fail
          go_region_held3 (fun w' => Below wr.heap.size wr w' ∧ w'.cell? ⟨g, k + 1, none⟩ = some (.int .i64 (x : Int)) ∧ w'.cell? ⟨g, k, none⟩ = some (.int .i64 (y : Int))) (first | exact ⟨Below.refl _ _, cj, ck⟩ | exact ⟨(Below.refl _ _).drew, cj, ck⟩ | exact ⟨bel_next (by exact (Below.refl _ _).drew) hb4, kbel hb4 (by exact cj), kbel hb4 (by exact ck)⟩) ((go_at_call 14; refine (HC2.out _ (by exact HK.out.drew)).mono ?_; rintro e w4 ⟨rfl, hb4⟩))
          rename_i hHeld
          have HR4 := Lib.hid (HR.out.kept (Kept.of_below hHeld.1 []) (by simp))
          have HK4 := Lib.hid (HK.out.trans (Kept.of_below hHeld.1 []) (fun x hx => by simp at hx))
          clear hb4 cj ck HR HK HKr HC HC2 hHeld d0 q1 q3
          cases hlt : elt E x y with
          | false =>
            rw [hlt] at hgl
            have HX2 := Lib.hid (ins_stop (elt_law E) HS.out hj (.inr (by show elt E (gi M (k + 1)) (gi M k) = false; rw [← HX.out, ← HY.out]; exact hlt)))
            clear hlt
            go_wp2_with fail
            go_roundw
            case rel => exact ⟨i + 1, M, by go_num, by omega, by omega, HP.out, HX2.out, rest_out HT.out, HR4.out, HK4.out⟩
            case measure => simp [intOf]; omega
          | true =>
            rw [hlt] at hgl
            have hML : M.length = n := HT.out.1
            have HX2 := Lib.hid (ins_step (elt_law E) HS.out hj (by omega) (by rw [← HX.out, ← HY.out]; exact hlt))
            have HT2 := Lib.hid (rest_step HT.out hj hi)
            have HP2 := Lib.hid ((sx_perm M (k + 1) k (by omega) (by omega)).trans HP.out)
            have HR5 : Hid (RowV ((w4.setCell ⟨g, k + 1, none⟩ (.int .i64 (y : Int))).setCell ⟨g, k, none⟩ (.int .i64 (x : Int))) g n (iv (sx M (k + 1) k))) := Lib.hid (by
              refine ((HR4.out.set (k + 1) (by omega) (.int .i64 (y : Int))).set k (by omega) (.int .i64 (x : Int))).congr fun q hq => ?_
              rw [HX.out, HY.out]
              exact iv_swap M (k + 1) k (by omega) (by omega) q)
            have HK5 : Hid (Kept [g] w ((w4.setCell ⟨g, k + 1, none⟩ (.int .i64 (y : Int))).setCell ⟨g, k, none⟩ (.int .i64 (x : Int)))) := Lib.hid ((HK4.out.set _ (.inl (by simp)) _).set _ (.inl (by simp)) _)
            have cj := HR4.out.cell (j := k + 1) (by omega)
            have ck := HR4.out.cell (j := k) (by omega)
            have fj := HR4.out.free (j := k + 1) (by omega)
            have fk := HR4.out.free (j := k) (by omega)
            unfold iv at cj ck
            rw [← HX.out] at cj
            rw [← HY.out] at ck
            have hgw4 := HR4.out.1
            have q1 : IntKind.i64.wrap ((k : Int) + 1) = (k : Int) + 1 := IntWalk.i64_in _ (by omega)
            have q3 : IntKind.i64.wrap (k : Int) = (k : Int) := IntWalk.i64_in _ (by omega)
            clear hlt hML
            go_wp2_with fail
            go_region
            clear cj ck fj fk
            go_wp2_with fail
            go_roundw
            case rel => exact ⟨k, sx M (k + 1) k, rfl, by omega, HP2.out, HX2.out, HT2.out, HR5.out.kept ((Kept.refl [] _).drew) (by simp), HK5.out.drew⟩
            case measure => simp [intOf]
    · have hin : i = n := by omega
      subst hin
      have HD : Hid (Sd (elt E) M) := Lib.hid (Sd.of_to (by rw [HP.out.length_eq, List.length_range]; exact HS.out))
      go_wp2_with fail
      try rw [Exit.noGoto_ret]
      go_returns
      exact ⟨rfl, M, ⟨HP.out, HD.out⟩, HR.out, HK.out⟩
end Go.Proofs.Ytpojophpbggkcaa
