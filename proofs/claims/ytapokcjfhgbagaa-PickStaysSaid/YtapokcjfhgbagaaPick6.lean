/- lightshiplaw55: awake, few. -/
import Derived.Test.YtapokcjfhgbagaaPick5
namespace Go.Proofs.Ytapokcjfhgbagaa
open Go.ChangeShapes Go.WideShapes Go.ChangeAt Go.RowKit
set_option linter.unusedVariables false

def TruePost (W : World) (e : Ending) (w' : World) : Prop := e = .returned (.bool true) ∧ Below W.heap.size W w'
theorem rs_blk {w : World} {b n : Nat} {L : List ByteArray} {T : TypeId} (h : Blk w b (sl L).toArray T) (hn : n = L.length) (hb : n ≤ 1000) : RS w (some ⟨b, 0, none⟩) n L := by
  subst hn
  refine ⟨⟨by rw [sl_len]; omega, Nat.le_refl _, by unfold maxLen; omega, (fun h => nomatch h), (fun a ha => by injection ha with ha; subst ha; rfl), fun a ha j u hu => ?_⟩, fun a ha => by injection ha with ha; subst ha; exact h.lt⟩
  injection ha with ha; subst ha
  rw [add_plain, h.cell, Nat.zero_add]
  simpa using hu
def ka : ByteArray := ⟨#[97]⟩
def kk : ByteArray := ⟨#[107]⟩
def kl : ByteArray := ⟨#[108]⟩
theorem fit_a : Fit [ka] := Fit.of fun i hi => by obtain rfl : i = 0 := by simpa using hi
                                                  unfold maxLen; decide
theorem fit_kl : Fit [kk, kl] := Fit.of fun i hi => by
  have : i = 0 ∨ i = 1 := by simp at hi; omega
  unfold maxLen
  rcases this with rfl | rfl <;> decide
theorem kmin_a (k : ByteArray) : kmin k [ka] = ka := by simpa using (kmin_is k [ka] (by simp)).1
theorem cnt_a : cntTo [kk, kl] [ka] ka 2 = 2 := by simp [cntTo, kmin_a]
set_option maxRecDepth 100000 in
set_option maxHeartbeats 2000000 in
theorem awake_true (w : World) : Calls Try.prog 7 #[] w (TruePost w) := by
  have hk1 : kk.size ≤ maxLen := by unfold maxLen; decide
  go_enter Try.func7, Try.ntmps7
  go_wp2_with fail
  generalize hw1 : w.alloc _ = w1
  have hb1 : Below w.heap.size w w1 := by rw [← hw1]; exact (Below.refl _ _).alloc (Nat.le_refl _) _
  have hr1 : RS w1 (some ⟨w.heap.size, 0, none⟩) 1 [ka] := by rw [← hw1]; exact rs_blk (T := 9) (Blk.new _ _ _) rfl (by decide)
  clear hw1
  have HB1 := Lib.hid hb1
  have H1 := Lib.hid (of_is kk (some ⟨w.heap.size, 0, none⟩) 1 [ka] hk1 fit_a (by simp) (by simp) w1 hr1)
  rw [kmin_a] at H1
  clear hb1 hr1
  refine H1.out.mono ?_
  clear H1
  rintro e w2 ⟨rfl, hb2⟩
  have HB2 := Lib.hid (HB1.out.trans (hb2.mono HB1.out.size))
  clear hb2
  show _
  unfold ka
  go_wp2_with fail
  refine (of_none kk _ _ _).mono ?_
  rintro e w3 ⟨rfl, rfl⟩
  go_wp2_with fail
  generalize hw4 : (w3.alloc _).alloc _ = w4
  have hb4 : Below w3.heap.size w3 w4 := by rw [← hw4]; exact ((Below.refl _ _).alloc (Nat.le_refl _) _).alloc (by simp) _
  have hr4 : RS w4 (some ⟨w3.heap.size, 0, none⟩) 2 [kk, kl] := by rw [← hw4]; exact rs_blk (T := 9) ((Blk.new _ _ _).alloc _) rfl (by decide)
  have hr5 : RS w4 (some ⟨w3.heap.size + 1, 0, none⟩) 1 [ka] := by rw [← hw4]; exact rs_blk (T := 9) (Blk.new' (by simp)) rfl (by decide)
  have HB4 := Lib.hid (HB2.out.trans (hb4.mono HB2.out.size))
  have H4 := Lib.hid (share_is _ _ 2 1 [kk, kl] [ka] fit_kl fit_a (by simp) (by simp) (by simp) (by simp) w4 (fun _ => hr4) hr5)
  clear hw4 hb4 hr4 hr5
  refine H4.out.mono ?_
  clear H4
  rintro e w5 ⟨g, rfl, hrow, hgb, hb5⟩
  have HB5 := Lib.hid (HB4.out.trans (hb5.mono HB4.out.size))
  have cg := hrow.cell (j := 0) (by simp)
  unfold shareRow at cg
  rw [show gi [ka] 0 = ka from rfl, show List.length [kk, kl] = 2 from rfl, cnt_a] at cg
  have hg5 := hrow.1
  clear hrow hb5
  show _
  go_wp2_with fail
  refine (order_is kk none 0 [] hk1 (fun i => by simp [gi]; exact Nat.zero_le _) (by simp) w5 (RS.nil _)).mono ?_
  rintro e w6 ⟨p, c, M, rfl, hp, _, _, hb6⟩
  have hM : M.length = 0 := by rw [hp.length_eq]; rfl
  rw [hM]
  have HB6 := Lib.hid (HB5.out.trans (hb6.mono HB5.out.size))
  clear hp hb6 hM cg
  go_wp2_with fail
  go_ret
  exact ⟨rfl, HB6.out⟩
def fewB (L : List ByteArray) : Bool := decide (L.length ≤ 20 ∧ ∀ i, i < L.length → (gi L i).size ≤ 100)
theorem fewB_fit {L : List ByteArray} (h : fewB L = true) : L.length ≤ 20 ∧ Fit L := by
  unfold fewB at h
  rw [decide_eq_true_iff] at h
  exact ⟨h.1, Fit.of fun i hi => by have := h.2 i hi; unfold maxLen; omega⟩
set_option maxRecDepth 100000 in
theorem few_is (p : Option Addr) (cap : Nat) (L : List ByteArray) (hf : Fit L) (hfit : L.length ≤ cap) (hbig : cap ≤ maxLen) (w : World) (hs : 0 < L.length → RS w p cap L) :
    Calls Try.prog 6 #[.slice p L.length cap] w fun e w' => e = .returned (.bool (fewB L)) ∧ w = w' := by
  unfold maxLen at hbig
  obtain ⟨n, hn⟩ : ∃ n, n = L.length := ⟨_, rfl⟩
  rw [← hn] at hfit ⊢
  have HN := Lib.hid hn
  have HS := Lib.hid hs
  have HF := Lib.hid hf
  clear hs hn hf
  by_cases h20 : 20 < n
  · have hr : Hid (fewB L = false) := Lib.hid (by unfold fewB; rw [decide_eq_false_iff_not, ← HN.out]; omega)
    go_enter Try.func6, Try.ntmps6
    go_wp2_with fail
    go_ret
    exact ⟨ret_bool hr.out.symm, rfl⟩
  · go_enter Try.func6, Try.ntmps6
    go_wp2_with fail
    go_loopw [3] (fun iv wr => ∃ i : Nat, iv = .int .i64 (i : Int) ∧ i ≤ n ∧ (∀ j, j < i → (gi L j).size ≤ 100) ∧ wr = w) (fun iv _ => n - (intOf iv).toNat)
    case atStart => exact ⟨0, rfl, Nat.zero_le _, fun j hj => absurd hj (Nat.not_lt_zero _), rfl⟩
    case round =>
      obtain ⟨i, rfl, hi, hj, rfl⟩ := hrel
      have HJ := Lib.hid hj
      clear hj
      by_cases hin : i < n
      · have HS := Lib.hid (HS.out (by rw [← HN.out]; omega))
        obtain ⟨lb, off, rfl⟩ := HS.out.src.of_pos (by omega)
        have ci := (HS.out.src.at_ i _ (sl_at L i (by rw [← HN.out]; exact hin)))
        have hsx := HF.out i
        unfold maxLen at hsx
        have q1 : (0 : Int) ≤ (i : Int) := by omega
        have q2 : (i : Int) < (n : Int) := by omega
        obtain ⟨x, hx⟩ : ∃ x, x = gi L i := ⟨_, rfl⟩
        rw [← hx] at ci hsx
        have HX := Lib.hid hx
        clear hx
        by_cases h1 : 100 < x.size
        · have hr : Hid (fewB L = false) := Lib.hid (by
            unfold fewB; rw [decide_eq_false_iff_not]
            intro h
            have := h.2 i (by rw [← HN.out]; exact hin)
            rw [← HX.out] at this; omega)
          go_wp2_with fail
          go_ret
          exact ⟨ret_bool hr.out.symm, rfl⟩
        · go_wp2_with fail
          go_roundw
          case rel => exact ⟨i + 1, by go_num, by omega, fun j hj => by (rcases Nat.lt_or_ge j i with h | h); exact HJ.out j h; (obtain rfl : j = i := by omega); rw [← HX.out]; omega, by first | rfl | trivial⟩
          case measure => simp [intOf]; omega
      · have hr : Hid (fewB L = true) := Lib.hid (by unfold fewB; rw [decide_eq_true_iff, ← HN.out]; exact ⟨by omega, fun j hj => HJ.out j (by omega)⟩)
        go_wp2_with fail
        go_ret
        exact ⟨ret_bool hr.out.symm, rfl⟩
set_option maxRecDepth 100000 in
theorem ahead_is (key a b : ByteArray) (h1 : key.size ≤ maxLen) (h2 : a.size ≤ maxLen) (h3 : b.size ≤ maxLen) (w : World) :
    Calls Try.prog 13 #[.string key, .string a, .string b] w fun e w' => e = .returned (.bool (klt key a b)) ∧ w = w' := by
  unfold klt tlt
  generalize hsa : ksum a key = sa
  generalize hsb : ksum b key = sb
  have H1 : ∀ w, Calls Try.prog 18 #[.string a, .string key] w fun e w' => e = .returned (.int .u64 sa) ∧ w = w' := by intro w; rw [← hsa]; exact ksum_any a key h2 h1 w
  have H2 : ∀ w, Calls Try.prog 18 #[.string b, .string key] w fun e w' => e = .returned (.int .u64 sb) ∧ w = w' := by intro w; rw [← hsb]; exact ksum_any b key h3 h1 w
  have G1 := Lib.hid H1
  have G2 := Lib.hid H2
  generalize hl : Op.bytesLess a.toList b.toList = l
  have HL := Lib.hid hl
  clear H1 H2 hsa hsb
  by_cases he : sa = sb
  · subst he
    rw [if_pos rfl]
    have e1 : decide (sa > sa) = false := by simp
    go_enter Try.func13, Try.ntmps13
    go_wp2_with fail
    refine (G1.out _).mono ?_
    rintro e w1 ⟨rfl, rfl⟩
    go_wp2_with fail
    refine (G2.out _).mono ?_
    rintro e w1 ⟨rfl, rfl⟩
    go_wp2_with fail
    try go_quiet (fail)
    try go_wp2_with fail
    go_ret
    exact ⟨ret_bool (by simp), rfl⟩
  · rw [if_neg he]
    by_cases hg : sb < sa
    · rw [decide_eq_true hg]
      go_enter Try.func13, Try.ntmps13
      go_wp2_with fail
      refine (G1.out _).mono ?_
      rintro e w1 ⟨rfl, rfl⟩
      go_wp2_with fail
      refine (G2.out _).mono ?_
      rintro e w1 ⟨rfl, rfl⟩
      go_wp2_with fail
      try go_quiet (fail)
      try go_wp2_with fail
      go_ret
      exact ⟨rfl, rfl⟩
    · rw [decide_eq_false hg]
      have e1 : (sa == sb) = false := by rw [beq_eq_false_iff_ne]; exact he
      go_enter Try.func13, Try.ntmps13
      go_wp2_with fail
      refine (G1.out _).mono ?_
      rintro e w1 ⟨rfl, rfl⟩
      go_wp2_with fail
      refine (G2.out _).mono ?_
      rintro e w1 ⟨rfl, rfl⟩
      go_wp2_with fail
      try go_quiet (fail)
      try go_wp2_with fail
      go_ret
      exact ⟨ret_bool (decide_eq_false (by omega)), rfl⟩
end Go.Proofs.Ytapokcjfhgbagaa
