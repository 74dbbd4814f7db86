/- Contracts of lightshipref15: In, Same, Mark. -/
import Derived.Test.YtappolgfkioihaaWin3
namespace Go.Proofs.Ytappolgfkioihaa
open Go.ChangeShapes Go.WideShapes Go.ChangeAt Go.RowKit
set_option linter.unusedVariables false

theorem inL_at {L : List Nat} {i : Nat} (h : i < L.length) {x : Nat} (hx : L[i] = x) : inL L x = true := inL_iff.2 (hx ▸ List.getElem_mem h)
theorem inL_none {L : List Nat} {x : Nat} (h : ∀ j, (hj : j < L.length) → L[j] ≠ x) : inL L x = false := by
  rw [Bool.eq_false_iff]
  intro hm
  obtain ⟨j, hj, he⟩ := List.mem_iff_getElem.1 (inL_iff.1 hm)
  exact h j hj he
theorem rin_any (p : Option Addr) (cap : Nat) (L : List Nat) (x : Nat) (hx : x < 4294967296) (w : World) (hs : RU w p cap L) :
    Calls Try.prog 14 #[.slice p L.length cap, .int .u32 (x : Int)] w fun e w' => e = .returned (.bool (inL L x)) ∧ w = w' := by
  obtain ⟨n, hn⟩ : ∃ n, n = L.length := ⟨_, rfl⟩
  have hs := hs.src
  have hbig := hs.big
  unfold maxLen at hbig
  rw [← hn] at hs ⊢
  have HN := Lib.hid hn
  have HS := Lib.hid hs
  have hfit := hs.fits
  clear hn hs
  go_enter Try.func14, Try.ntmps14
  go_wp2_with fail
  go_loopw [5] (fun iv wr => ∃ i : Nat, iv = .int .i64 (i : Int) ∧ i ≤ n ∧ (∀ j, j < i → (hj : j < L.length) → L[j] ≠ x) ∧ wr = w) (fun iv _ => n - (intOf iv).toNat)
  case atStart => exact ⟨0, rfl, Nat.zero_le _, fun j hj => absurd hj (Nat.not_lt_zero _), rfl⟩
  case round =>
    obtain ⟨i, rfl, hin, hj, rfl⟩ := hrel
    have HJ := Lib.hid hj
    clear hj
    by_cases hlt : i < n
    · obtain ⟨lb, off, rfl⟩ := HS.out.of_pos (by omega)
      have hiL : i < L.length := by rw [← HN.out]; exact hlt
      have y0 := HS.out.at_ i _ (ul_at L i hiL)
      generalize hki : L[i] = ki at *
      have HKI := Lib.hid hki
      clear hki
      by_cases he : ki = x
      · subst he
        have hr : Hid (inL L ki = true) := Lib.hid (inL_at hiL HKI.out)
        go_wp2
        go_ret
        exact ⟨ret_bool hr.out.symm, rfl⟩
      · have b0 : ((ki : Int) == (x : Int)) = false := by rw [beq_eq_false_iff_ne]; omega
        go_wp2
        go_roundw
        case rel => exact ⟨i + 1, by go_num, by omega, fun j hj hjL => by
          rcases Nat.lt_or_ge j i with h | h
          · exact HJ.out j h hjL
          · obtain rfl : j = i := by omega
            rw [HKI.out]; exact he, by first | rfl | trivial⟩
        case measure => simp [intOf]; omega
    · have hr : Hid (inL L x = false) := Lib.hid (inL_none fun j hj => HJ.out j (by rw [← HN.out] at hj; omega) hj)
      go_wp2
      go_ret
      exact ⟨ret_bool hr.out.symm, rfl⟩
theorem same_iff {L M : List Nat} (hl : L.length = M.length) (h : ∀ j, (h1 : j < L.length) → (h2 : j < M.length) → L[j] = M[j]) : L = M := List.ext_getElem hl h
theorem rsame_any (p q : Option Addr) (cap cap2 : Nat) (L M : List Nat) (w : World) (hs : RU w p cap L) (hq : RU w q cap2 M) :
    Calls Try.prog 15 #[.slice p L.length cap, .slice q M.length cap2] w fun e w' => e = .returned (.bool (decide (L = M))) ∧ ∃ k, w' = w.drewN k := by
  have hs := hs.src
  have hq := hq.src
  have hbig := hs.big
  have hbig2 := hq.big
  have hfit := hs.fits
  have hfit2 := hq.fits
  unfold maxLen at hbig hbig2
  have HS := Lib.hid hs
  have HQ := Lib.hid hq
  clear hs hq
  obtain ⟨n, hn⟩ : ∃ n, n = L.length := ⟨_, rfl⟩
  obtain ⟨m, hm⟩ : ∃ m, m = M.length := ⟨_, rfl⟩
  rw [← hn] at HS hfit ⊢
  rw [← hm] at HQ hfit2 ⊢
  have HN := Lib.hid hn
  have HM := Lib.hid hm
  clear hn hm
  by_cases hl : n = m
  · subst hl
    have bn : ((n : Int) != (n : Int)) = false := by simp
    go_enter Try.func15, Try.ntmps15
    go_wp2_with fail
    go_loopw [5] (fun iv wr => ∃ i k : Nat, iv = .int .i64 (i : Int) ∧ i ≤ n ∧ (∀ j, j < i → (h1 : j < L.length) → (h2 : j < M.length) → L[j] = M[j]) ∧ wr = w.drewN k) (fun iv _ => n - (intOf iv).toNat)
    case atStart => exact ⟨0, 0, rfl, Nat.zero_le _, fun j hj => absurd hj (Nat.not_lt_zero _), rfl⟩
    case round =>
      obtain ⟨i, k, rfl, hin, hj, hwr⟩ := hrel
      have HJ := Lib.hid hj
      clear hj
      by_cases hlt : i < n
      · obtain ⟨lb, off, rfl⟩ := HS.out.of_pos (by omega)
        obtain ⟨lb2, off2, rfl⟩ := HQ.out.of_pos (by omega)
        have hiL : i < L.length := by rw [← HN.out]; exact hlt
        have hiM : i < M.length := by rw [← HM.out]; exact hlt
        have y0 : wr.cell? ⟨lb, off + i, none⟩ = some (.int .u32 (L[i] : Int)) := by rw [hwr]; exact HS.out.at_ i _ (ul_at L i hiL)
        have z0 : wr.cell? ⟨lb2, off2 + i, none⟩ = some (.int .u32 (M[i] : Int)) := by rw [hwr]; exact HQ.out.at_ i _ (ul_at M i hiM)
        have HWR := Lib.hid hwr
        clear hwr
        have q4 : (0 : Int) ≤ (i : Int) := by omega
        have q5 : (i : Int) < (n : Int) := by omega
        generalize hki : L[i] = ki at *
        have HKI := Lib.hid hki
        generalize hkm : M[i] = km at *
        have HKM := Lib.hid hkm
        clear hki hkm
        by_cases he : ki = km
        · subst he
          have b0 : ((ki : Int) != (ki : Int)) = false := by simp
          go_wp2
          go_quiet (fail)
          go_wp2
          go_roundw
          case rel => exact ⟨i + 1, k + nq, by go_num, by omega, fun j hj h1 h2 => by
            rcases Nat.lt_or_ge j i with h | h
            · exact HJ.out j h h1 h2
            · obtain rfl : j = i := by omega
              rw [HKI.out, HKM.out], by rw [HWR.out]; exact World.drewN_drewN ..⟩
          case measure => simp [intOf]; omega
        · have b0 : ((ki : Int) != (km : Int)) = true := by rw [bne_iff_ne]; omega
          have hr : Hid (decide (L = M) = false) := Lib.hid (by
            rw [decide_eq_false_iff_not]
            intro e
            subst e
            exact he (HKI.out.symm.trans HKM.out))
          go_wp2
          go_quiet (fail)
          go_wp2
          go_ret
          exact ⟨ret_bool hr.out.symm, k + nq, by rw [HWR.out]; exact World.drewN_drewN ..⟩
      · have hr : Hid (decide (L = M) = true) := Lib.hid (decide_eq_true (same_iff (by rw [← HN.out, ← HM.out]) fun j h1 h2 => HJ.out j (by rw [← HN.out] at h1; omega) h1 h2))
        go_wp2
        go_ret
        exact ⟨ret_bool hr.out.symm, k, by first | exact hwr | rfl⟩
  · have bn : ((n : Int) != (m : Int)) = true := by rw [bne_iff_ne]; omega
    have hr : Hid (decide (L = M) = false) := Lib.hid (by
      rw [decide_eq_false_iff_not]
      intro e
      subst e
      exact hl (HN.out.trans HM.out.symm))
    go_enter Try.func15, Try.ntmps15
    go_wp2
    go_ret
    exact ⟨ret_bool hr.out.symm, 0, rfl⟩
/-- where the answer's list may lie -/
def Near (W : World) (p p' : Option Addr) : Prop := ∀ a, p' = some a → W.heap.size ≤ a.block ∨ ∃ a0, p = some a0 ∧ a0.block = a.block
theorem Near.same (W : World) (p : Option Addr) : Near W p p := fun a ha => .inr ⟨a, ha, rfl⟩
def RWPost (W : World) (base n : Nat) (p : Option Addr) (L' : List Nat) (k : Int) (e : Ending) (w' : World) : Prop :=
  ∃ p' cap', e = .returned (.tuple #[.agg #[.int .u32 (base : Int), .int .i64 (n : Int), .slice p' L'.length cap'], .int .i64 k]) ∧ RU w' p' cap' L' ∧ Near W p p' ∧ Below W.heap.size W w'
theorem out3 {w : World} {b : Nat} {a0 a1 a2 : Value} {T : TypeId} (h : Blk w b #[a0, a1, a2] T) (u v z : Value) : Blk (((w.setCell ⟨b, 0, none⟩ u).setCell ⟨b, 1, none⟩ v).setCell ⟨b, 2, none⟩ z) b #[u, v, z] T :=
  ((h.set 0 u).set 1 v).set 2 z
end Go.Proofs.Ytappolgfkioihaa
