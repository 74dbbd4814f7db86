/- merge.Twice; two sorted lists of the same are the same; awake. -/
import Derived.Test.YtplgcnlnhboneaaMergeAll2
namespace Go.Proofs.Ytplgcnlnhboneaa
open Go.ChangeShapes Go.WideShapes Go.ChangeAt Go.RowKit
set_option linter.unusedVariables false

theorem srt_unique : ∀ {X Y : List Du}, Srt X → Srt Y → X.Perm Y → X = Y
  | [], Y, _, _, h => (List.nil_perm.1 h).symm
  | x :: X, [], _, _, h => by have := h.length_eq; simp at this
  | x :: X, y :: Y, hx, hy, h => by
    have h1 := List.pairwise_cons.1 hx
    have h2 := List.pairwise_cons.1 hy
    have e : x = y := by
      have a1 : x ∈ y :: Y := h.mem_iff.1 (by simp)
      have a2 : y ∈ x :: X := h.mem_iff.2 (by simp)
      rcases List.mem_cons.1 a1 with b1 | b1
      · exact b1
      · rcases List.mem_cons.1 a2 with b2 | b2
        · exact b2.symm
        · exact nlt_antisymm (h1.1 y b2) (h2.1 x b1)
    subst e
    rw [srt_unique h1.2 h2.2 h.cons_inv]
/-- at how many of the first k + 1 places the same stands as ahead -/
def tw (L : List Du) : Nat → Nat
  | 0 => 0
  | k + 1 => tw L k + if ga L (k + 1) = ga L k then 1 else 0
theorem tw_le (L : List Du) (k : Nat) : tw L k ≤ k := by
  induction k with
  | zero => simp [tw]
  | succ k ih => simp only [tw]; split <;> omega
theorem tw_same {L : List Du} {k : Nat} (h : ga L (k + 1) = ga L k) : tw L (k + 1) = tw L k + 1 := by simp [tw, h]
theorem tw_other {L : List Du} {k : Nat} (h : ga L (k + 1) ≠ ga L k) : tw L (k + 1) = tw L k := by simp [tw, h]
set_option maxRecDepth 100000 in
set_option maxHeartbeats 4000000 in
theorem mtwice (p : Option Addr) (cap n : Nat) (L : List Du) (hn : n = L.length) (hl : n ≤ 1000) (w : World) (hs : Src w p n cap 3 (dl L)) : Calls Try.prog 8 #[.slice p n cap] w fun e w' => e = .returned (.int .i64 (tw L (n - 1) : Int)) ∧ ∃ q, w' = w.drewN q := by
  have HN := Lib.hid hn
  have HS := Lib.hid hs
  clear hn hs
  go_enter Try.func8, Try.ntmps8
  go_wp2_with fail
  go_loopw [3, 4] (fun nv iv wr => ∃ k q : Nat, iv = .int .i64 ((k : Int) + 1) ∧ nv = .int .i64 (tw L k : Int) ∧ k ≤ n - 1 ∧ wr = w.drewN q) (fun _ iv _ => n + 1 - (intOf iv).toNat)
  case atStart => exact ⟨0, 0, rfl, rfl, by omega, rfl⟩
  case round =>
    obtain ⟨k, q, rfl, rfl, hk, rfl⟩ := hrel
    by_cases hlt : k + 1 < n
    · obtain ⟨lb, off, rfl⟩ := HS.out.of_pos (by have := HS.out.fits; omega)
      have HSR := HS
      have hi0 : k < L.length := by have := HN.out; omega
      have hi1 : k + 1 < L.length := by have := HN.out; omega
      have y0 := HSR.out.at_ (k * 3) _ (by have := dl_get L k 0 hi0 (by omega); simpa [dc] using this)
      have y1 := HSR.out.at_ (k * 3 + 1) _ (by have := dl_get L k 1 hi0 (by omega); simpa [dc] using this)
      have y2 := HSR.out.at_ (k * 3 + 2) _ (by have := dl_get L k 2 hi0 (by omega); simpa [dc] using this)
      have z0 := HSR.out.at_ ((k + 1) * 3) _ (by have := dl_get L (k + 1) 0 hi1 (by omega); simpa [dc] using this)
      have z1 := HSR.out.at_ ((k + 1) * 3 + 1) _ (by have := dl_get L (k + 1) 1 hi1 (by omega); simpa [dc] using this)
      have z2 := HSR.out.at_ ((k + 1) * 3 + 2) _ (by have := dl_get L (k + 1) 2 hi1 (by omega); simpa [dc] using this)
      rw [← Nat.add_assoc] at y1 y2 z1 z2
      have q2 : (0 : Int) ≤ (k : Int) := by omega
      have q3 : (k : Int) < (n : Int) := by omega
      have q4 : (0 : Int) ≤ (k : Int) + 1 := by omega
      have q5 : (k : Int) + 1 < (n : Int) := by omega
      have q6 : ((k : Int) + 1).toNat = k + 1 := by omega
      have q7 : (k : Int) + 1 - 1 = (k : Int) := by omega
      have q8 : IntKind.i64.wrap (k : Int) = (k : Int) := IntWalk.i64_in _ (by omega)
      have htl := tw_le L k
      by_cases hd : ga L (k + 1) = ga L k
      · have e1 := due_eq_same (ga L k)
        have e2 := due_guard .eql (.inr rfl) (ga L k).st (ga L k).bl (ga L k).at_ (ga L k).st (ga L k).bl (ga L k).at_
        have HD := Lib.hid hd
        rw [hd] at z0 z1 z2
        clear hd
        go_wp2_with fail
        go_quiet (fail)
        go_wp2_with fail
        go_roundw
        case rel => exact ⟨k + 1, q + nq, by go_num, by rw [tw_same HD.out]; go_num, by omega, by first | rfl | exact World.drewN_drewN _ _ _⟩
        case measure => simp [intOf]; omega
      · have e1 := due_eq_not (ga L (k + 1)) (ga L k) hd
        have e2 := due_guard .eql (.inr rfl) (ga L (k + 1)).st (ga L (k + 1)).bl (ga L (k + 1)).at_ (ga L k).st (ga L k).bl (ga L k).at_
        have HD := Lib.hid hd
        clear hd
        go_wp2_with fail
        go_quiet (fail)
        go_wp2_with fail
        go_roundw
        case rel => exact ⟨k + 1, q + nq, by go_num, by rw [tw_other HD.out], by omega, by first | rfl | exact World.drewN_drewN _ _ _⟩
        case measure => simp [intOf]; omega
    · have hkn : k = n - 1 := by omega
      have d0 : decide ((k : Int) + 1 < (n : Int)) = false := by rw [decide_eq_false_iff_not]; omega
      go_wp2_with fail
      go_ret
      rw [← hkn]
      exact ⟨rfl, q, rfl⟩
end Go.Proofs.Ytplgcnlnhboneaa
