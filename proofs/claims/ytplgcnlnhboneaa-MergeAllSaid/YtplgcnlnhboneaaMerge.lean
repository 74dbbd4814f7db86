/- Contracts of package merge: less, rises; lightshipref13.Same. -/
import Derived.Test.YtplgcnlnhboneaaHeapS
namespace Go.Proofs.Ytplgcnlnhboneaa
open Go.ChangeShapes Go.WideShapes Go.ChangeAt Go.RowKit
set_option linter.unusedVariables false

theorem mless (x y : Du) (w : World) : Calls Try.prog 14 #[dv x, dv y] w (LessPost w (x.lt y)) := by
  obtain ⟨a, b, c⟩ := x
  obtain ⟨a', b', c'⟩ := y
  show Calls Try.prog 14 #[.agg #[.int .i64 a, .int .u32 b, .int .i64 c], .agg #[.int .i64 a', .int .u32 b', .int .i64 c']] w _
  by_cases h1 : c = c'
  · subst h1
    by_cases h2 : a = a'
    · subst h2
      have hr : Hid (Du.lt ⟨a, b, c⟩ ⟨a, b', c⟩ = decide (b < b')) := Lib.hid (by simp [Du.lt])
      go_enter Try.func14, Try.ntmps14
      go_wp2
      go_ret
      exact ⟨ret_bool hr.out.symm, by go_grown⟩
    · have q2 : (a != a') = true := by simp [h2]
      have hr : Hid (Du.lt ⟨a, b, c⟩ ⟨a', b', c⟩ = decide (a < a')) := Lib.hid (by simp [Du.lt, h2])
      go_enter Try.func14, Try.ntmps14
      go_wp2
      go_ret
      exact ⟨ret_bool hr.out.symm, by go_grown⟩
  · have q1 : (c != c') = true := by simp [h1]
    have hr : Hid (Du.lt ⟨a, b, c⟩ ⟨a', b', c'⟩ = decide (c < c')) := Lib.hid (by simp [Du.lt, h1])
    go_enter Try.func14, Try.ntmps14
    go_wp2
    go_ret
    exact ⟨ret_bool hr.out.symm, by go_grown⟩
theorem lless58 (x y : Du) (w : World) : Calls Try.prog 5 #[dv x, dv y] w (LessPost w (x.lt y)) := by
  obtain ⟨a, b, c⟩ := x
  obtain ⟨a', b', c'⟩ := y
  show Calls Try.prog 5 #[.agg #[.int .i64 a, .int .u32 b, .int .i64 c], .agg #[.int .i64 a', .int .u32 b', .int .i64 c']] w _
  by_cases h1 : c = c'
  · subst h1
    by_cases h2 : a = a'
    · subst h2
      have hr : Hid (Du.lt ⟨a, b, c⟩ ⟨a, b', c⟩ = decide (b < b')) := Lib.hid (by simp [Du.lt])
      go_enter Try.func5, Try.ntmps5
      go_wp2
      go_ret
      exact ⟨ret_bool hr.out.symm, by go_grown⟩
    · have q2 : (a != a') = true := by simp [h2]
      have hr : Hid (Du.lt ⟨a, b, c⟩ ⟨a', b', c⟩ = decide (a < a')) := Lib.hid (by simp [Du.lt, h2])
      go_enter Try.func5, Try.ntmps5
      go_wp2
      go_ret
      exact ⟨ret_bool hr.out.symm, by go_grown⟩
  · have q1 : (c != c') = true := by simp [h1]
    have hr : Hid (Du.lt ⟨a, b, c⟩ ⟨a', b', c'⟩ = decide (c < c')) := Lib.hid (by simp [Du.lt, h1])
    go_enter Try.func5, Try.ntmps5
    go_wp2
    go_ret
    exact ⟨ret_bool hr.out.symm, by go_grown⟩
set_option maxRecDepth 100000 in
set_option maxHeartbeats 4000000 in
theorem same_true (p1 p2 : Option Addr) (c1 c2 n : Nat) (X : List Du) (hn : n = X.length) (hX : X.length ≤ 1000) (w : World) (h1 : Src w p1 X.length c1 3 (dl X)) (h2 : Src w p2 X.length c2 3 (dl X)) :
    Calls Try.prog 7 #[.slice p1 n c1, .slice p2 n c2] w fun e w' => e = .returned (.bool true) ∧ ∃ q, w' = w.drewN q := by
  have HN := Lib.hid hn
  have H1 := Lib.hid h1
  have H2 := Lib.hid h2
  have hn1 : n ≤ 1000 := by omega
  clear hn h1 h2 hX
  go_enter Try.func7, Try.ntmps7
  go_wp2_with fail
  go_loopw [5] (fun iv wr => ∃ i q : Nat, iv = .int .i64 (i : Int) ∧ i ≤ n ∧ wr = w.drewN q) (fun iv _ => n - (intOf iv).toNat)
  case atStart => exact ⟨0, 0, rfl, Nat.zero_le _, rfl⟩
  case round =>
    obtain ⟨i, q, rfl, hin, rfl⟩ := hrel
    by_cases hi : i < n
    · have hiX : i < X.length := by have := HN.out; omega
      obtain ⟨b1, o1, rfl⟩ := H1.out.of_pos (by have := H1.out.fits; omega)
      obtain ⟨b2, o2, rfl⟩ := H2.out.of_pos (by have := H2.out.fits; omega)
      have x0 := H1.out.at_ (i * 3) _ (by have := dl_get X i 0 hiX (by omega); simpa [dc] using this)
      have x1 := H1.out.at_ (i * 3 + 1) _ (by have := dl_get X i 1 hiX (by omega); simpa [dc] using this)
      have x2 := H1.out.at_ (i * 3 + 2) _ (by have := dl_get X i 2 hiX (by omega); simpa [dc] using this)
      have y0 := H2.out.at_ (i * 3) _ (by have := dl_get X i 0 hiX (by omega); simpa [dc] using this)
      have y1 := H2.out.at_ (i * 3 + 1) _ (by have := dl_get X i 1 hiX (by omega); simpa [dc] using this)
      have y2 := H2.out.at_ (i * 3 + 2) _ (by have := dl_get X i 2 hiX (by omega); simpa [dc] using this)
      rw [← Nat.add_assoc] at x1 x2 y1 y2
      have q1 := due_neq_same (ga X i)
      have q2 := due_guard .neq (.inl rfl) (ga X i).st (ga X i).bl (ga X i).at_ (ga X i).st (ga X i).bl (ga X i).at_
      have q4 : (0 : Int) ≤ (i : Int) := by omega
      have q5 : (i : Int) < (n : Int) := by omega
      go_wp2_with fail
      go_quiet (fail)
      go_wp2_with fail
      go_roundw
      case rel => exact ⟨i + 1, q + nq, by go_num, by omega, by first | rfl | exact World.drewN_drewN _ _ _⟩
      case measure => simp [intOf]; omega
    · have hin2 : i = n := by omega
      subst hin2
      go_wp2_with fail
      go_ret
      exact ⟨rfl, q, rfl⟩
def risB (L : List Du) (k : Nat) : Prop := ∀ i, i + 1 < L.length → i < k → (ga L (i + 1)).lt (ga L i) = false
def RisPost (W : World) (L : List Du) (e : Ending) (w' : World) : Prop := ∃ r, e = .returned (.bool r) ∧ (r = true ↔ risB L L.length) ∧ Below W.heap.size W w'
theorem ris_srt {L : List Du} (h : risB L L.length) : Srt L := by
  unfold Srt
  rw [List.pairwise_iff_getElem]
  intro i j hi hj hij
  have key : ∀ d, i + d < L.length → (ga L (i + d)).lt (ga L i) = false := by
    intro d
    induction d with
    | zero => intro _; exact nlt_self _
    | succ d ih => intro hd; exact nlt_trans (ih (by omega)) (h (i + d) (by omega) (by omega))
  have := key (j - i) (by omega)
  rw [show i + (j - i) = j by omega, ga_at L j hj, ga_at L i hi] at this
  exact this
theorem srt_ris {L : List Du} (h : Srt L) : risB L L.length := by
  intro i hi _
  unfold Srt at h
  rw [List.pairwise_iff_getElem] at h
  rw [ga_at L (i + 1) hi, ga_at L i (by omega)]
  exact h i (i + 1) (by omega) hi (by omega)
set_option maxRecDepth 100000 in
set_option maxHeartbeats 4000000 in
theorem mrises (p : Option Addr) (cap : Nat) (L : List Du) (w : World) (hs : Src w p L.length cap 3 (dl L)) (hpb : ∀ a, p = some a → a.block < w.heap.size) : Calls Try.prog 9 #[.slice p L.length cap] w (RisPost w L) := by
  obtain ⟨n, hn⟩ : ∃ n, n = L.length := ⟨_, rfl⟩
  rw [← hn] at hs ⊢
  have HN := Lib.hid hn
  clear hn
  have hcap := hs.fits
  have hmax := hs.big
  unfold maxLen at hmax
  have HS := Lib.hid hs
  clear hs
  go_enter Try.func9, Try.ntmps9
  go_wp2_with fail
  go_loopw [7] (fun iv wr => ∃ i : Nat, iv = .int .i64 (i : Int) ∧ (i : Int) ≤ max 0 ((n : Int) - 1) ∧ risB L i ∧ Below w.heap.size w wr) (fun iv _ => n - (intOf iv).toNat)
  case atStart => exact ⟨0, rfl, by omega, fun j _ hj => absurd hj (Nat.not_lt_zero _), Below.refl _ _⟩
  case round =>
    obtain ⟨i, rfl, hin, hj, hb⟩ := hrel
    have HJ := Lib.hid hj
    have HSR := Lib.hid (HS.out.below hb hpb)
    have hszr := hb.size
    clear hj
    by_cases hlt : (i : Int) < (n : Int) - 1
    · obtain ⟨lb, off, rfl⟩ := HSR.out.of_pos (by omega)
      have hi0 : i < L.length := by have := HN.out; omega
      have hi1 : i + 1 < L.length := by have := HN.out; omega
      have y0 := HSR.out.at_ (i * 3) _ (by have := dl_get L i 0 hi0 (by omega); simpa [dc] using this)
      have y1 := HSR.out.at_ (i * 3 + 1) _ (by have := dl_get L i 1 hi0 (by omega); simpa [dc] using this)
      have y2 := HSR.out.at_ (i * 3 + 2) _ (by have := dl_get L i 2 hi0 (by omega); simpa [dc] using this)
      have z0 := HSR.out.at_ ((i + 1) * 3) _ (by have := dl_get L (i + 1) 0 hi1 (by omega); simpa [dc] using this)
      have z1 := HSR.out.at_ ((i + 1) * 3 + 1) _ (by have := dl_get L (i + 1) 1 hi1 (by omega); simpa [dc] using this)
      have z2 := HSR.out.at_ ((i + 1) * 3 + 2) _ (by have := dl_get L (i + 1) 2 hi1 (by omega); simpa [dc] using this)
      rw [← Nat.add_assoc] at y1 y2 z1 z2
      have hlb := hpb _ rfl
      have hlb2 : lb < wr.heap.size := by simp at hlb; omega
      have HLS := Lib.hid (fun w => mless (ga L (i + 1)) (ga L i) w)
      have q1 : IntKind.i64.wrap ((i : Int) + 1) = (i : Int) + 1 := IntWalk.i64_in _ (by omega)
      have q6 : ((i : Int) + 1).toNat = i + 1 := by omega
      have q2 : (0 : Int) ≤ (i : Int) := by omega
      have q3 : (i : Int) < (n : Int) := by omega
      have q4 : (0 : Int) ≤ (i : Int) + 1 := by omega
      have q5 : (i : Int) + 1 < (n : Int) := by omega
      go_wp2_with fail
      go_region_held3 (fun w' => w'.cell? ⟨lb, off + i * 3, none⟩ = some (.int .i64 (ga L i).st) ∧ w'.cell? ⟨lb, off + i * 3 + 1, none⟩ = some (.int .u32 (ga L i).bl) ∧ w'.cell? ⟨lb, off + i * 3 + 2, none⟩ = some (.int .i64 (ga L i).at_) ∧ w'.cell? ⟨lb, off + (i + 1) * 3, none⟩ = some (.int .i64 (ga L (i + 1)).st) ∧ w'.cell? ⟨lb, off + (i + 1) * 3 + 1, none⟩ = some (.int .u32 (ga L (i + 1)).bl) ∧ w'.cell? ⟨lb, off + (i + 1) * 3 + 2, none⟩ = some (.int .i64 (ga L (i + 1)).at_)) (first | exact ⟨y0, y1, y2, z0, z1, z2⟩ | exact ⟨kbelow hb4 (by exact hlb2) y0, kbelow hb4 (by exact hlb2) y1, kbelow hb4 (by exact hlb2) y2, kbelow hb4 (by exact hlb2) z0, kbelow hb4 (by exact hlb2) z1, kbelow hb4 (by exact hlb2) z2⟩) ((go_at_call 14; refine (HLS.out _).mono ?_; rintro e we ⟨rfl, hb4⟩))
      have hbe : Below w.heap.size w we := hb.trans (Below.trans (b := _) ((Below.refl _ _).drew) (hb4.mono (by exact hszr)))
      cases hlt2 : (ga L (i + 1)).lt (ga L i) with
      | false =>
        have HLT := Lib.hid hlt2
        clear hlt2
        go_wp2_with fail
        go_roundw
        case rel => exact ⟨i + 1, by go_num, by omega, fun j h1 h2 => by (rcases Nat.lt_or_ge j i with h | h); exact HJ.out j h1 h; (obtain rfl : j = i := by omega); exact HLT.out, hbe⟩
        case measure => simp [intOf]; omega
      | true =>
        have HLT := Lib.hid hlt2
        clear hlt2
        go_wp2_with fail
        go_ret
        exact ⟨false, rfl, ⟨fun h => (nomatch h), fun h => by have := h i hi1 (by omega); rw [HLT.out] at this; cases this⟩, hbe⟩
    · have d0 : decide ((i : Int) < (n : Int) - 1) = false := by rw [decide_eq_false_iff_not]; omega
      go_wp2_with fail
      go_ret
      exact ⟨true, rfl, ⟨fun _ j h1 h2 => HJ.out j h1 (by have := HN.out; omega), fun _ => rfl⟩, hb⟩
end Go.Proofs.Ytplgcnlnhboneaa
