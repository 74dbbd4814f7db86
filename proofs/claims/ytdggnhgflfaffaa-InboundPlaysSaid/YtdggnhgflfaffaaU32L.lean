/- Lists of uint32 as rows; lightshipref15.Same. (cut out of XU32, XWinRef) -/
import Derived.Test.YtdggnhgflfaffaaApp
import Derived.Outline
import Derived.Handy
import Derived.BigRegion
import Derived.Deep.RegionHeld3
import Derived.BigQuiet
import Derived.Deep.QuietTactic
import Derived.Lib.Hide
import Derived.IntWalk
set_option maxRecDepth 20000
namespace Go.Proofs.Ytdggnhgflfaffaa
open Go.ChangeShapes Go.WideShapes Go.ChangeAt Go.RowKit
set_option linter.unusedVariables false

def ul (L : List Nat) : List Value := L.map fun x : Nat => Value.int .u32 (x : Int)
theorem ul_len (L : List Nat) : (ul L).length = L.length := by simp [ul]
theorem ul_app (L M : List Nat) : ul (L ++ M) = ul L ++ ul M := by simp [ul]
theorem ul_at (L : List Nat) (j : Nat) (h : j < L.length) : (ul L)[j]? = some (.int .u32 (L[j] : Int)) := by simp [ul, h]
theorem ul_one (L : List Nat) : ∀ u ∈ ul L, u.oneCell' = true := by
  intro u hu
  simp only [ul, List.mem_map] at hu
  obtain ⟨x, _, rfl⟩ := hu; rfl
theorem u_info : (Try.prog.info? 32).map (fun i => (i.zero, i.size, i.bytes)) = some (some (.int .u32 0), 1, 4) := by kernel_rfl
/-- a list of numbers, read -/
structure RU (w : World) (p : Option Addr) (cap : Nat) (L : List Nat) : Prop where
  src : Src w p L.length cap 1 (ul L)
  lt : ∀ a, p = some a → a.block < w.heap.size
theorem RU.below {w w' : World} {p : Option Addr} {cap : Nat} {L : List Nat} (h : RU w p cap L) (hb : Below w.heap.size w w') : RU w' p cap L :=
  ⟨h.src.below hb h.lt, fun a ha => Nat.lt_of_lt_of_le (h.lt a ha) hb.size⟩
theorem RU.kept {w w' : World} {p : Option Addr} {cap : Nat} {L : List Nat} {r : List Nat} (h : RU w p cap L) (hk : Kept r w w') (hr : ∀ a, p = some a → a.block ∉ r) : RU w' p cap L :=
  ⟨h.src.kept hk hr, fun a ha => Nat.lt_of_lt_of_le (h.lt a ha) hk.size⟩
theorem RU.of_own {w : World} {base : Nat} {v : Value} {L : List Nat} (h : w.ownsRow base 32 1 v L.length (ul L)) : ∃ p cap, v = .slice p L.length cap ∧ RU w p cap L := by
  obtain ⟨p, cap, hv, hs⟩ := Src.of_own h
  refine ⟨p, cap, hv, hs, fun a ha => ?_⟩
  subst hv ha
  obtain ⟨b, off, sp⟩ := a
  have h2 := hs.spot _ rfl
  simp at h2
  subst h2
  rcases h.2 with ⟨h3, _⟩ | ⟨g, cap', cur, h3, _, hg, _⟩
  · cases h3
  · injection h3 with h3 _ _
    injection h3 with h3; injection h3 with h3
    subst h3
    exact (Array.getElem?_eq_some_iff.1 hg).1
theorem RU.own {w : World} {base : Nat} {p : Option Addr} {cap : Nat} {L : List Nat} (h : w.ownsRow base 32 1 (.slice p L.length cap) L.length (ul L)) : RU w p cap L := by
  obtain ⟨p', cap', h1, h2⟩ := RU.of_own h
  injection h1 with h1 _ h3
  subst h1 h3
  exact h2
theorem own_base2 {w : World} {base base' : Nat} {e : TypeId} {size n : Nat} {v : Value} {xs : List Value} (h : w.ownsRow base e size v n xs) (hb : base' ≤ base) : w.ownsRow base' e size v n xs := by
  refine ⟨h.1, ?_⟩
  rcases h.2 with h0 | ⟨g, cap, cur, hv, hg, r⟩
  · exact .inl h0
  · exact .inr ⟨g, cap, cur, hv, by omega, r⟩
theorem u_new (w : World) (x : Int) (T : TypeId) : ∀ (j : Nat) (u : Value), [Value.int .u32 x][j]? = some u → (w.alloc (.cells #[.int .u32 x] T)).cell? (Addr.add ⟨w.heap.size, 0, none⟩ j) = some u := by
  intro j u hj
  match j, hj with
  | 0, hj => simp at hj; subst hj; rw [add_plain, (Blk.new w _ _).cell]; rfl
theorem src_u (w : World) (x : Int) (T : TypeId) : Src (w.alloc (.cells #[.int .u32 x] T)) (some ⟨w.heap.size, 0, none⟩) 1 1 1 [.int .u32 x] :=
  ⟨rfl, Nat.le_refl _, by unfold maxLen; omega, (fun h => nomatch h), (fun a ha => by injection ha with ha; subst ha; rfl), fun a ha j u hu => by injection ha with ha; subst ha; exact u_new w x T j u hu⟩

theorem same_iff {L M : List Nat} (hl : L.length = M.length) (h : ∀ j, (h1 : j < L.length) → (h2 : j < M.length) → L[j] = M[j]) : L = M := List.ext_getElem hl h
theorem rsame_any (p q : Option Addr) (cap cap2 : Nat) (L M : List Nat) (w : World) (hs : RU w p cap L) (hq : RU w q cap2 M) :
    Calls Try.prog 37 #[.slice p L.length cap, .slice q M.length cap2] w fun e w' => e = .returned (.bool (decide (L = M))) ∧ ∃ k, w' = w.drewN k := by
  have hs := hs.src
  have hq := hq.src
  have hbig := hs.big
  have hbig2 := hq.big
  have hfit := hs.fits
  have hfit2 := hq.fits
  unfold maxLen at hbig hbig2
  have HS := Lib.hid hs
  have HQ := Lib.hid hq
  clear hs hq
  obtain ⟨n, hn⟩ : ∃ n, n = L.length := ⟨_, rfl⟩
  obtain ⟨m, hm⟩ : ∃ m, m = M.length := ⟨_, rfl⟩
  rw [← hn] at HS hfit ⊢
  rw [← hm] at HQ hfit2 ⊢
  have HN := Lib.hid hn
  have HM := Lib.hid hm
  clear hn hm
  by_cases hl : n = m
  · subst hl
    have bn : ((n : Int) != (n : Int)) = false := by simp
    go_enter Try.func37, Try.ntmps37
    go_wp2_with fail
    go_loopw [5] (fun iv wr => ∃ i k : Nat, iv = .int .i64 (i : Int) ∧ i ≤ n ∧ (∀ j, j < i → (h1 : j < L.length) → (h2 : j < M.length) → L[j] = M[j]) ∧ wr = w.drewN k) (fun iv _ => n - (intOf iv).toNat)
    case atStart => exact ⟨0, 0, rfl, Nat.zero_le _, fun j hj => absurd hj (Nat.not_lt_zero _), rfl⟩
    case round =>
      obtain ⟨i, k, rfl, hin, hj, hwr⟩ := hrel
      have HJ := Lib.hid hj
      clear hj
      by_cases hlt : i < n
      · obtain ⟨lb, off, rfl⟩ := HS.out.of_pos (by omega)
        obtain ⟨lb2, off2, rfl⟩ := HQ.out.of_pos (by omega)
        have hiL : i < L.length := by rw [← HN.out]; exact hlt
        have hiM : i < M.length := by rw [← HM.out]; exact hlt
        have y0 : wr.cell? ⟨lb, off + i, none⟩ = some (.int .u32 (L[i] : Int)) := by rw [hwr]; exact HS.out.at_ i _ (ul_at L i hiL)
        have z0 : wr.cell? ⟨lb2, off2 + i, none⟩ = some (.int .u32 (M[i] : Int)) := by rw [hwr]; exact HQ.out.at_ i _ (ul_at M i hiM)
        have HWR := Lib.hid hwr
        clear hwr
        have q4 : (0 : Int) ≤ (i : Int) := by omega
        have q5 : (i : Int) < (n : Int) := by omega
        generalize hki : L[i] = ki at *
        have HKI := Lib.hid hki
        generalize hkm : M[i] = km at *
        have HKM := Lib.hid hkm
        clear hki hkm
        by_cases he : ki = km
        · subst he
          have b0 : ((ki : Int) != (ki : Int)) = false := by simp
          go_wp2
          go_quiet (fail)
          go_wp2
          go_roundw
          case rel => exact ⟨i + 1, k + nq, by go_num, by omega, fun j hj h1 h2 => by
            rcases Nat.lt_or_ge j i with h | h
            · exact HJ.out j h h1 h2
            · obtain rfl : j = i := by omega
              rw [HKI.out, HKM.out], by rw [HWR.out]; exact World.drewN_drewN ..⟩
          case measure => simp [intOf]; omega
        · have b0 : ((ki : Int) != (km : Int)) = true := by rw [bne_iff_ne]; omega
          have hr : Hid (decide (L = M) = false) := Lib.hid (by
            rw [decide_eq_false_iff_not]
            intro e
            subst e
            exact he (HKI.out.symm.trans HKM.out))
          go_wp2
          go_quiet (fail)
          go_wp2
          go_ret
          exact ⟨ret_bool hr.out.symm, k + nq, by rw [HWR.out]; exact World.drewN_drewN ..⟩
      · have hr : Hid (decide (L = M) = true) := Lib.hid (decide_eq_true (same_iff (by rw [← HN.out, ← HM.out]) fun j h1 h2 => HJ.out j (by rw [← HN.out] at h1; omega) h1 h2))
        go_wp2
        go_ret
        exact ⟨ret_bool hr.out.symm, k, by first | exact hwr | rfl⟩
  · have bn : ((n : Int) != (m : Int)) = true := by rw [bne_iff_ne]; omega
    have hr : Hid (decide (L = M) = false) := Lib.hid (by
      rw [decide_eq_false_iff_not]
      intro e
      subst e
      exact hl (HN.out.trans HM.out.symm))
    go_enter Try.func37, Try.ntmps37
    go_wp2
    go_ret
    exact ⟨ret_bool hr.out.symm, 0, rfl⟩
end Go.Proofs.Ytdggnhgflfaffaa
