/- The walk of WindowOnce. -/
import Derived.Test.YtappolgfkioihaaWinLaw
namespace Go.Proofs.Ytappolgfkioihaa
open Go.ChangeShapes Go.WideShapes Go.ChangeAt Go.RowKit
set_option linter.unusedVariables false

structure Once (base0 s : Nat) (L seen : List Nat) : Prop where
  s48 : s ≤ 48
  l : ∀ x ∈ L, ∃ m, m < 48 ∧ x = (base0 + m) % 4294967296
  sn : ∀ x ∈ seen, ∃ m, m < 48 ∧ x = (base0 + m) % 4294967296 ∧ (x ∈ L ∨ m < s)
theorem Once.start (base0 : Nat) : Once base0 0 [] [] := ⟨by omega, by simp, by simp⟩
theorem Once.fresh {base0 s n : Nat} {L seen : List Nat} (h : Once base0 s L seen) (hn : n ≤ 64) (m : Nat) (hm : m < 48) (hk : mkK ((base0 + s) % 4294967296) n L ((base0 + m) % 4294967296) = 3) : inL seen ((base0 + m) % 4294967296) = false ∧ Once base0 s (L ++ [(base0 + m) % 4294967296]) (seen ++ [(base0 + m) % 4294967296]) := by
  have h3 := mk3 hk
  have hs := h.s48
  have hmem : (base0 + m) % 4294967296 ∉ seen := by
    intro hx
    obtain ⟨m', h1, h2, h4⟩ := h.sn _ hx
    have e : m' = m := by omega
    subst e
    rcases h4 with h4 | h4
    · exact h3.2 h4
    · have h5 := h3.1
      rw [key_iff] at h5
      unfold ahead at h5
      omega
  refine ⟨by rw [Bool.eq_false_iff]; intro e; exact hmem (inL_iff.1 e), hs, fun x hx => ?_, fun x hx => ?_⟩
  · rcases List.mem_append.1 hx with h1 | h1
    · exact h.l x h1
    · simp at h1; exact ⟨m, hm, h1⟩
  · rcases List.mem_append.1 hx with h1 | h1
    · obtain ⟨m', h2, h4, h5⟩ := h.sn x h1
      exact ⟨m', h2, h4, h5.imp (fun h => by simp [h]) id⟩
    · simp at h1; exact ⟨m, hm, h1, .inl (by simp [h1])⟩
theorem Once.slide (f : Nat) : ∀ {base0 s : Nat} {L seen : List Nat}, Once base0 s L seen → ∃ s', (sl f ((base0 + s) % 4294967296) L).2.1 = (base0 + s') % 4294967296 ∧ Once base0 s' (sl f ((base0 + s) % 4294967296) L).2.2 seen := by
  induction f with
  | zero => intro base0 s L seen h; exact ⟨s, rfl, h⟩
  | succ f ih =>
    intro base0 s L seen h
    rw [sl]
    split
    · rename_i hi
      obtain ⟨m, hm, he⟩ := h.l _ (inL_iff.1 hi)
      have hs := h.s48
      have e : m = s := by omega
      subst e
      have h2 : Once base0 (m + 1) (L.filter (fun y => y != (base0 + m) % 4294967296)) seen := by
        refine ⟨hm, fun x hx => h.l x (List.mem_filter.1 hx).1, fun x hx => ?_⟩
        obtain ⟨m', h1, h3, h4⟩ := h.sn x hx
        refine ⟨m', h1, h3, ?_⟩
        rcases h4 with h4 | h4
        · by_cases hxe : x = (base0 + m) % 4294967296
          · right; omega
          · left; exact List.mem_filter.2 ⟨h4, by simpa using hxe⟩
        · right; omega
      have h3 := ih h2
      have e2 : ((base0 + m) % 4294967296 + 1) % 4294967296 = (base0 + (m + 1)) % 4294967296 := by omega
      rw [e2]
      exact h3
    · exact ⟨s, rfl, h⟩
theorem once_many (base : Int) (a : Option Addr) (len cap : Nat) (hc : cap ≤ maxLen) (hlc : len ≤ cap) (c1 : 200 < len) (W : World) : Calls Try.prog 4 #[.int .u32 base, .slice a len cap] W (TruePost W) := by
  unfold maxLen at hc
  go_enter Try.func4, Try.ntmps4
  go_wp2_with (go_at_call 6; refine (awake_true _).mono ?_; rintro e w6 ⟨rfl, hb6⟩)
  go_ret
  exact ⟨rfl, hb6⟩
set_option maxRecDepth 100000 in
set_option maxHeartbeats 8000000 in
theorem once_few (base : Nat) (hbb : base < 4294967296) (a : Option Addr) (len cap bl off : Nat) (X : Nat → Nat) (hl : len ≤ 200) (W : World)
    (ha : 0 < len → a = some ⟨bl, off, none⟩) (hlt : len = 0 ∨ bl < W.heap.size) (hX : ∀ i, i < len → W.cell? ⟨bl, off + i, none⟩ = some (.int .u8 (X i : Int))) (hX0 : ∀ i, i < len → X i < 256) :
    Calls Try.prog 4 #[.int .u32 (base : Int), .slice a len cap] W (TruePost W) := by
  obtain ⟨i0, hi, hz0, hz1, hz2⟩ := info_parts u_info
  go_enter Try.func4, Try.ntmps4
  go_wp2_with fail
  refine (wnew_good base 16 hbb (by omega) (by omega) _).mono ?_
  rintro e w1 ⟨b, bm, rfl, hO, l1, l2, hB0⟩
  have hO0 := WinL.new hO
  have hlt0 := hO.lt
  have hW1 := hB0.size
  clear hO
  go_wp2_with fail
  go_loopw [7, 8] (fun sv iv wr => ∃ (k s : Nat) (L seen : List Nat) (v : Value), k ≤ len ∧ iv = .int .i64 k ∧ sv = v ∧ seen.length ≤ k ∧ Once base s L seen ∧ WinL wr b bm ((base + s) % 4294967296) 16 k L ∧ wr.ownsRow w1.heap.size 22 1 v seen.length (ul seen) ∧ w1.heap.size ≤ wr.heap.size ∧ Below W.heap.size W wr) (fun _ iv _ => len - (intOf iv).toNat)
  case atStart => exact ⟨0, 0, [], [], _, Nat.zero_le _, rfl, rfl, Nat.le_refl _, Once.start base, by rw [show (base + 0) % 4294967296 = base by omega]; exact hO0, World.ownsRow_nil _ _ _ _, Nat.le_refl _, hB0⟩
  case round =>
    obtain ⟨k, s, L, seen, v, hk, rfl, rfl, hsl, hOn, hWin, hown, hw1r, hb⟩ := hrel
    obtain ⟨p, pc, hv, hru⟩ := RU.of_own hown
    subst hv
    by_cases hlk : k < len
    · have hbl : bl < W.heap.size := by omega
      have ha' := ha (by omega)
      subst ha'
      have cX : wr.cell? ⟨bl, off + k, none⟩ = some (.int .u8 (X k : Int)) := kbelow hb hbl (hX k hlk)
      have HCX := Lib.hid (hX k hlk)
      have hXk := hX0 k hlk
      clear hX hX0
      generalize X k = x at *
      have HON := Lib.hid hOn
      have HWN := Lib.hid hWin
      have HOW := Lib.hid hown
      have hx32 : (base + x % 48) % 4294967296 < 4294967296 := Nat.mod_lt _ (by omega)
      have e1 : ((base : Int) + (x : Int) % 48) % 4294967296 = (((base + x % 48) % 4294967296 : Nat) : Int) := by omega
      have HMK := Lib.hid (fun w o => wmark_is b bm ((base + s) % 4294967296) 16 k L ((base + x % 48) % 4294967296) hx32 (by omega) w o)
      have hfr := Lib.hid (hOn.fresh (n := 16) (by omega) (x % 48) (by omega))
      have hmL : Hid (mkK ((base + s) % 4294967296) 16 L ((base + x % 48) % 4294967296) = 3 → mkL ((base + s) % 4294967296) 16 L ((base + x % 48) % 4294967296) = L ++ [(base + x % 48) % 4294967296]) := Lib.hid (fun h => by unfold mkL; rw [if_pos h])
      have hmN : Hid (mkK ((base + s) % 4294967296) 16 L ((base + x % 48) % 4294967296) ≠ 3 → mkL ((base + s) % 4294967296) 16 L ((base + x % 48) % 4294967296) = L) := Lib.hid (fun h => by unfold mkL; rw [if_neg h])
      have hWs := hb.size
      have HIN := Lib.hid (fun w hs => rin_any p pc seen ((base + x % 48) % 4294967296) hx32 w hs)
      generalize mkK ((base + s) % 4294967296) 16 L ((base + x % 48) % 4294967296) = kk at *
      generalize mkL ((base + s) % 4294967296) 16 L ((base + x % 48) % 4294967296) = L2 at *
      generalize (base + x % 48) % 4294967296 = y at *
      clear hOn hWin hown hru
      go_wp2_with fail
      refine (HMK.out _ HWN.out).mono ?_
      rintro e w5 ⟨rfl, hW5, hK5⟩
      have hb5 := hb.trans (wact_below hK5 hb.size l1 l2)
      have hown5 := own_kept HOW.out hK5 (fun z hz => by have h1 := (own_lt HOW.out z hz).1; simp; omega)
      have hw15 : w1.heap.size ≤ w5.heap.size := Nat.le_trans hw1r hK5.size
      have hru5 := RU.own hown5
      have cX := kbelow hb5 hbl HCX.out
      have HRU5 := Lib.hid hru5
      have HW5 := Lib.hid hW5
      have HO5 := Lib.hid hown5
      clear hW5 hK5 hown5 hru5 HMK
      by_cases hk3 : kk = 3
      · obtain ⟨f1, f2⟩ := hfr.out hk3
        have hL2 := hmL.out hk3
        subst hk3 hL2
        rw [f1] at HIN
        have HF := Lib.hid f2
        clear f1 f2 hfr hmL hmN
        go_wp2_with (first | (go_at_call 14; refine (HIN.out _ HRU5.out).mono ?_; rintro e w' ⟨rfl, rfl⟩) | (at_builtin; refine wpList_append_src _ rfl (.tmp 42) (.tmp 44) 29 rfl w1.heap.size 22 i0 (.int .u32 0) 1 4 Try.underlying29 hi hz0 hz1 hz2 rfl (by decide) _ _ _ rfl (HO5.out.alloc _) _ 1 1 rfl _ (src_u w5 _ _) (fun u hu => by simp at hu; subst hu; rfl) (by unfold maxLen; omega) (by omega) ?cc ?_))
        case cc => simp; omega
        intro v2 w2 hown2 hg2 hat2
        have hk2 : Kept (rowOf (.slice p seen.length pc)) w5 w2 := ((Kept.refl _ _).alloc _).grown hg2 (fun z hz => .inl (mem_rowOf hz))
        have hrow : ∀ z ∈ rowOf (.slice p seen.length pc), w1.heap.size ≤ z := fun z hz => (own_lt HO5.out z hz).1
        have hw16 : w1.heap.size ≤ w2.heap.size := Nat.le_trans hw15 hk2.size
        have hb2 := hb5.trans (hk2.below hb5.size (fun z hz => by have := hrow z hz; omega))
        have HW6 := Lib.hid (HW5.out.kept hk2 (fun hz => by have := hrow b hz; omega) (fun hz => by have := hrow bm hz; omega))
        have HO6 : Hid (w2.ownsRow w1.heap.size 22 1 v2 (seen ++ [y]).length (ul (seen ++ [y]))) := Lib.hid (by rw [ul_app, List.length_append]; exact hown2)
        have HN6 := Lib.hid HF.out
        clear hown2 hg2 hat2 hk2 hrow cX HW5 HO5 HRU5 HF HIN
        have cX := kbelow hb2 hbl HCX.out
        by_cases h128 : 128 ≤ x
        · have HSL := Lib.hid (fun w o => wslide_is b bm ((base + s) % 4294967296) 16 (k + 1) (L ++ [y]) ((x : Int) % 4) (by omega) w o)
          have hsx := HN6.out.slide ((x : Int) % 4).toNat
          have HSX := Lib.hid hsx
          clear hsx
          go_wp2_with fail
          refine (HSL.out _ HW6.out).mono ?_
          rintro e w7 ⟨rfl, hW7, hK7⟩
          obtain ⟨s', hs1, hO5⟩ := HSX.out
          have hb7 := hb2.trans (wact_below hK7 hb2.size l1 l2)
          have hown7 := own_kept HO6.out hK7 (fun z hz => by have h1 := (own_lt HO6.out z hz).1; simp; omega)
          rw [hs1] at hW7
          have hw17 : w1.heap.size ≤ w7.heap.size := Nat.le_trans hw16 hK7.size
          have HW7 := Lib.hid hW7
          have HO7 := Lib.hid hown7
          have HN7 := Lib.hid hO5
          clear hW7 hown7 hK7 hs1 hO5 cX
          go_wp2_with fail
          go_roundw
          case rel => exact ⟨k + 1, s', _, _, _, by omega, by go_num, rfl, by rw [List.length_append]; simp; omega, HN7.out, HW7.out, HO7.out, hw17, hb7⟩
          case measure => simp [intOf]; omega
        · go_wp2_with fail
          go_roundw
          case rel => exact ⟨k + 1, s, _, _, _, by omega, by go_num, rfl, by rw [List.length_append]; simp; omega, HN6.out, HW6.out, HO6.out, hw16, hb2⟩
          case measure => simp [intOf]; omega
      · have h3 := hmN.out hk3
        subst h3
        have bk : (kk == 3) = false := by rw [beq_eq_false_iff_ne]; exact hk3
        have HN6 := Lib.hid HON.out
        have HW6 := Lib.hid HW5.out
        have HO6 := Lib.hid HO5.out
        have hw16 := hw15
        clear hfr hmL hmN HIN cX HW5 HO5 HRU5
        have cX := kbelow hb5 hbl HCX.out
        by_cases h128 : 128 ≤ x
        · have HSL := Lib.hid (fun w o => wslide_is b bm ((base + s) % 4294967296) 16 (k + 1) (L2) ((x : Int) % 4) (by omega) w o)
          have hsx := HN6.out.slide ((x : Int) % 4).toNat
          have HSX := Lib.hid hsx
          clear hsx
          go_wp2_with fail
          refine (HSL.out _ HW6.out).mono ?_
          rintro e w7 ⟨rfl, hW7, hK7⟩
          obtain ⟨s', hs1, hO5⟩ := HSX.out
          have hb7 := hb5.trans (wact_below hK7 hb5.size l1 l2)
          have hown7 := own_kept HO6.out hK7 (fun z hz => by have h1 := (own_lt HO6.out z hz).1; simp; omega)
          rw [hs1] at hW7
          have hw17 : w1.heap.size ≤ w7.heap.size := Nat.le_trans hw16 hK7.size
          have HW7 := Lib.hid hW7
          have HO7 := Lib.hid hown7
          have HN7 := Lib.hid hO5
          clear hW7 hown7 hK7 hs1 hO5 cX
          go_wp2_with fail
          go_roundw
          case rel => exact ⟨k + 1, s', _, _, _, by omega, by go_num, rfl, by omega, HN7.out, HW7.out, HO7.out, hw17, hb7⟩
          case measure => simp [intOf]; omega
        · go_wp2_with fail
          go_roundw
          case rel => exact ⟨k + 1, s, _, _, _, by omega, by go_num, rfl, by omega, HN6.out, HW6.out, HO6.out, hw16, hb5⟩
          case measure => simp [intOf]; omega
    · have hkl : k = len := by omega
      go_wp2_with (go_at_call 6; refine (awake_true _).mono ?_; rintro e w6 ⟨rfl, hb6⟩)
      go_ret
      exact ⟨rfl, hb.trans (hb6.mono hb.size)⟩
end Go.Proofs.Ytappolgfkioihaa
