/- The walk of ParityBack; both laws at every input. -/
import Derived.Test.YtjhbahjomeflaaaParity5
import Derived.Test.YtjhbahjomeflaaaOpen
namespace Go.Proofs.Ytjhbahjomeflaaa
open Go.ChangeShapes Go.WideShapes Go.ChangeAt Go.RowKit
set_option linter.unusedVariables false

theorem fits_some (P : Prop) : ∃ r, Fits r P := by
  by_cases h : P
  · exact ⟨true, fits_yes h⟩
  · exact ⟨false, fits_no h⟩
theorem sums_all (S : Nat → ByteArray) (p : Option Addr) (len cap b off : Nat) (gone : Int) (s : ByteArray) (hlm : len ≤ maxLen) (hsm : s.size ≤ maxLen) (hSm : ∀ i, i < len → (S i).size ≤ maxLen) (w : World) (hp : Strs w p len S b off) :
    Calls Try.prog 3 #[.slice p len cap, .int .i64 gone, .string s] w (TruePost w) := by
  by_cases hb : 100 < s.size ∨ ¬ (len ≤ 300 ∧ ∀ i, i < len → (S i).size ≤ 100)
  · exact sums_bad S p len cap b off gone s hlm hsm hSm w hp hb
  · have hs : s.size ≤ 100 := by
      rcases Nat.lt_or_ge 100 s.size with h | h
      · exact absurd (.inl h) hb
      · exact h
    have hf : len ≤ 300 ∧ ∀ i, i < len → (S i).size ≤ 100 := by
      by_cases h : len ≤ 300 ∧ ∀ i, i < len → (S i).size ≤ 100
      · exact h
      · exact absurd (.inr h) hb
    by_cases ho : len < 1 ∨ 255 < len
    · exact sums_out S p len cap b off gone s hs hSm w hp hf ho
    · obtain ⟨ra, HRa⟩ := fits_some (fitF S 0 (S 0).size len)
      obtain ⟨rb, HRb⟩ := fits_some (fitF S gone s.size len)
      exact sums_good S p len cap b off gone s hs hSm w hp hf (by omega) (by omega) ra rb HRa HRb
theorem open_strs {w : World} {p : Option Addr} {len b off : Nat} {V : Nat → Nat → Value} (ha : 0 < len → p = some ⟨b, off, none⟩) (hs : SL w b off len 1 V) (hv : ∀ i, i < len → IsS (V i 0)) :
    ∃ S : Nat → ByteArray, Strs w p len S b off ∧ ∀ i, i < len → (S i).size ≤ maxLen := by
  obtain ⟨S, h1, h2⟩ := hs.strs 0 (by omega) hv
  refine ⟨S, ⟨ha, fun h => ?_, fun i hi => ?_⟩, h2⟩
  · rcases hs.lt with h3 | h3
    · omega
    · exact h3
  · have := h1 i hi
    simpa using this

/-- with one text in another's place -/
def withS (S : Nat → ByteArray) (k : Nat) (x : ByteArray) (i : Nat) : ByteArray := if i = k then x else S i
theorem back_law (S : Nat → ByteArray) (len k : Nat) (x : ByteArray) (hk : k < len) (hF : fitF S 0 (S 0).size len) : sumB (withS S k x) (k : Int) (sumB S 0 (S 0) len) len = S k ∧ fitF (withS S k x) (k : Int) (sumB S 0 (S 0) len).size len := by
  have hsz : (sumB S 0 (S 0) len).size = (S 0).size := by unfold sumB; rw [sof_size]
  have hall : ∀ i, i < len → (S i).size = (S 0).size := fun i hi => by
    rcases Nat.eq_zero_or_pos i with h0 | h0
    · subst h0; rfl
    · exact hF i hi (by omega)
  refine ⟨?_, fun i hi hne => ?_⟩
  · have key : ∀ p, p < (S 0).size → ∀ j, j ≤ len → 1 ≤ j → sumF (withS S k x) (k : Int) (fun p => sumF S 0 (bt (S 0)) j p) j p = if k < j then bt (S k) p else 0 := by
      intro p hp
      have zero : ∀ a b : UInt8, a ^^^ b ^^^ b = a := fun a b => by rw [UInt8.xor_assoc, UInt8.xor_self, UInt8.xor_zero]
      have gen : ∀ (f : Nat → UInt8) (c : UInt8) (j : Nat), sumF (withS S k x) (k : Int) (fun p => f p ^^^ c) j p = sumF (withS S k x) (k : Int) f j p ^^^ c := by
        intro f c j
        induction j with
        | zero => rfl
        | succ j ih =>
          by_cases h : (j : Int) = (k : Int)
          · rw [sumF_hit h, sumF_hit h, ih]
          · rw [sumF_mix h, sumF_mix h, ih, UInt8.xor_assoc, UInt8.xor_comm c, ← UInt8.xor_assoc]
      have base : ∀ (f g : Nat → UInt8) (j : Nat), f p = g p → sumF (withS S k x) (k : Int) f j p = sumF (withS S k x) (k : Int) g j p := by
        intro f g j hfg
        induction j with
        | zero => exact hfg
        | succ j ih =>
          by_cases h : (j : Int) = (k : Int)
          · rw [sumF_hit h, sumF_hit h, ih]
          · rw [sumF_mix h, sumF_mix h, ih]
      intro j
      induction j with
      | zero => intro _ h; omega
      | succ j ih =>
        intro hj _
        rcases Nat.eq_zero_or_pos j with h0 | h0
        · subst h0
          by_cases hk0 : k = 0
          · subst hk0
            rw [sumF_hit rfl, if_pos (by omega)]
            exact sumF_hit (k := 0) (but := 0) rfl S (bt (S 0)) p
          · rw [sumF_mix (by omega), if_neg (by omega)]
            show sumF S 0 (bt (S 0)) (0 + 1) p ^^^ bt (withS S k x 0) p = 0
            rw [sumF_hit (k := 0) (but := 0) rfl S (bt (S 0)) p, withS, if_neg (by omega)]
            show bt (S 0) p ^^^ bt (S 0) p = 0
            exact UInt8.xor_self
        · have e1 : sumF S 0 (bt (S 0)) (j + 1) p = sumF S 0 (bt (S 0)) j p ^^^ bt (S j) p := sumF_mix (by omega) _ _ _
          have e2 := base (fun p => sumF S 0 (bt (S 0)) (j + 1) p) (fun q => (fun p => sumF S 0 (bt (S 0)) j p) q ^^^ bt (S j) p) j e1
          by_cases hjk : j = k
          · subst hjk
            rw [sumF_hit rfl, e2, gen, ih (by omega) h0, if_neg (by omega), if_pos (by omega), UInt8.zero_xor]
          · rw [sumF_mix (by omega), e2, gen, ih (by omega) h0, withS, if_neg hjk, zero]
            by_cases hkj : k < j
            · rw [if_pos hkj, if_pos (by omega)]
            · rw [if_neg hkj, if_neg (by omega)]
    refine bt_ext ?_ fun p hp => ?_
    · unfold sumB; rw [sof_size, sof_size, hall k hk]
    · have hp' : p < (S 0).size := by unfold sumB at hp; rw [sof_size, sof_size] at hp; exact hp
      have h1 := key p hp' len (Nat.le_refl _) (by omega)
      rw [if_pos hk] at h1
      rw [← h1]
      unfold sumB
      rw [sof_size, sof_bt _ _ _ hp']
      have base : ∀ (f g : Nat → UInt8) (j : Nat), f p = g p → sumF (withS S k x) (k : Int) f j p = sumF (withS S k x) (k : Int) g j p := by
        intro f g j hfg
        induction j with
        | zero => exact hfg
        | succ j ih =>
          by_cases h : (j : Int) = (k : Int)
          · rw [sumF_hit h, sumF_hit h, ih]
          · rw [sumF_mix h, sumF_mix h, ih]
      exact base _ _ _ (sof_bt _ _ _ hp')
  · rw [hsz, withS, if_neg (fun h => hne (by rw [h]))]
    exact hall i hi

theorem str_info : (Try.prog.info? 9).map (fun i => (i.zero, i.size, i.bytes)) = some (some (.string ⟨#[]⟩), 1, 16) := by kernel_rfl
def strv (S : Nat → ByteArray) (n : Nat) : List Value := (List.range n).map fun i => .string (S i)
theorem strv_at (S : Nat → ByteArray) (n i : Nat) (h : i < n) : (strv S n)[i]? = some (.string (S i)) := by simp [strv, h]
theorem strv_len (S : Nat → ByteArray) (n : Nat) : (strv S n).length = n := by simp [strv]
theorem strv_one (S : Nat → ByteArray) (n : Nat) : ∀ u ∈ strv S n, u.oneCell' = true := by
  intro u hu
  simp only [strv, List.mem_map] at hu
  obtain ⟨i, _, rfl⟩ := hu; rfl
set_option maxRecDepth 100000 in
set_option maxHeartbeats 4000000 in
theorem back_awake (S : Nat → ByteArray) (p : Option Addr) (len cap b off : Nat) (gone : Int) (hlm : len ≤ maxLen) (hSm : ∀ i, i < len → (S i).size ≤ maxLen) (w : World) (hp : Strs w p len S b off)
    (hb : len = 0 ∨ ¬ (len ≤ 300 ∧ ∀ i, i < len → (S i).size ≤ 100)) : Calls Try.prog 4 #[.slice p len cap, .int .u8 gone] w (TruePost w) := by
  unfold maxLen at hlm
  by_cases hf : (len ≤ 300 ∧ ∀ i, i < len → (S i).size ≤ 100)
  · have hs : len = 0 := by rcases hb with h | h; exact h; exact absurd hf h
    have HF := fits_yes hf
    subst hs
    clear hb hf
    go_enter Try.func4, Try.ntmps4
    go_wp2_with (first | (go_at_call 6; refine (few_any S _ _ _ b off (by omega) hSm _ hp true HF).mono ?_; rintro e w' ⟨rfl, rfl⟩) | (go_at_call 7; refine (awake_true _).mono ?_; rintro e w6 ⟨rfl, hb6⟩))
    go_ret
    exact ⟨rfl, hb6⟩
  · have HF := fits_no hf
    clear hb hf
    go_enter Try.func4, Try.ntmps4
    go_wp2_with (first | (go_at_call 6; refine (few_any S _ _ _ b off (by omega) hSm _ hp false HF).mono ?_; rintro e w' ⟨rfl, rfl⟩) | (go_at_call 7; refine (awake_true _).mono ?_; rintro e w6 ⟨rfl, hb6⟩))
    go_ret
    exact ⟨rfl, hb6⟩
theorem of_few (S : Nat → ByteArray) (p : Option Addr) (len cap b off : Nat) (h1 : 1 ≤ len) (h2 : len ≤ 300) (hS : ∀ i, i < len → (S i).size ≤ 1000) (w : World) (hp : Strs w p len S b off) :
    (len ≤ 255 ∧ fitF S 0 (S 0).size len ∧ Calls Try.prog 8 #[.slice p len cap] w (SumPost w (sumB S 0 (S 0) len))) ∨ ∃ r : Int, (r != 0) = true ∧ Calls Try.prog 8 #[.slice p len cap] w (BadPost w r) := by
  by_cases h : 255 < len
  · exact .inr ⟨1, rfl, of_bad p len cap (by omega) (.inr h) w⟩
  · by_cases hf : fitF S 0 (S 0).size len
    · exact .inl ⟨by omega, hf, of_good S p len cap b off h1 (by omega) hS w hp _ rfl true (fits_yes hf)⟩
    · exact .inr ⟨16, rfl, of_good S p len cap b off h1 (by omega) hS w hp _ rfl false (fits_no hf)⟩
set_option maxRecDepth 100000 in
set_option maxHeartbeats 4000000 in
theorem back_few (S : Nat → ByteArray) (p : Option Addr) (len cap b off : Nat) (gone : Int) (g0 : 0 ≤ gone) (g1 : gone ≤ 255) (h1 : 1 ≤ len) (hSm : ∀ i, i < len → (S i).size ≤ maxLen) (w : World) (hp : Strs w p len S b off)
    (hf : len ≤ 300 ∧ ∀ i, i < len → (S i).size ≤ 100) : Calls Try.prog 4 #[.slice p len cap, .int .u8 gone] w (TruePost w) := by
  obtain ⟨i0, hi, hz0, hz1, hz2⟩ := info_parts str_info
  have HF := fits_yes hf
  have hl := hf.1
  have hS : ∀ i, i < len → (S i).size ≤ 1000 := fun i hi => by have := hf.2 i hi; omega
  have hS1 := hf.2
  clear hf
  have hpp := hp.at_ (by omega)
  subst hpp
  have hbl := hp.lt (by omega)
  rcases of_few S _ len cap b off h1 hl hS w hp with ⟨h2, hF, hO⟩ | ⟨r, hr, hO⟩
  · obtain ⟨k, hk⟩ : ∃ k : Nat, gone % (len : Int) = (k : Int) := ⟨(gone % (len : Int)).toNat, by have := Int.emod_nonneg gone (show (len : Int) ≠ 0 by omega); omega⟩
    have hkl : k < len := by have := Int.emod_lt_of_pos gone (show (0 : Int) < (len : Int) by omega); omega
    obtain ⟨hbk, hbf⟩ := back_law S len k ⟨#[63]⟩ hkl hF
    have hts : (sumB S 0 (S 0) len).size ≤ 1000 := by unfold sumB; rw [sof_size]; exact hS 0 (by omega)
    have HO := Lib.hid hO
    have HBK := Lib.hid hbk
    have HBF := fits_yes hbf
    clear hO hbk hbf hF
    generalize sumB S 0 (S 0) len = t at *
    have hSk := hS k hkl
    have hSW : ∀ i, i < len → (withS S k ⟨#[63]⟩ i).size ≤ 1000 := fun i hi => by
      unfold withS; split
      · exact by decide
      · exact hS i hi
    have HSW := Lib.hid hSW
    have HS1 := Lib.hid hS1
    have HSm := Lib.hid hSm
    have HSS := Lib.hid hS
    clear hSW hS1 hS
    go_enter Try.func4, Try.ntmps4
    go_wp2_with (go_at_call 6; refine (few_any S _ _ _ b off (by omega) hSm _ hp true HF).mono ?_; rintro e w' ⟨rfl, rfl⟩)
    clear hSm
    refine HO.out.mono ?_
    rintro e w1 ⟨rfl, hb1⟩
    have hp1 := hp.below hb1 hp.lt
    go_wp2_with (at_builtin; refine wpList_append_own _ rfl _ _ 22 rfl w.heap.size 9 i0 _ 1 16 Try.underlying22 hi hz0 hz1 hz2 rfl (by decide) _ 0 [] rfl (World.ownsRow_nil _ _ _ _) ⟨b, off, none⟩ len cap (strv S len) rfl (by rw [strv_len]; omega) ?c1 (strv_one _ _) ?c3 ?c4 ?c5 ?_)
    case c1 =>
      intro j u hj
      have hjl : j < len := by
        have := (List.getElem?_eq_some_iff.1 hj).1
        rw [strv_len] at this; exact this
      rw [strv_at S len j hjl] at hj
      injection hj with hj
      subst hj
      rw [add_plain]
      exact hp1.cell j hjl
    case c3 => unfold maxLen; omega
    case c4 => omega
    case c5 => exact hb1.size
    intro v w2 hown hg _
    obtain ⟨g, cap2, hv, hge, hgl⟩ := hown.form (by omega)
    subst hv
    have B2 : Below w.heap.size w w2 := hb1.grown hg hb1.size (fun k h => by cases h)
    have c0 : w2.cell? ⟨g, k, none⟩ = some (.string (S k)) := by rw [hown.cellAt _ (by omega), strv_at _ _ _ hkl]
    have f0 := hown.frozenAt k
    go_wp2_with fail
    have hp3 : Strs (w2.setCell ⟨g, k, none⟩ (.string ⟨#[63]⟩)) (some ⟨g, 0, none⟩) len (withS S k ⟨#[63]⟩) g 0 := by
      refine ⟨fun _ => rfl, fun _ => by simpa [World.setCell] using hgl, fun i hi => ?_⟩
      rw [Nat.zero_add]
      by_cases hik : i = k
      · subst hik
        rw [World.cell?_setCell_same _ _ _ c0, withS, if_pos rfl]
      · rw [World.cell?_setCell_other _ _ _ _ (fun e => hik (by injection e with _ e2 _; exact e2.symm)), hown.cellAt _ (by omega), strv_at _ _ _ hi, withS, if_neg hik]
    have B3 : Below w.heap.size w (w2.setCell ⟨g, k, none⟩ (.string ⟨#[63]⟩)) := B2.setCell (by exact hge) _
    refine (back_good _ _ len cap2 g 0 h1 h2 (k : Int) (by omega) (by omega) t hts HSW.out _ hp3 (S k) HBK.out true HBF).mono ?_
    rintro e w4 ⟨rfl, hb4⟩
    have B4 : Below w.heap.size w w4 := B3.trans (hb4.mono B3.size)
    have c4 : w4.cell? ⟨b, off + k, none⟩ = some (.string (S k)) := kbelow B4 hbl (hp.cell k hkl)
    go_wp2_with (go_at_call 7; refine (awake_true _).mono ?_; rintro e w6 ⟨rfl, hb6⟩)
    go_ret
    exact ⟨rfl, B4.trans (hb6.mono B4.size)⟩
  · have HO := Lib.hid hO
    clear hO
    go_enter Try.func4, Try.ntmps4
    go_wp2_with (first | (go_at_call 6; refine (few_any S _ _ _ b off (by omega) hSm _ hp true HF).mono ?_; rintro e w' ⟨rfl, rfl⟩) | (go_at_call 8; refine (HO.out).mono ?_; rintro e w1 ⟨rfl, hb1⟩) | (go_at_call 7; refine (awake_true _).mono ?_; rintro e w6 ⟨rfl, hb6⟩))
    go_ret
    exact ⟨rfl, hb1.trans (hb6.mono hb1.size)⟩
theorem back_all (S : Nat → ByteArray) (p : Option Addr) (len cap b off : Nat) (gone : Int) (g0 : 0 ≤ gone) (g1 : gone ≤ 255) (hlm : len ≤ maxLen) (hSm : ∀ i, i < len → (S i).size ≤ maxLen) (w : World) (hp : Strs w p len S b off) :
    Calls Try.prog 4 #[.slice p len cap, .int .u8 gone] w (TruePost w) := by
  by_cases hb : len = 0 ∨ ¬ (len ≤ 300 ∧ ∀ i, i < len → (S i).size ≤ 100)
  · exact back_awake S p len cap b off gone hlm hSm w hp hb
  · have hf : len ≤ 300 ∧ ∀ i, i < len → (S i).size ≤ 100 := by
      by_cases h : len ≤ 300 ∧ ∀ i, i < len → (S i).size ≤ 100
      · exact h
      · exact absurd (.inr h) hb
    exact back_few S p len cap b off gone g0 g1 (by omega) hSm w hp hf
end Go.Proofs.Ytjhbahjomeflaaa
