/- The order of names for a key: plain law; pick.by, slices.MinFunc, pick.Of. -/
import Derived.Test.YtapokcjfhgbagaaPick
import Derived.Test.YtapokcjfhgbagaaSort
namespace Go.Proofs.Ytapokcjfhgbagaa
open Go.ChangeShapes Go.WideShapes Go.ChangeAt Go.RowKit
set_option linter.unusedVariables false

theorem bl_irr : ∀ x : List UInt8, Op.bytesLess x x = false
  | [] => rfl
  | a :: x => by
    have := bl_irr x
    simp [Op.bytesLess, this, UInt8.lt_irrefl]
theorem bl_iff (a b : UInt8) (x y : List UInt8) : Op.bytesLess (a :: x) (b :: y) = true ↔ a < b ∨ (a = b ∧ Op.bytesLess x y = true) := by simp [Op.bytesLess]
theorem bl_trans : ∀ x y z : List UInt8, Op.bytesLess x y = true → Op.bytesLess y z = true → Op.bytesLess x z = true
  | _, [], _, h, _ => by simp [Op.bytesLess] at h
  | _, _ :: _, [], _, h => by simp [Op.bytesLess] at h
  | [], _ :: _, _ :: _, _, _ => rfl
  | a :: x, b :: y, c :: z, h1, h2 => by
    rw [bl_iff] at *
    rcases h1 with h1 | ⟨h1, h3⟩
    · rcases h2 with h2 | ⟨h2, h4⟩
      · exact .inl (UInt8.lt_trans h1 h2)
      · subst h2; exact .inl h1
    · subst h1
      rcases h2 with h2 | ⟨h2, h4⟩
      · exact .inl h2
      · exact .inr ⟨h2, bl_trans x y z h3 h4⟩
theorem bl_tot : ∀ x y : List UInt8, Op.bytesLess x y = false → Op.bytesLess y x = false → x = y
  | [], [], _, _ => rfl
  | [], _ :: _, h, _ => by simp [Op.bytesLess] at h
  | _ :: _, [], _, h => by simp [Op.bytesLess] at h
  | a :: x, b :: y, h1, h2 => by
    rw [Bool.eq_false_iff, Ne, bl_iff] at *
    have e : a = b := by
      by_cases e : a = b
      · exact e
      · rcases UInt8.lt_or_lt_of_ne e with h | h
        · exact absurd (.inl h) h1
        · exact absurd (.inl h) h2
    subst e
    rw [bl_tot x y (by rw [Bool.eq_false_iff]; exact fun h => h1 (.inr ⟨rfl, h⟩)) (by rw [Bool.eq_false_iff]; exact fun h => h2 (.inr ⟨rfl, h⟩))]
theorem tlt_irr (a : ByteArray) : tlt a a = false := bl_irr _
theorem tlt_trans {a b c : ByteArray} (h : tlt a b = true) (k : tlt b c = true) : tlt a c = true := bl_trans _ _ _ h k
theorem tlt_tot {a b : ByteArray} (h : tlt a b = false) (k : tlt b a = false) : a = b := by
  have := bl_tot _ _ h k
  rw [ByteArray.toList_eq, ByteArray.toList_eq] at this
  exact ByteArray.ext (Array.toList_inj.1 this)
/-- does a name stand ahead of another one, for a key -/
def klt (key a b : ByteArray) : Bool := if ksum a key = ksum b key then tlt a b else decide (ksum b key < ksum a key)
theorem klt_iff (key a b : ByteArray) : klt key a b = true ↔ ksum b key < ksum a key ∨ (ksum a key = ksum b key ∧ tlt a b = true) := by
  unfold klt
  split
  · rename_i h; simp [h]
  · rename_i h; simp; omega
theorem klt_tot (key a b : ByteArray) (h : klt key a b = false) (k : klt key b a = false) : a = b := by
  rw [Bool.eq_false_iff, Ne, klt_iff] at h k
  have e : ksum a key = ksum b key := by omega
  exact tlt_tot (by rw [Bool.eq_false_iff]; exact fun h1 => h (.inr ⟨e, h1⟩)) (by rw [Bool.eq_false_iff]; exact fun h1 => k (.inr ⟨e.symm, h1⟩))
theorem klt_irr (key a : ByteArray) : klt key a a = false := by
  rw [Bool.eq_false_iff, Ne, klt_iff, tlt_irr]; simp
theorem klt_trans {key a b c : ByteArray} (h : klt key a b = true) (k : klt key b c = true) : klt key a c = true := by
  rw [klt_iff] at *
  rcases h with h | ⟨h, h1⟩
  · rcases k with k | ⟨k, k1⟩ <;> exact .inl (by omega)
  · rcases k with k | ⟨k, k1⟩
    · exact .inl (by omega)
    · exact .inr ⟨by omega, tlt_trans h1 k1⟩
theorem klt_law (key : ByteArray) : LtLaw (klt key) where
  irr := klt_irr key
  nas x y h := by
    cases k : klt key y x with
    | false => rfl
    | true => have := klt_trans h k; rw [klt_irr] at this; exact this.symm
  ntr x y z h k := by
    cases j : klt key z x with
    | false => rfl
    | true =>
      cases i : klt key y z with
      | false => have e := klt_tot key _ _ k i; subst e; rw [h] at j; exact j.symm
      | true => have := klt_trans i j; rw [h] at this; exact this.symm
theorem cmpI_neg (a b : Int) : cmpI a b < 0 ↔ a < b := by unfold cmpI; split; omega; split <;> omega
theorem cmpI_zero (a b : Int) : cmpI a b = 0 ↔ a = b := by unfold cmpI; split; omega; split <;> omega
theorem cmpS_neg (a b : ByteArray) : cmpS a b < 0 ↔ tlt a b = true := by
  unfold cmpS; split
  · rename_i h; simp [h]
  · rename_i h; simp [h]; split <;> omega
theorem cmpK_neg (key a b : ByteArray) : cmpK key a b < 0 ↔ klt key a b = true := by
  rw [klt_iff]
  unfold cmpK orI
  have h1 := cmpI_neg (ksum b key) (ksum a key)
  have h2 := cmpI_zero (ksum b key) (ksum a key)
  have h3 := cmpS_neg a b
  split
  · rename_i h
    rw [Ne, h2] at h
    rw [h1]
    exact ⟨.inl, fun k => k.elim id fun k => absurd k.1.symm h⟩
  · rename_i h
    have e := h2.1 (by simpa using h)
    rw [h3]
    exact ⟨fun k => .inr ⟨e.symm, k⟩, fun k => k.elim (fun k => by omega) (·.2)⟩
theorem cmpK_dec (key a b : ByteArray) : decide (cmpK key a b < 0) = klt key a b := by
  rw [Bool.eq_iff_iff, decide_eq_true_iff]; exact cmpK_neg key a b
set_option maxRecDepth 100000 in
theorem by_is (key : ByteArray) (w : World) :
    Calls Try.prog 15 #[.string key] w fun e w' => e = .returned (.func (.func 19) #[] #[.pointer (some ⟨w.heap.size, 0, none⟩)]) ∧ Blk w' w.heap.size #[.string key] 9 ∧ Below w.heap.size w w' := by
  go_enter Try.func15, Try.ntmps15
  go_wp2_with fail
  go_ret
  exact ⟨rfl, Blk.new _ _ _, (Below.refl _ _).alloc (Nat.le_refl _) _⟩
def sl (L : List ByteArray) : List Value := L.map .string
theorem sl_len (L : List ByteArray) : (sl L).length = L.length := by simp [sl]
theorem sl_app (L M : List ByteArray) : sl (L ++ M) = sl L ++ sl M := by simp [sl]
theorem sl_at (L : List ByteArray) (j : Nat) (h : j < L.length) : (sl L)[j]? = some (.string (gi L j)) := by rw [gi_at L j h]; simp [sl, h]
theorem sl_one (L : List ByteArray) : ∀ u ∈ sl L, u.oneCell' = true := by
  intro u hu
  simp only [sl, List.mem_map] at hu
  obtain ⟨x, _, rfl⟩ := hu; rfl
/-- a list of texts, read; none is longer than can be -/
structure RS (w : World) (p : Option Addr) (cap : Nat) (L : List ByteArray) : Prop where
  src : Src w p L.length cap 1 (sl L)
  lt : ∀ a, p = some a → a.block < w.heap.size
theorem RS.below {w w' : World} {p : Option Addr} {cap : Nat} {L : List ByteArray} (h : RS w p cap L) (hb : Below w.heap.size w w') : RS w' p cap L :=
  ⟨h.src.below hb h.lt, fun a ha => Nat.lt_of_lt_of_le (h.lt a ha) hb.size⟩
theorem RS.kept {w w' : World} {p : Option Addr} {cap : Nat} {L : List ByteArray} {r : List Nat} (h : RS w p cap L) (hk : Kept r w w') (hr : ∀ a, p = some a → a.block ∉ r) : RS w' p cap L :=
  ⟨h.src.kept hk hr, fun a ha => Nat.lt_of_lt_of_le (h.lt a ha) hk.size⟩
theorem RS.of_own {w : World} {base : Nat} {v : Value} {L : List ByteArray} (h : w.ownsRow base 9 1 v L.length (sl L)) : ∃ p cap, v = .slice p L.length cap ∧ RS w p cap L := by
  obtain ⟨p, cap, hv, hs⟩ := Src.of_own h
  refine ⟨p, cap, hv, hs, fun a ha => ?_⟩
  subst hv ha
  obtain ⟨b, off, sp⟩ := a
  have h2 := hs.spot _ rfl
  simp at h2
  subst h2
  rcases h.2 with ⟨h3, _⟩ | ⟨g, cap', cur, h3, _, hg, _⟩
  · cases h3
  · injection h3 with h3 _ _
    injection h3 with h3; injection h3 with h3
    subst h3
    exact (Array.getElem?_eq_some_iff.1 hg).1
/-- no text is longer than can be -/
def Fit (L : List ByteArray) : Prop := ∀ i, (gi L i).size ≤ maxLen
theorem Fit.of {L : List ByteArray} (h : ∀ i, i < L.length → (gi L i).size ≤ maxLen) : Fit L := by
  intro i
  by_cases hi : i < L.length
  · exact h i hi
  · have : gi L i = default := by simp [gi, List.getD, List.getElem?_eq_none (Nat.le_of_not_lt hi)]
    rw [this]; exact Nat.zero_le _
theorem min_ex (key : ByteArray) (L : List ByteArray) : ∀ k, ∃ m, MinTo (klt key) L (k + 1) m
  | 0 => ⟨_, min_start (klt_law key) L⟩
  | k + 1 => by
    obtain ⟨m, hm⟩ := min_ex key L k
    cases h : klt key (gi L (k + 1)) m with
    | true => exact ⟨_, min_new (klt_law key) hm h⟩
    | false => exact ⟨_, min_old hm h⟩
/-- whose a key is -/
noncomputable def kmin (key : ByteArray) (L : List ByteArray) : ByteArray := Classical.epsilon fun m => IsMin (klt key) L m
theorem kmin_is (key : ByteArray) (L : List ByteArray) (h : 0 < L.length) : IsMin (klt key) L (kmin key L) := by
  obtain ⟨m, hm⟩ := min_ex key L (L.length - 1)
  rw [show L.length - 1 + 1 = L.length by omega] at hm
  exact Classical.epsilon_spec ⟨m, hm.is⟩
theorem kmin_eq {key : ByteArray} {L : List ByteArray} {m : ByteArray} (h : IsMin (klt key) L m) : m = kmin key L :=
  have h2 := kmin_is key L (List.length_pos_iff.2 (fun e => by rw [e] at h; exact absurd h.1 (by simp)))
  min_unique (klt_tot key) h h2 h2.1 h.1
set_option maxRecDepth 100000 in
set_option maxHeartbeats 2000000 in
theorem minfunc_is (key : ByteArray) (kb : Nat) (p : Option Addr) (cap : Nat) (L : List ByteArray) (h1 : key.size ≤ maxLen) (hf : Fit L) (h0 : 0 < L.length) (w : World) (hk : Blk w kb #[.string key] 9) (hs : RS w p cap L) :
    Calls Try.prog 14 #[.slice p L.length cap, .func (.func 19) #[] #[.pointer (some ⟨kb, 0, none⟩)]] w fun e w' => e = .returned (.string (kmin key L)) ∧ Below w.heap.size w w' := by
  obtain ⟨n, hn⟩ : ∃ n, n = L.length := ⟨_, rfl⟩
  obtain ⟨lb, off, rfl⟩ := hs.src.of_pos (by have := hs.src.fits; omega)
  have hlb := hs.lt _ rfl
  have cell := Lib.hid (fun (w' : World) (hb : Below w.heap.size w w') (i : Nat) (hi : i < n) => (show w'.cell? ⟨lb, off + i, none⟩ = some (.string (gi L i)) from (hs.src.below hb hs.lt).at_ i _ (sl_at L i (by omega))))
  have hkc := Lib.hid (fun (w' : World) (hb : Below w.heap.size w w') => (hk.below hb hk.lt).one)
  have hfit := hs.src.fits
  have hbig := hs.src.big
  unfold maxLen at hbig
  rw [← hn] at hfit h0 ⊢
  have c0 := cell.out w (Below.refl _ _) 0 (by omega)
  rw [Nat.add_zero] at c0
  have HN := Lib.hid hn
  have HF := Lib.hid hf
  clear hs hk hn hf
  go_enter Try.func14, Try.ntmps14
  go_wp2_with fail
  go_loopw [5, 6] (fun mv iv wr => ∃ (i : Nat) (m : ByteArray), iv = .int .i64 (i : Int) ∧ mv = .string m ∧ 1 ≤ i ∧ i ≤ n ∧ m.size ≤ maxLen ∧ MinTo (klt key) L i m ∧ Below w.heap.size w wr) (fun _ iv _ => n - (intOf iv).toNat)
  case atStart => exact ⟨1, _, rfl, rfl, by omega, by omega, HF.out 0, min_start (klt_law key) L, Below.refl _ _⟩
  case round =>
    obtain ⟨i, m, rfl, rfl, hi1, hi2, hm, hmin, hb⟩ := hrel
    have HM := Lib.hid hmin
    have HB := Lib.hid hb
    by_cases hi : i < n
    · have c1 := cell.out wr hb i hi
      have hxs := HF.out i
      have hgl := cmpK_dec key (gi L i) m
      have hkr := hkc.out wr hb
      have HY := Lib.hid (bydollar kb key (gi L i) m h1 hxs hm wr hkr)
      obtain ⟨x, hx⟩ : ∃ x, x = gi L i := ⟨_, rfl⟩
      rw [← hx] at c1 hxs hgl HY
      have HX := Lib.hid hx
      clear hx hmin hb hkr
      have q1 : (0 : Int) ≤ (i : Int) := by omega
      have q2 : (i : Int) < (n : Int) := by omega
      generalize cmpK key x m = r at *
      go_wp2_with fail
      refine HY.out.mono ?_
      rintro e w2 ⟨rfl, hb2⟩
      have hb3 := HB.out.trans (hb2.mono HB.out.size)
      have c2 := cell.out w2 hb3 i hi
      rw [← HX.out] at c2
      have HB3 := Lib.hid hb3
      clear hb2 hb3 c1
      cases hr : klt key x m with
      | true =>
        rw [hr] at hgl
        have HR := Lib.hid hr
        go_wp2_with fail
        go_roundw
        case rel => exact ⟨i + 1, x, by go_num, rfl, by omega, by omega, hxs, by have := min_new (klt_law key) HM.out (by rw [← HX.out]; exact HR.out); rwa [← HX.out] at this, HB3.out⟩
        case measure => simp [intOf]; omega
      | false =>
        rw [hr] at hgl
        have HR := Lib.hid hr
        go_wp2_with fail
        go_roundw
        case rel => exact ⟨i + 1, m, by go_num, rfl, by omega, by omega, hm, min_old HM.out (by rw [← HX.out]; exact HR.out), HB3.out⟩
        case measure => simp [intOf]; omega
    · have hin : i = n := by omega
      subst hin
      have e := kmin_eq (MinTo.is (by rw [← HN.out]; exact HM.out))
      clear hmin
      go_wp2_with fail
      go_ret
      exact ⟨by rw [← e]; rfl, HB.out⟩
end Go.Proofs.Ytapokcjfhgbagaa
