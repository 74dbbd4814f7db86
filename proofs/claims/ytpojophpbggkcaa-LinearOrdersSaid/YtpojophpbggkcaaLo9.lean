/- linear.each and the reference's, at any order. -/
import Derived.Test.YtpojophpbggkcaaLo8
import Derived.Deep.LoopGhost
namespace Go.Proofs.Ytpojophpbggkcaa
open Go.ChangeShapes Go.WideShapes Go.ChangeAt Go.RowKit
set_option linter.unusedVariables false

/-- places as they are read, numbers of whatever size: m of them -/
structure OI (w : World) (po : Option Addr) (g oo m : Nat) (O : Nat → Int) : Prop where
  ptr : 0 < m → po = some ⟨g, oo, none⟩
  lt : 0 < m → g < w.heap.size
  at_ : ∀ j, j < m → w.cell? ⟨g, oo + j, none⟩ = some (.int .i64 (O j))
theorem OI.below {w w' : World} {po : Option Addr} {g oo m : Nat} {O : Nat → Int} (h : OI w po g oo m O) (hb : Below w.heap.size w w') : OI w' po g oo m O :=
  ⟨h.ptr, fun h0 => Nat.lt_of_lt_of_le (h.lt h0) hb.size, fun j hj => (hb.cell (p := ⟨g, oo + j, none⟩) (h.lt (by omega))).trans (h.at_ j hj)⟩
theorem OI.kept {w w' : World} {po : Option Addr} {g oo m : Nat} {O : Nat → Int} (h : OI w po g oo m O) (hk : Kept [] w w') : OI w' po g oo m O := h.below (hk.below (Nat.le_refl _) (by simp))
/-- an answer that tells whether -/
def IsR (r : Bool) (P : Prop) : Prop := r = true ↔ P
theorem IsR.same {a b : Bool} {P : Prop} (h : IsR a P) (k : IsR b P) : a = b := by
  unfold IsR at h k
  rw [Bool.eq_iff_iff, h, k]
def ISays (W : World) (P : Prop) (e : Ending) (w' : World) : Prop := ∃ r, e = .returned (.bool r) ∧ IsR r P ∧ Below W.heap.size W w'
/-- the first m are places, each another -/
def EachTo (n m : Nat) (O : Nat → Int) : Prop := ∀ i, i < m → 0 ≤ O i ∧ O i < (n : Int) ∧ ∀ k, k < i → O k ≠ O i
def EachP (n m : Nat) (O : Nat → Int) : Prop := m = n ∧ EachTo n m O
theorem lbool_info : (Try.prog.info? 4).map (fun i => (i.zero, i.size, i.bytes)) = some (some (.bool false), 1, 1) := by kernel_rfl
def brow (n : Nat) : Array Value := Array.replicate n (.bool false)
theorem make_bools (n : Nat) (hn : n ≤ 1048576) (w : World) : (Instr.makeSlice 64 (.int .i64 (n : Int)) (.int .i64 (n : Int))).run Try.prog w = .ok (.slice (some ⟨w.heap.size, 0, none⟩) n n) (w.alloc (.cells (brow n) 4)) := by
  obtain ⟨i0, hi, hz0, hz1, hz2⟩ := info_parts lbool_info
  have hb : (i0.bytes : Int) * (n : Int) ≤ 281474976710656 := by rw [hz2]; omega
  have hr := run_make (P := Try.prog) w 64 4 i0 (.bool false) Try.underlying64 hi hz0 .i64 .i64 n n (by omega) (by omega) hb (by omega)
  simp only [Int.toNat_natCast] at hr
  rw [hr]
  congr 3
  rw [hz1, Nat.mul_one]
  apply Array.ext'
  rw [show (Value.bool false).cells = #[Value.bool false] from rfl, toList_madeCells_one]
  simp [brow]
theorem brow_row {w : World} {g n : Nat} (h : Blk w g (brow n) 4) : RowV w g n (fun _ => .bool false) :=
  RowV.of_blk _ _ h (fun j hj => by simp [brow, hj])
/-- which places came among the first i -/
def cameB (O : Nat → Int) : Nat → Nat → Bool
  | 0, _ => false
  | i + 1, j => cameB O i j || decide (O i = (j : Int))
theorem cameB_iff (O : Nat → Int) (i j : Nat) : cameB O i j = true ↔ ∃ k, k < i ∧ O k = (j : Int) := by
  induction i with
  | zero => simp [cameB]
  | succ i ih =>
    simp only [cameB, Bool.or_eq_true, decide_eq_true_eq, ih]
    constructor
    · rintro (⟨k, h1, h2⟩ | h)
      · exact ⟨k, by omega, h2⟩
      · exact ⟨i, by omega, h⟩
    · rintro ⟨k, h1, h2⟩
      by_cases e : k = i
      · subst e; exact .inr h2
      · exact .inl ⟨k, by omega, h2⟩
def cameV (O : Nat → Int) (i j : Nat) : Value := .bool (cameB O i j)
theorem came_set (O : Nat → Int) (i x : Nat) (h : O i = (x : Int)) (j : Nat) : upd (cameV O i) x (.bool true) j = cameV O (i + 1) j := by
  unfold upd cameV
  by_cases e : j = x
  · subst e; rw [if_pos rfl]; simp [cameB, h]
  · rw [if_neg e]
    congr 1
    simp only [cameB, h]
    rw [decide_eq_false (by omega), Bool.or_false]
set_option maxRecDepth 100000 in
set_option maxHeartbeats 4000000 in
theorem each_is (po : Option Addr) (g oo m oc n : Nat) (O : Nat → Int) (hm : m ≤ 1000) (hn : n ≤ 1000) (w : World) (hr : OI w po g oo m O) :
    Calls Try.prog 20 #[.slice po m oc, .int .i64 (n : Int)] w (ISays w (EachP n m O)) := by
  have hsz := make_bools n (by omega)
  have HR := Lib.hid hr
  have hpo := hr.ptr
  clear hr
  go_enter Try.func20, Try.ntmps20
  go_wp2_with fail
  go_loopw [12] (fun iv' wr => ∃ i : Nat, iv' = .int .i64 (i : Int) ∧ i ≤ m ∧ EachTo n i O ∧ RowV wr w.heap.size n (cameV O i) ∧ Below w.heap.size w wr) (fun iv' _ => m - (intOf iv').toNat)
  case atStart => exact ⟨0, rfl, by omega, fun i hi => by omega, (brow_row (Blk.new _ _ _)).congr (fun j hj => by simp [cameV, cameB]), (Below.refl _ _).alloc (Nat.le_refl _) _⟩
  case round =>
    obtain ⟨i, rfl, hi, he, hs, hb⟩ := hrel
    have HS := Lib.hid hs
    have HB := Lib.hid hb
    have HE := Lib.hid he
    clear hs hb he
    by_cases hin : i < m
    · obtain rfl := hpo (by omega)
      have ci := (HR.out.below HB.out).at_ i hin
      have q1 : (0 : Int) ≤ (i : Int) := by omega
      have q2 : (i : Int) < (m : Int) := by omega
      by_cases h1 : O i < 0
      · have HX : Hid (IsR false (EachP n m O)) := Lib.hid (by unfold IsR; simp only [Bool.false_eq_true, false_iff]; rintro ⟨_, h⟩; have := (h i hin).1; omega)
        generalize O i = x at *
        go_wp2_with fail
        go_ret
        exact ⟨false, rfl, HX.out, HB.out⟩
      · by_cases h2 : (n : Int) ≤ O i
        · have HX : Hid (IsR false (EachP n m O)) := Lib.hid (by unfold IsR; simp only [Bool.false_eq_true, false_iff]; rintro ⟨_, h⟩; have := (h i hin).2.1; omega)
          generalize O i = x at *
          go_wp2_with fail
          go_ret
          exact ⟨false, rfl, HX.out, HB.out⟩
        · obtain ⟨x, hx⟩ : ∃ x : Nat, O i = (x : Int) := ⟨(O i).toNat, by omega⟩
          have hxn : x < n := by omega
          have cx := HS.out.cell hxn
          have fx := HS.out.free hxn
          have HS2 := Lib.hid ((HS.out.set _ hxn (.bool true)).congr (fun j hj => came_set O i x hx j))
          have HC := Lib.hid (cameB_iff O i x)
          rw [hx] at ci h1 h2
          have hsw := HS.out.1
          have q3 : (0 : Int) ≤ (x : Int) := by omega
          have q4 : (x : Int) < (n : Int) := by omega
          have d1 : decide ((x : Int) < 0) = false := by rw [decide_eq_false_iff_not]; omega
          have d2 : decide ((n : Int) ≤ (x : Int)) = false := by rw [decide_eq_false_iff_not]; omega
          have HXX := Lib.hid hx
          clear hx h1 h2
          unfold cameV at cx
          cases hc : cameB O i x with
          | true =>
            rw [hc] at cx HC
            have HX : Hid (IsR false (EachP n m O)) := Lib.hid (by
              unfold IsR
              simp only [Bool.false_eq_true, false_iff]
              rintro ⟨_, h⟩
              obtain ⟨k, h1, h2⟩ := HC.out.1 rfl
              exact (h i hin).2.2 k h1 (by rw [h2, HXX.out]))
            clear hc
            go_wp2_with fail
            go_ret
            exact ⟨false, rfl, HX.out, HB.out⟩
          | false =>
            rw [hc] at cx HC
            have HE2 : Hid (EachTo n (i + 1) O) := Lib.hid (fun j hj => by
              by_cases e : j = i
              · subst e
                refine ⟨by rw [HXX.out]; omega, by rw [HXX.out]; omega, fun k hk h2 => ?_⟩
                have := HC.out.2 ⟨k, hk, by rw [h2, HXX.out]⟩
                cases this
              · exact HE.out j (by omega))
            clear hc
            go_wp2_with fail
            go_roundw
            case rel => exact ⟨i + 1, by go_num, by omega, HE2.out, HS2.out, HB.out.setCell (p := ⟨w.heap.size, x, none⟩) (Nat.le_refl _) _⟩
            case measure => simp [intOf]; omega
    · obtain rfl : i = m := by omega
      by_cases hmn : i = n
      · subst hmn
        have HX : Hid (IsR true (EachP i i O)) := Lib.hid (by unfold IsR; exact ⟨fun _ => ⟨rfl, HE.out⟩, fun _ => rfl⟩)
        go_wp2_with fail
        go_ret
        exact ⟨true, ret_bool (by simp), HX.out, HB.out⟩
      · have HX : Hid (IsR false (EachP n i O)) := Lib.hid (by unfold IsR; simp only [Bool.false_eq_true, false_iff]; rintro ⟨h, _⟩; exact hmn h)
        have d5 : (((i : Nat) : Int) == (n : Int)) = false := by rw [beq_eq_false_iff_ne]; omega
        go_wp2_with fail
        go_ret
        exact ⟨false, ret_bool (by first | (simp; done) | (simp; omega)), HX.out, HB.out⟩
set_option maxRecDepth 100000 in
set_option maxHeartbeats 4000000 in
theorem reach_is (po : Option Addr) (g oo m oc n : Nat) (O : Nat → Int) (hm : m ≤ 1000) (hn : n ≤ 1000) (w : World) (hr : OI w po g oo m O) :
    Calls Try.prog 25 #[.slice po m oc, .int .i64 (n : Int)] w (ISays w (EachP n m O)) := by
  have HR := Lib.hid hr
  have hpo := hr.ptr
  clear hr
  by_cases hmn : m = n
  · subst hmn
    have d0 : (((m : Nat) : Int) != (m : Int)) = false := by simp
    go_enter Try.func25, Try.ntmps25
    go_wp2_with fail
    go_loopw [5] (fun iv' wr => ∃ i : Nat, iv' = .int .i64 (i : Int) ∧ i ≤ m ∧ EachTo m i O ∧ Kept [] w wr) (fun iv' _ => m - (intOf iv').toNat)
    case atStart => exact ⟨0, rfl, by omega, fun i hi => by omega, Kept.refl _ _⟩
    case round =>
      obtain ⟨i, rfl, hi, he, hk⟩ := hrel
      have HK := Lib.hid hk
      have HE := Lib.hid he
      clear hk he
      by_cases hin : i < m
      · obtain rfl := hpo (by omega)
        have ci := (HR.out.kept HK.out).at_ i hin
        have q1 : (0 : Int) ≤ (i : Int) := by omega
        have q2 : (i : Int) < (m : Int) := by omega
        by_cases h1 : O i < 0
        · have HX : Hid (IsR false (EachP m m O)) := Lib.hid (by unfold IsR; simp only [Bool.false_eq_true, false_iff]; rintro ⟨_, h⟩; have := (h i hin).1; omega)
          generalize O i = x at *
          go_wp2_with fail
          go_ret
          exact ⟨false, rfl, HX.out, HK.out.below (Nat.le_refl _) (by simp)⟩
        · by_cases h2 : (m : Int) ≤ O i
          · have HX : Hid (IsR false (EachP m m O)) := Lib.hid (by unfold IsR; simp only [Bool.false_eq_true, false_iff]; rintro ⟨_, h⟩; have := (h i hin).2.1; omega)
            generalize O i = x at *
            go_wp2_with fail
            go_ret
            exact ⟨false, rfl, HX.out, HK.out.below (Nat.le_refl _) (by simp)⟩
          · have HL : Hid (0 ≤ O i ∧ O i < (m : Int)) := Lib.hid (by omega)
            have d1 : decide (O i < 0) = false := by rw [decide_eq_false_iff_not]; exact h1
            have d2 : decide ((m : Int) ≤ O i) = false := by rw [decide_eq_false_iff_not]; exact h2
            obtain ⟨x, hx⟩ : ∃ x, x = O i := ⟨_, rfl⟩
            rw [← hx] at ci h1 h2 d1 d2
            have HXX := Lib.hid hx
            clear hx
            go_wp2_with fail
            obtain ⟨wo, hwo⟩ : ∃ wo, wo = wr := ⟨_, rfl⟩
            go_loopw [6] (fun jv wr => ∃ k : Nat, jv = .int .i64 (k : Int) ∧ k ≤ i ∧ (∀ j, j < k → O j ≠ O i) ∧ Kept [] w wr) (fun jv _ => i - (intOf jv).toNat)
            case atStart => exact ⟨0, rfl, by omega, fun j hj => by omega, HK.out⟩
            case round =>
              clear HK hwo ci
              obtain ⟨k, rfl, hki, hne, hk⟩ := hrel
              have HK := Lib.hid hk
              have HNE := Lib.hid hne
              clear hk hne
              by_cases hk2 : k < i
              · have ci := (HR.out.kept HK.out).at_ i hin
                have ck := (HR.out.kept HK.out).at_ k (by omega)
                rw [← HXX.out] at ci
                have q3 : (0 : Int) ≤ (k : Int) := by omega
                have q4 : (k : Int) < (m : Int) := by omega
                obtain ⟨y, hy⟩ : ∃ y, y = O k := ⟨_, rfl⟩
                rw [← hy] at ck
                have HYY := Lib.hid hy
                clear hy
                by_cases hxy : x = y
                · subst hxy
                  have HX : Hid (IsR false (EachP m m O)) := Lib.hid (by
                    unfold IsR
                    simp only [Bool.false_eq_true, false_iff]
                    rintro ⟨_, h⟩
                    exact (h i hin).2.2 k hk2 (by rw [← HXX.out, ← HYY.out]))
                  have d3 : (x == x) = true := by simp
                  go_wp2_with fail
                  go_quiet (fail)
                  go_wp2_with fail
                  go_ret
                  exact ⟨false, rfl, HX.out, (HK.out.drewN _).below (Nat.le_refl _) (by simp)⟩
                · have HN2 : Hid (∀ j, j < k + 1 → O j ≠ O i) := Lib.hid (fun j hj => by
                    by_cases e : j = k
                    · subst e; rw [← HXX.out, ← HYY.out]; exact fun h => hxy h.symm
                    · exact HNE.out j (by omega))
                  have d3 : (x == y) = false := by rw [beq_eq_false_iff_ne]; exact hxy
                  clear hxy
                  go_wp2_with fail
                  go_quiet (fail)
                  go_wp2_with fail
                  go_roundw
                  case rel => exact ⟨k + 1, by go_num, by omega, HN2.out, HK.out.drewN _⟩
                  case measure => simp [intOf]; omega
              · obtain rfl : k = i := by omega
                have HE2 : Hid (EachTo m (k + 1) O) := Lib.hid (fun j hj => by
                  by_cases e : j = k
                  · subst e; exact ⟨HL.out.1, HL.out.2, HNE.out⟩
                  · exact HE.out j (by omega))
                go_wp2_with fail
                go_roundw
                case rel => exact ⟨k + 1, by go_num, by omega, HE2.out, HK.out⟩
                case measure => simp [intOf]; omega
      · obtain rfl : i = m := by omega
        have HX : Hid (IsR true (EachP i i O)) := Lib.hid (by unfold IsR; exact ⟨fun _ => ⟨rfl, HE.out⟩, fun _ => rfl⟩)
        go_wp2_with fail
        go_ret
        exact ⟨true, rfl, HX.out, HK.out.below (Nat.le_refl _) (by simp)⟩
  · have HX : Hid (IsR false (EachP n m O)) := Lib.hid (by unfold IsR; simp only [Bool.false_eq_true, false_iff]; rintro ⟨h, _⟩; exact hmn h)
    have d0 : (((m : Nat) : Int) != (n : Int)) = true := by rw [bne_iff_ne]; omega
    go_enter Try.func25, Try.ntmps25
    go_wp2_with fail
    go_ret
    exact ⟨false, rfl, HX.out, Below.refl _ _⟩
end Go.Proofs.Ytpojophpbggkcaa
