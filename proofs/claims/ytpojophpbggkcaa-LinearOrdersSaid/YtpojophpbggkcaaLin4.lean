/- slices.SortStableFunc; linear.Order. -/
import Derived.Test.YtpojophpbggkcaaLin3
namespace Go.Proofs.Ytpojophpbggkcaa
open Go.ChangeShapes Go.WideShapes Go.ChangeAt Go.RowKit
set_option linter.unusedVariables false

theorem stable_zero (p : Option Addr) (cap : Nat) (fv : Value) (w : World) :
    Calls Try.prog 27 #[.slice p 0 cap, .int .i64 0, fv] w fun e w' => e = .returned (.tuple #[]) ∧ w' = w := by
  go_enter Try.func27, Try.ntmps27
  go_wp2_with fail
  go_loopw [7, 8] (fun av bv wr => av = .int .i64 0 ∧ bv = .int .i64 20 ∧ wr = w) (fun _ _ _ => 0)
  case atStart => exact ⟨rfl, rfl, rfl⟩
  case round =>
    obtain ⟨rfl, rfl, rfl⟩ := hrel
    go_wp2_with fail
    refine (ins_none p 0 cap fv 0 0 (by omega) (by omega) _).mono ?_
    rintro e w2 ⟨rfl, rfl⟩
    go_wp2_with fail
    go_loopw [6] (fun av wr => av = .int .i64 20 ∧ wr = w2) (fun _ _ => 0)
    case atStart => exact ⟨rfl, rfl⟩
    case round =>
      obtain ⟨rfl, rfl⟩ := hrel
      go_wp2_with fail
      try rw [Exit.noGoto_ret]
      go_returns
      exact ⟨rfl, rfl⟩
set_option maxRecDepth 100000 in
set_option maxHeartbeats 2000000 in
theorem stable_is (E : Nat → Ev) (lb bl off ecap g n cap : Nat) (hn1 : 1 ≤ n) (hn2 : n ≤ 20) (hnc : n ≤ cap) (hcm : cap ≤ maxLen) (hgk : lb ≠ g) (hgb : bl ≠ g) (w : World) (hlb : lb < w.heap.size) (hl : w.cell? ⟨lb, 0, none⟩ = some (.slice (some ⟨bl, off, none⟩) n ecap)) (hes : ES w bl off n E) (hr : RowV w g n (iv (List.range n))) :
    Calls Try.prog 27 #[.slice (some ⟨g, 0, none⟩) n cap, .int .i64 (n : Int), .func (.func 14) #[] #[.pointer (some ⟨lb, 0, none⟩)]] w (SortPost w g n E) := by
  have HI := Lib.hid (ins_sort E lb bl off ecap g n cap hn1 hn2 hnc hcm hgk hgb w hlb hl hes hr)
  clear hl hr hes hcm
  by_cases h20 : n = 20
  · subst h20
    show Calls Try.prog 27 #[.slice (some ⟨g, 0, none⟩) 20 cap, .int .i64 20, .func (.func 14) #[] #[.pointer (some ⟨lb, 0, none⟩)]] w (SortPost w g 20 E)
    go_enter Try.func27, Try.ntmps27
    go_wp2_with fail
    go_loopw [7, 8] (fun av bv wr => ∃ f : Nat, av = .int .i64 (20 * (f : Int)) ∧ bv = .int .i64 (20 * (f : Int) + 20) ∧ f ≤ 1 ∧ (f = 0 → wr = w) ∧ (f = 1 → SortPost w g 20 E (.returned (.tuple #[])) wr)) (fun _ bv _ => 100 - (intOf bv).toNat)
    case atStart => exact ⟨0, rfl, rfl, by omega, fun _ => rfl, fun h => by omega⟩
    case round =>
      obtain ⟨f, rfl, rfl, hf1, hf2, hf3⟩ := hrel
      obtain rfl | rfl : f = 0 ∨ f = 1 := by omega
      · obtain rfl := hf2 rfl
        clear hf2 hf3
        go_wp2_with fail
        refine HI.out.mono ?_
        rintro e w2 ⟨rfl, hs⟩
        have HS := Lib.hid hs
        clear hs HI
        go_wp2_with fail
        go_roundw
        case rel => exact ⟨1, by simp, by simp, by omega, fun h => by omega, fun _ => ⟨rfl, HS.out⟩⟩
        case measure => simp [intOf]
      · have HS := Lib.hid (hf3 rfl)
        clear hf2 hf3 HI
        go_wp2_with fail
        refine (ins_none (some ⟨g, 0, none⟩) 20 cap _ 20 20 (by omega) (by omega) _).mono ?_
        rintro e w2 ⟨rfl, rfl⟩
        go_wp2_with fail
        obtain ⟨w3, hw3⟩ : ∃ w3, w3 = w2 := ⟨_, rfl⟩
        rw [← hw3] at HS
        go_loopw [6] (fun av wr => av = .int .i64 20 ∧ wr = w3) (fun _ _ => 0)
        case atStart => exact ⟨rfl, hw3.symm⟩
        case round =>
          obtain ⟨rfl, rfl⟩ := hrel
          go_wp2_with fail
          try rw [Exit.noGoto_ret]
          go_returns
          subst hw3
          exact HS.out
  · go_enter Try.func27, Try.ntmps27
    go_wp2_with fail
    go_loopw [7, 8] (fun av bv wr => av = .int .i64 0 ∧ bv = .int .i64 20 ∧ wr = w) (fun _ _ _ => 0)
    case atStart => exact ⟨rfl, rfl, rfl⟩
    case round =>
      obtain ⟨rfl, rfl, rfl⟩ := hrel
      go_wp2_with fail
      refine HI.out.mono ?_
      rintro e w2 ⟨rfl, hs⟩
      have HS := Lib.hid hs
      clear hs HI
      go_wp2_with fail
      obtain ⟨w3, hw3⟩ : ∃ w3, w3 = w2 := ⟨_, rfl⟩
      rw [← hw3] at HS
      go_loopw [6] (fun av wr => av = .int .i64 20 ∧ wr = w3) (fun _ _ => 0)
      case atStart => exact ⟨rfl, hw3.symm⟩
      case round =>
        obtain ⟨rfl, rfl⟩ := hrel
        go_wp2_with fail
        try rw [Exit.noGoto_ret]
        go_returns
        subst hw3
        exact ⟨rfl, HS.out⟩
theorem sort_zero (p : Option Addr) (cap : Nat) (fv : Value) (w : World) :
    Calls Try.prog 13 #[.slice p 0 cap, fv] w fun e w' => e = .returned (.tuple #[]) ∧ w' = w := by
  go_enter Try.func13, Try.ntmps13
  go_wp2_with (go_at_call 27; refine (stable_zero _ _ _ _).mono ?_; rintro e w2 ⟨rfl, rfl⟩)
  try rw [Exit.noGoto_ret]
  go_returns
  exact ⟨rfl, rfl⟩
theorem sort_is (E : Nat → Ev) (lb bl off ecap g n cap : Nat) (hn1 : 1 ≤ n) (hn2 : n ≤ 20) (hnc : n ≤ cap) (hcm : cap ≤ maxLen) (hgk : lb ≠ g) (hgb : bl ≠ g) (w : World) (hlb : lb < w.heap.size) (hl : w.cell? ⟨lb, 0, none⟩ = some (.slice (some ⟨bl, off, none⟩) n ecap)) (hes : ES w bl off n E) (hr : RowV w g n (iv (List.range n))) :
    Calls Try.prog 13 #[.slice (some ⟨g, 0, none⟩) n cap, .func (.func 14) #[] #[.pointer (some ⟨lb, 0, none⟩)]] w (SortPost w g n E) := by
  have HI := Lib.hid (stable_is E lb bl off ecap g n cap hn1 hn2 hnc hcm hgk hgb w hlb hl hes hr)
  clear hl hr hes hcm
  go_enter Try.func13, Try.ntmps13
  go_wp2_with fail
  refine HI.out.mono ?_
  rintro e w2 ⟨rfl, hs⟩
  have HS := Lib.hid hs
  clear hs HI
  go_wp2_with fail
  try rw [Exit.noGoto_ret]
  go_returns
  exact ⟨rfl, HS.out⟩
theorem lint_info : (Try.prog.info? 3).map (fun i => (i.zero, i.size, i.bytes)) = some (some (.int .i64 0), 1, 8) := by kernel_rfl
def irow (n : Nat) : Array Value := Array.replicate n (.int .i64 0)
theorem make_ints (n : Nat) (hn : n ≤ 1048576) (w : World) : (Instr.makeSlice 23 (.int .i64 (n : Int)) (.int .i64 (n : Int))).run Try.prog w = .ok (.slice (some ⟨w.heap.size, 0, none⟩) n n) (w.alloc (.cells (irow n) 3)) := by
  obtain ⟨i0, hi, hz0, hz1, hz2⟩ := info_parts lint_info
  have hb : (i0.bytes : Int) * (n : Int) ≤ 281474976710656 := by rw [hz2]; omega
  have hr := run_make (P := Try.prog) w 23 3 i0 (.int .i64 0) Try.underlying23 hi hz0 .i64 .i64 n n (by omega) (by omega) hb (by omega)
  simp only [Int.toNat_natCast] at hr
  rw [hr]
  congr 3
  rw [hz1, Nat.mul_one]
  apply Array.ext'
  rw [show (Value.int .i64 0).cells = #[Value.int .i64 0] from rfl, toList_madeCells_one]
  simp [irow]
theorem irow_row {w : World} {g n : Nat} (h : Blk w g (irow n) 3) : RowV w g n (fun _ => .int .i64 0) :=
  RowV.of_blk _ _ h (fun j hj => by simp [irow, hj])
/-- no order: the event is none -/
def badE (e : Ev) : Prop := e.beg < 0 ∨ e.fin < e.beg
instance (e : Ev) : Decidable (badE e) := by unfold badE; exact inferInstance
/-- the first i places are told -/
def told (i j : Nat) : Value := if j < i then .int .i64 (j : Int) else .int .i64 0
theorem told_set (i j : Nat) : upd (told i) i (.int .i64 (i : Int)) j = told (i + 1) j := by
  unfold upd told
  by_cases h : j = i
  · subst h; rw [if_pos rfl, if_pos (by omega)]
  · rw [if_neg h]
    by_cases h2 : j < i
    · rw [if_pos h2, if_pos (by omega)]
    · rw [if_neg h2, if_neg (by omega)]
theorem told_all (n : Nat) (j : Nat) (hj : j < n) : told n j = iv (List.range n) j := by
  unfold told iv
  rw [if_pos hj, gi_at _ _ (by simpa using hj)]; simp
def OrdPost (W : World) (n : Nat) (E : Nat → Ev) (e : Ending) (w' : World) : Prop :=
  (∃ i, i < n ∧ badE (E i)) ∧ e = .returned (.tuple #[.slice none 0 0, .int .i64 1]) ∧ Below W.heap.size W w' ∨
  (∀ i, i < n → ¬ badE (E i)) ∧ ∃ g M, e = .returned (.tuple #[.slice (some ⟨g, 0, none⟩) n n, .int .i64 0]) ∧ W.heap.size ≤ g ∧ Sorted E n M ∧ RowV w' g n (iv M) ∧ Below W.heap.size W w'
set_option maxRecDepth 100000 in
set_option maxHeartbeats 4000000 in
theorem order_zero (E : Nat → Ev) (p : Option Addr) (cap : Nat) (w : World) : Calls Try.prog 6 #[.slice p 0 cap] w (OrdPost w 0 E) := by
  have hsz : ∀ w, (Instr.makeSlice 23 (.int .i64 0) (.int .i64 0)).run Try.prog w = .ok (.slice (some ⟨w.heap.size, 0, none⟩) 0 0) (w.alloc (.cells (irow 0) 3)) := fun w => make_ints 0 (by omega) w
  go_enter Try.func6, Try.ntmps6
  go_wp2_with fail
  go_loopw [12] (fun iv' wr => iv' = .int .i64 0 ∧ RowV wr (w.heap.size + 1) 0 (iv []) ∧ Below w.heap.size w wr) (fun iv' _ => 0)
  case atStart => exact ⟨rfl, ⟨by simp, fun j hj => by omega⟩, ((Below.refl _ _).alloc (Nat.le_refl _) _).alloc (by simp) _⟩
  case round =>
    obtain ⟨rfl, hr, hb⟩ := hrel
    have HX := Lib.hid (And.intro hr hb)
    clear hr hb
    go_wp2_with fail
    refine (sort_zero _ _ _ _).mono ?_
    rintro e w2 ⟨rfl, rfl⟩
    go_wp2_with fail
    try rw [Exit.noGoto_ret]
    go_returns
    exact .inr ⟨fun i hi => by omega, _, [], rfl, by omega, ⟨by simp, List.Pairwise.nil⟩, HX.out.1, HX.out.2⟩
set_option maxRecDepth 100000 in
set_option maxHeartbeats 4000000 in
theorem order_is (E : Nat → Ev) (bl off n cap : Nat) (hn1 : 1 ≤ n) (hn2 : n ≤ 20) (w : World) (hes : ES w bl off n E) : Calls Try.prog 6 #[.slice (some ⟨bl, off, none⟩) n cap] w (OrdPost w n E) := by
  have hsz := make_ints n (by omega)
  have HES := Lib.hid hes
  have hbl := hes.lt (by omega)
  clear hes
  go_enter Try.func6, Try.ntmps6
  go_wp2_with fail
  go_loopw [12] (fun iv' wr => ∃ i : Nat, iv' = .int .i64 (i : Int) ∧ i ≤ n ∧ (∀ k, k < i → ¬ badE (E k)) ∧ Blk wr w.heap.size #[.slice (some ⟨bl, off, none⟩) n cap] 22 ∧ RowV wr (w.heap.size + 1) n (told i) ∧ Below w.heap.size w wr) (fun iv' _ => n - (intOf iv').toNat)
  case atStart => exact ⟨0, rfl, by omega, fun k hk => by omega, (Blk.new _ _ _).alloc _, (irow_row (Blk.new' (by simp))).congr (fun j hj => by simp [told]), ((Below.refl _ _).alloc (Nat.le_refl _) _).alloc (by simp) _⟩
  case round =>
    obtain ⟨i, rfl, hi, hok, hk, hr, hb⟩ := hrel
    have hr1 := hr.1
    have HK := Lib.hid hk
    have HR := Lib.hid hr
    have HB := Lib.hid hb
    have HO := Lib.hid hok
    clear hk hr hb hok
    by_cases hin : i < n
    · obtain ⟨a0, a1, a2, a3, a4, a5, a6, a7, a8, a9, a10⟩ := (HES.out.below HB.out).ev i hin
      have q1 : (0 : Int) ≤ (i : Int) := by omega
      have q2 : (i : Int) < (n : Int) := by omega
      have HE : Hid (∀ x, x = E i → (badE x → badE (E i)) ∧ (¬ badE x → ¬ badE (E i))) := Lib.hid (fun x h => by subst h; exact ⟨id, id⟩)
      obtain ⟨x, hx⟩ : ∃ x, x = E i := ⟨_, rfl⟩
      rw [← hx] at a0 a1 a2 a3 a4 a5 a6 a7 a8 a9 a10
      have HX := Lib.hid hx
      clear hx
      by_cases h1 : x.beg < 0
      · go_wp2_with fail
        try rw [Exit.noGoto_ret]
        go_returns
        exact .inl ⟨⟨i, hin, (HE.out x HX.out).1 (.inl h1)⟩, rfl, HB.out.alloc HB.out.size _⟩
      · by_cases h2 : x.fin < x.beg
        · go_wp2_with fail
          try rw [Exit.noGoto_ret]
          go_returns
          exact .inl ⟨⟨i, hin, (HE.out x HX.out).1 (.inr h2)⟩, rfl, HB.out.alloc HB.out.size _⟩
        · have HO2 : Hid (∀ k, k < i + 1 → ¬ badE (E k)) := Lib.hid (fun k hk => by
            by_cases e : k = i
            · subst e; exact (HE.out x HX.out).2 (fun h => h.elim h1 h2)
            · exact HO.out k (by omega))
          have ci := HR.out.cell hin
          have fi := HR.out.free hin
          unfold told at ci
          rw [if_neg (by omega)] at ci
          go_wp2_with fail
          go_roundw
          case rel =>
            refine ⟨i + 1, by go_num, by omega, HO2.out, ?_, ?_, ?_⟩
            · exact ((HK.out.other ⟨w.heap.size + 1, i, none⟩ (by simp) _).alloc _)
            · exact ((HR.out.set i hin (.int .i64 (i : Int))).kept ((Kept.refl [] _).alloc _) (by simp)).congr (fun j hj => told_set i j)
            · exact (HB.out.setCell (p := ⟨w.heap.size + 1, i, none⟩) (by simp) _).alloc (by simpa [World.setCell] using HB.out.size) _
          case measure => simp [intOf]; omega
    · obtain rfl : i = n := by omega
      have ck := HK.out.cell 0
      simp at ck
      have hlbw : w.heap.size < wr.heap.size := HK.out.lt
      have HS := Lib.hid (sort_is E w.heap.size bl off cap (w.heap.size + 1) i i (by omega) hn2 (Nat.le_refl _) (by unfold maxLen; omega) (by omega) (by omega) wr hlbw ck (HES.out.below HB.out) (HR.out.congr (told_all i)))
      clear ck
      go_wp2_with fail
      refine HS.out.mono ?_
      rintro e w2 ⟨rfl, M, hM, hr2, hk2⟩
      have HX := Lib.hid (And.intro hM (And.intro hr2 (HB.out.trans (hk2.below HB.out.size (fun x hx => by simp at hx; omega)))))
      clear hM hr2 hk2 HS
      go_wp2_with fail
      try rw [Exit.noGoto_ret]
      go_returns
      exact .inr ⟨HO.out, _, M, rfl, by omega, HX.out.1, HX.out.2.1, HX.out.2.2⟩
end Go.Proofs.Ytpojophpbggkcaa
