/- config: which settings may be; the document's answer too. -/
import Derived.Test.YtdggnhgflfaffaaOwn
import Derived.Laws.Tables
import Derived.Laws.Rows
import Derived.Great.BuildSlice
import Derived.IntWalk
namespace Go.Proofs.Ytdggnhgflfaffaa
set_option maxRecDepth 20000
open Go.ChangeShapes Go.WideShapes Go.ChangeAt Go.RowKit
set_option linter.unusedVariables false
set_option linter.unusedSimpArgs false

def cfgV (C : Nat → Int) : Array Value :=
  #[.int .i64 (C 0), .int .i64 (C 1), .int .i64 (C 2), .int .i64 (C 3), .int .i64 (C 4), .int .i64 (C 5), .int .i64 (C 6), .int .i64 (C 7), .int .i64 (C 8), .int .i64 (C 9), .int .i64 (C 10)]
theorem cfgCells {w : World} {b : Nat} {C : Nat → Int} {T : TypeId} (h : Blk w b (cfgV C) T) :
    w.cell? ⟨b, 0, none⟩ = some (.int .i64 (C 0)) ∧ w.cell? ⟨b, 1, none⟩ = some (.int .i64 (C 1)) ∧ w.cell? ⟨b, 2, none⟩ = some (.int .i64 (C 2)) ∧ w.cell? ⟨b, 3, none⟩ = some (.int .i64 (C 3)) ∧ w.cell? ⟨b, 4, none⟩ = some (.int .i64 (C 4)) ∧ w.cell? ⟨b, 5, none⟩ = some (.int .i64 (C 5)) ∧ w.cell? ⟨b, 6, none⟩ = some (.int .i64 (C 6)) ∧ w.cell? ⟨b, 7, none⟩ = some (.int .i64 (C 7)) ∧ w.cell? ⟨b, 8, none⟩ = some (.int .i64 (C 8)) ∧ w.cell? ⟨b, 9, none⟩ = some (.int .i64 (C 9)) ∧ w.cell? ⟨b, 10, none⟩ = some (.int .i64 (C 10)) :=
  ⟨h.cell 0, h.cell 1, h.cell 2, h.cell 3, h.cell 4, h.cell 5, h.cell 6, h.cell 7, h.cell 8, h.cell 9, h.cell 10⟩
theorem cfgGet (C : Nat → Int) : (cfgV C)[0]? = some (.int .i64 (C 0)) ∧ (cfgV C)[1]? = some (.int .i64 (C 1)) ∧ (cfgV C)[2]? = some (.int .i64 (C 2)) ∧ (cfgV C)[3]? = some (.int .i64 (C 3)) ∧ (cfgV C)[4]? = some (.int .i64 (C 4)) ∧ (cfgV C)[5]? = some (.int .i64 (C 5)) ∧ (cfgV C)[6]? = some (.int .i64 (C 6)) ∧ (cfgV C)[7]? = some (.int .i64 (C 7)) ∧ (cfgV C)[8]? = some (.int .i64 (C 8)) ∧ (cfgV C)[9]? = some (.int .i64 (C 9)) ∧ (cfgV C)[10]? = some (.int .i64 (C 10)) :=
  ⟨rfl, rfl, rfl, rfl, rfl, rfl, rfl, rfl, rfl, rfl, rfl⟩
def CkOk (C : Nat → Int) : Prop :=
  (1 ≤ C 0 ∧ C 0 ≤ 32) ∧ (0 ≤ C 1 ∧ C 1 ≤ 255 - C 0) ∧ (1 ≤ C 2 ∧ C 2 ≤ 1024) ∧ (1 ≤ C 3 ∧ C 3 ≤ 64) ∧ (C 0 * C 2 ≤ C 4 ∧ C 4 ≤ 1048576) ∧ (C 0 * C 2 ≤ C 5 ∧ C 5 ≤ 1048576) ∧ (1 ≤ C 6 ∧ C 6 ≤ 65536) ∧ (1 ≤ C 7 ∧ C 7 ≤ 65536) ∧ (1 ≤ C 8 ∧ C 8 ≤ 4096) ∧ (1 ≤ C 9 ∧ C 9 ≤ 64) ∧ (1 ≤ C 10 ∧ C 10 ≤ 1048576)
def InPost (W : World) (n a b : Int) (e : Ending) (w' : World) : Prop := (e = .returned (.bool true) ∧ (a ≤ n ∧ n ≤ b) ∨ e = .returned (.bool false) ∧ (n < a ∨ b < n)) ∧ w' = W
def BlockPost (W : World) (C : Nat → Int) (e : Ending) (w' : World) : Prop :=
  ((∃ v, e = .returned (.int .i64 v) ∧ ((1 ≤ C 0 ∧ C 0 ≤ 32) ∧ (1 ≤ C 2 ∧ C 2 ≤ 1024) ∧ v = C 0 * C 2 ∧ v ≠ 0 ∧ 1 ≤ v ∧ v ≤ 32768)) ∨ e = .returned (.int .i64 0) ∧ ¬ ((1 ≤ C 0 ∧ C 0 ≤ 32) ∧ (1 ≤ C 2 ∧ C 2 ≤ 1024))) ∧ w' = W.alloc (.cells (cfgV C) 23 (0, 0))
def CheckPost (W : World) (C : Nat → Int) (e : Ending) (w' : World) : Prop := (e = .returned (.int .i64 0) ∧ CkOk C ∨ e = .returned (.int .i64 2) ∧ ¬ CkOk C) ∧ Below W.heap.size W w'
theorem mul_small {a b : Int} (h1 : 1 ≤ a) (h2 : a ≤ 32) (h3 : 1 ≤ b) (h4 : b ≤ 1024) : 1 ≤ a * b ∧ a * b ≤ 32768 := by
  have := Int.mul_le_mul h1 h3 (by omega) (by omega)
  have := Int.mul_le_mul h2 h4 (by omega) (by omega)
  omega
theorem cin (n a b : Int) (w : World) : Calls Try.prog 54 #[.int .i64 n, .int .i64 a, .int .i64 b] w (InPost w n a b) := by
  by_cases h1 : a ≤ n
  · by_cases h2 : n ≤ b
    · go_enter Try.func54, Try.ntmps54
      go_wp2
      go_ret
      exact ⟨.inl ⟨by simp [h1, h2], h1, h2⟩, rfl⟩
    · go_enter Try.func54, Try.ntmps54
      go_wp2
      go_ret
      exact ⟨.inr ⟨by simp [h2], by omega⟩, rfl⟩
  · go_enter Try.func54, Try.ntmps54
    go_wp2
    go_ret
    exact ⟨.inr ⟨by simp, by omega⟩, rfl⟩
theorem cblock (C : Nat → Int) (w : World) : Calls Try.prog 53 #[.agg (cfgV C)] w (BlockPost w C) := by
  obtain ⟨c0, c1, c2, c3, c4, c5, c6, c7, c8, c9, c10⟩ := cfgGet C
  clear c1 c3 c4 c5 c6 c7 c8 c9 c10
  have hm := fun h1 h2 h3 h4 => mul_small (a := C 0) (b := C 2) h1 h2 h3 h4
  have HM := Lib.hid hm
  clear hm
  generalize hcv : cfgV C = cv at *
  go_enter Try.func53, Try.ntmps53
  go_wp2_with (go_at_call 54; refine (cin _ _ _ _).mono ?_; rintro e w' ⟨⟨rfl, hx⟩ | ⟨rfl, hx⟩, rfl⟩)
  · have h := HM.out (by omega) (by omega) (by omega) (by omega)
    go_ret
    exact ⟨.inl ⟨C 0 * C 2, ret_int (by simp only [wrap64]; omega), ⟨by omega, by omega⟩, ⟨by omega, by omega⟩, rfl, by omega, h.1, h.2⟩, by rw [hcv]⟩
  · go_ret
    exact ⟨.inr ⟨rfl, fun h => by omega⟩, by rw [hcv]⟩
  · go_ret
    exact ⟨.inr ⟨rfl, fun h => by omega⟩, by rw [hcv]⟩
theorem rin (n a b : Int) (w : World) : Calls Try.prog 29 #[.int .i64 n, .int .i64 a, .int .i64 b] w (InPost w n a b) := by
  by_cases h1 : a ≤ n
  · by_cases h2 : n ≤ b
    · go_enter Try.func29, Try.ntmps29
      go_wp2
      go_ret
      exact ⟨.inl ⟨by simp [h1, h2], h1, h2⟩, rfl⟩
    · go_enter Try.func29, Try.ntmps29
      go_wp2
      go_ret
      exact ⟨.inr ⟨by simp [h2], by omega⟩, rfl⟩
  · go_enter Try.func29, Try.ntmps29
    go_wp2
    go_ret
    exact ⟨.inr ⟨by simp, by omega⟩, rfl⟩
theorem rblock (C : Nat → Int) (w : World) : Calls Try.prog 30 #[.agg (cfgV C)] w (BlockPost w C) := by
  obtain ⟨c0, c1, c2, c3, c4, c5, c6, c7, c8, c9, c10⟩ := cfgGet C
  clear c1 c3 c4 c5 c6 c7 c8 c9 c10
  have hm := fun h1 h2 h3 h4 => mul_small (a := C 0) (b := C 2) h1 h2 h3 h4
  have HM := Lib.hid hm
  clear hm
  generalize hcv : cfgV C = cv at *
  go_enter Try.func30, Try.ntmps30
  go_wp2_with (go_at_call 29; refine (rin _ _ _ _).mono ?_; rintro e w' ⟨⟨rfl, hx⟩ | ⟨rfl, hx⟩, rfl⟩)
  · have h := HM.out (by omega) (by omega) (by omega) (by omega)
    go_ret
    exact ⟨.inl ⟨C 0 * C 2, ret_int (by simp only [wrap64]; omega), ⟨by omega, by omega⟩, ⟨by omega, by omega⟩, rfl, by omega, h.1, h.2⟩, by rw [hcv]⟩
  · go_ret
    exact ⟨.inr ⟨rfl, fun h => by omega⟩, by rw [hcv]⟩
  · go_ret
    exact ⟨.inr ⟨rfl, fun h => by omega⟩, by rw [hcv]⟩
theorem eqF_ok (d : Nat) (xs ys : Array Value) : ∀ fs : List (TypeId × Nat), (∀ f ∈ fs, ∃ a b r, ∀ w, (part f.1 xs f.2).run Try.prog w = .ok a w ∧ (part f.1 ys f.2).run Try.prog w = .ok b w ∧ (Op.equalIn d f.1 a b).run Try.prog w = .ok r w) → ∃ r, ∀ w, (eqF d xs ys fs).run Try.prog w = .ok r w
  | [], _ => ⟨true, fun w => rfl⟩
  | f :: fs, h => by
    obtain ⟨a, b, r, h1⟩ := h f (.head _)
    obtain ⟨r2, h2⟩ := eqF_ok d xs ys fs (fun g hg => h g (.tail _ hg))
    cases r with
    | false => exact ⟨false, fun w => by simp [eqF, (h1 w).1, (h1 w).2.1, (h1 w).2.2]⟩
    | true => exact ⟨r2, fun w => by simp [eqF, (h1 w).1, (h1 w).2.1, (h1 w).2.2, h2 w]⟩
theorem part_cfg (C : Nat → Int) (w : World) : (part 3 (cfgV C) 0).run Try.prog w = .ok (.int .i64 (C 0)) w ∧ (part 3 (cfgV C) 1).run Try.prog w = .ok (.int .i64 (C 1)) w ∧ (part 3 (cfgV C) 2).run Try.prog w = .ok (.int .i64 (C 2)) w ∧ (part 3 (cfgV C) 3).run Try.prog w = .ok (.int .i64 (C 3)) w ∧ (part 3 (cfgV C) 4).run Try.prog w = .ok (.int .i64 (C 4)) w ∧ (part 3 (cfgV C) 5).run Try.prog w = .ok (.int .i64 (C 5)) w ∧ (part 3 (cfgV C) 6).run Try.prog w = .ok (.int .i64 (C 6)) w ∧ (part 3 (cfgV C) 7).run Try.prog w = .ok (.int .i64 (C 7)) w ∧ (part 3 (cfgV C) 8).run Try.prog w = .ok (.int .i64 (C 8)) w ∧ (part 3 (cfgV C) 9).run Try.prog w = .ok (.int .i64 (C 9)) w ∧ (part 3 (cfgV C) 10).run Try.prog w = .ok (.int .i64 (C 10)) w :=
  ⟨by kernel_rfl, by kernel_rfl, by kernel_rfl, by kernel_rfl, by kernel_rfl, by kernel_rfl, by kernel_rfl, by kernel_rfl, by kernel_rfl, by kernel_rfl, by kernel_rfl⟩
theorem cfg_eq (C D : Nat → Int) : ∃ r, (r = true → C 0 = D 0) ∧ ∀ w, (binOp .eql 23 (.agg (cfgV C)) (.agg (cfgV D))).run Try.prog w = .ok (.bool r) w := by
  have hf : ((Try.prog.fieldsOf 23).toList.map fun f => (f.type, f.offset)) = [(3, 0), (3, 1), (3, 2), (3, 3), (3, 4), (3, 5), (3, 6), (3, 7), (3, 8), (3, 9), (3, 10)] := by kernel_rfl
  have hu : Try.prog.underlying 3 = some (.int .i64) := by kernel_rfl
  by_cases h0 : C 0 = D 0
  · suffices h : ∃ r, ∀ w, (binOp .eql 23 (.agg (cfgV C)) (.agg (cfgV D))).run Try.prog w = .ok (.bool r) w by
      obtain ⟨r, h⟩ := h
      exact ⟨r, fun _ => h0, h⟩
    have key : ∀ d, ∃ r, ∀ w, (eqF (d + 1) (cfgV C) (cfgV D) [(3, 0), (3, 1), (3, 2), (3, 3), (3, 4), (3, 5), (3, 6), (3, 7), (3, 8), (3, 9), (3, 10)]).run Try.prog w = .ok r w := by
      intro d
      refine eqF_ok (d + 1) _ _ _ ?_
      intro f hf
      simp only [List.mem_cons, List.not_mem_nil, or_false] at hf
      rcases hf with rfl | rfl | rfl | rfl | rfl | rfl | rfl | rfl | rfl | rfl | rfl
      · exact ⟨.int .i64 (C 0), .int .i64 (D 0), C 0 == D 0, fun w => ⟨(part_cfg C w).1, (part_cfg D w).1, run_equalIn_int _ _ _ _ _ _ _ hu⟩⟩
      · exact ⟨.int .i64 (C 1), .int .i64 (D 1), C 1 == D 1, fun w => ⟨(part_cfg C w).2.1, (part_cfg D w).2.1, run_equalIn_int _ _ _ _ _ _ _ hu⟩⟩
      · exact ⟨.int .i64 (C 2), .int .i64 (D 2), C 2 == D 2, fun w => ⟨(part_cfg C w).2.2.1, (part_cfg D w).2.2.1, run_equalIn_int _ _ _ _ _ _ _ hu⟩⟩
      · exact ⟨.int .i64 (C 3), .int .i64 (D 3), C 3 == D 3, fun w => ⟨(part_cfg C w).2.2.2.1, (part_cfg D w).2.2.2.1, run_equalIn_int _ _ _ _ _ _ _ hu⟩⟩
      · exact ⟨.int .i64 (C 4), .int .i64 (D 4), C 4 == D 4, fun w => ⟨(part_cfg C w).2.2.2.2.1, (part_cfg D w).2.2.2.2.1, run_equalIn_int _ _ _ _ _ _ _ hu⟩⟩
      · exact ⟨.int .i64 (C 5), .int .i64 (D 5), C 5 == D 5, fun w => ⟨(part_cfg C w).2.2.2.2.2.1, (part_cfg D w).2.2.2.2.2.1, run_equalIn_int _ _ _ _ _ _ _ hu⟩⟩
      · exact ⟨.int .i64 (C 6), .int .i64 (D 6), C 6 == D 6, fun w => ⟨(part_cfg C w).2.2.2.2.2.2.1, (part_cfg D w).2.2.2.2.2.2.1, run_equalIn_int _ _ _ _ _ _ _ hu⟩⟩
      · exact ⟨.int .i64 (C 7), .int .i64 (D 7), C 7 == D 7, fun w => ⟨(part_cfg C w).2.2.2.2.2.2.2.1, (part_cfg D w).2.2.2.2.2.2.2.1, run_equalIn_int _ _ _ _ _ _ _ hu⟩⟩
      · exact ⟨.int .i64 (C 8), .int .i64 (D 8), C 8 == D 8, fun w => ⟨(part_cfg C w).2.2.2.2.2.2.2.2.1, (part_cfg D w).2.2.2.2.2.2.2.2.1, run_equalIn_int _ _ _ _ _ _ _ hu⟩⟩
      · exact ⟨.int .i64 (C 9), .int .i64 (D 9), C 9 == D 9, fun w => ⟨(part_cfg C w).2.2.2.2.2.2.2.2.2.1, (part_cfg D w).2.2.2.2.2.2.2.2.2.1, run_equalIn_int _ _ _ _ _ _ _ hu⟩⟩
      · exact ⟨.int .i64 (C 10), .int .i64 (D 10), C 10 == D 10, fun w => ⟨(part_cfg C w).2.2.2.2.2.2.2.2.2.2, (part_cfg D w).2.2.2.2.2.2.2.2.2.2, run_equalIn_int _ _ _ _ _ _ _ hu⟩⟩
    obtain ⟨r, hr⟩ := key 9998
    refine ⟨r, fun w => ?_⟩
    rw [run_eql_struct, run_equalIn_agg _ _ _ _ _ (by kernel_rfl) (by kernel_rfl), eqFields_eqF _ _ _ _ (by kernel_rfl), hf]
    show (((eqF (9998 + 1) (cfgV C) (cfgV D) _).run Try.prog w).andThen _) = _
    rw [hr w]
    rfl
  · refine ⟨false, (fun h => by cases h), fun w => ?_⟩
    rw [run_eql_struct, run_equalIn_agg _ _ _ _ _ (by kernel_rfl) (by kernel_rfl), eqFields_eqF _ _ _ _ (by kernel_rfl), hf]
    simp [eqF, part_cfg C w, part_cfg D w, run_equalIn_int _ _ _ _ _ _ _ hu, h0]
theorem below2 (W : World) (a b : Obj) : Below W.heap.size W ((W.alloc a).alloc b) := ((Below.refl _ _).alloc (Nat.le_refl _) _).alloc (by simp) _
theorem ck_out {C : Nat → Int} (h : C 0 = 0) : ¬ CkOk C := fun hc => by have := hc.1.1; omega
theorem ccheck (C : Nat → Int) (w : World) : Calls Try.prog 26 #[.agg (cfgV C)] w (CheckPost w C) := by
  obtain ⟨c0, c1, c2, c3, c4, c5, c6, c7, c8, c9, c10⟩ := cfgGet C
  obtain ⟨r, hr0, hr1⟩ := cfg_eq C (fun _ => 0)
  have hr : ∀ w, (binOp .eql 23 (.agg #[.int .i64 (C 0), .int .i64 (C 1), .int .i64 (C 2), .int .i64 (C 3), .int .i64 (C 4), .int .i64 (C 5), .int .i64 (C 6), .int .i64 (C 7), .int .i64 (C 8), .int .i64 (C 9), .int .i64 (C 10)]) (.agg #[.int .i64 0, .int .i64 0, .int .i64 0, .int .i64 0, .int .i64 0, .int .i64 0, .int .i64 0, .int .i64 0, .int .i64 0, .int .i64 0, .int .i64 0])).run Try.prog w = .ok (.bool r) w := hr1
  have HB : Hid (∀ w, Calls Try.prog 53 #[.agg #[.int .i64 (C 0), .int .i64 (C 1), .int .i64 (C 2), .int .i64 (C 3), .int .i64 (C 4), .int .i64 (C 5), .int .i64 (C 6), .int .i64 (C 7), .int .i64 (C 8), .int .i64 (C 9), .int .i64 (C 10)]] w (BlockPost w C)) := Lib.hid (fun w => cblock C w)
  unfold BlockPost at HB
  clear hr1
  generalize cfgV C = cv at *
  cases r with
  | true =>
    have HO := Lib.hid (ck_out (hr0 rfl))
    clear hr0
    go_enter Try.func26, Try.ntmps26
    go_wp2_with (go_at_call 53; refine (HB.out _).mono ?_; rintro e w' ⟨⟨v, rfl, hv1, hv2, hv3, hv0, hv4, hv5⟩ | ⟨rfl, hb⟩, rfl⟩)
    all_goals go_ret
    all_goals exact ⟨.inr ⟨rfl, HO.out⟩, below2 _ _ _⟩
  | false =>
    clear hr0
    go_enter Try.func26, Try.ntmps26
    go_wp2_with (first | (go_at_call 53; refine (HB.out _).mono ?_; rintro e w' ⟨⟨v, rfl, hv1, hv2, hv3, hv0, hv4, hv5⟩ | ⟨rfl, hb⟩, rfl⟩) | (go_at_call 54; refine (cin _ _ _ _).mono ?_; rintro e w' ⟨⟨rfl, hx⟩ | ⟨rfl, hx⟩, rfl⟩))
    all_goals go_ret
    all_goals simp only [wrap64] at *
    all_goals first | exact ⟨.inl ⟨rfl, by unfold CkOk; omega⟩, below2 _ _ _⟩ | exact ⟨.inr ⟨rfl, fun h => by unfold CkOk at h; omega⟩, below2 _ _ _⟩
theorem below1 (W : World) (a : Obj) : Below W.heap.size W (W.alloc a) := (Below.refl _ _).alloc (Nat.le_refl _) _
set_option maxHeartbeats 1000000 in
theorem rcheck (C : Nat → Int) (w : World) : Calls Try.prog 7 #[.agg (cfgV C)] w (CheckPost w C) := by
  obtain ⟨c0, c1, c2, c3, c4, c5, c6, c7, c8, c9, c10⟩ := cfgGet C
  have HB : Hid (∀ w, Calls Try.prog 30 #[.agg #[.int .i64 (C 0), .int .i64 (C 1), .int .i64 (C 2), .int .i64 (C 3), .int .i64 (C 4), .int .i64 (C 5), .int .i64 (C 6), .int .i64 (C 7), .int .i64 (C 8), .int .i64 (C 9), .int .i64 (C 10)]] w (BlockPost w C)) := Lib.hid (fun w => rblock C w)
  unfold BlockPost at HB
  generalize cfgV C = cv at *
  go_enter Try.func7, Try.ntmps7
  go_wp2_with (first | (go_at_call 30; refine (HB.out _).mono ?_; rintro e w' ⟨⟨v, rfl, hv1, hv2, hv3, hv0, hv4, hv5⟩ | ⟨rfl, hb⟩, rfl⟩) | (go_at_call 29; refine (rin _ _ _ _).mono ?_; rintro e w' ⟨⟨rfl, hx⟩ | ⟨rfl, hx⟩, rfl⟩))
  all_goals try simp only [wrap64] at *
  all_goals first | (exfalso; omega) | go_ret
  all_goals first | exact ⟨.inl ⟨rfl, by unfold CkOk; omega⟩, below2 _ _ _⟩ | exact ⟨.inr ⟨rfl, fun h => by unfold CkOk at h; omega⟩, below2 _ _ _⟩ | exact ⟨.inr ⟨rfl, fun h => by unfold CkOk at h; omega⟩, below1 _ _⟩
end Go.Proofs.Ytdggnhgflfaffaa
