/- lightshipref35: when, less, Order. -/
import Derived.Test.YtpojophpbggkcaaLo10
import Derived.Lib.SliceRun
import Derived.Deep.LoopGhost
namespace Go.Proofs.Ytpojophpbggkcaa
open Go.ChangeShapes Go.WideShapes Go.ChangeAt Go.RowKit
set_option linter.unusedVariables false

set_option maxRecDepth 100000 in
theorem rwhen_is (e : Ev) (w : World) : Calls Try.prog 29 #[.agg (evV e)] w fun r w' => r = .returned (.int .i64 (whenE e)) ∧ Below w.heap.size w w' := by
  obtain ⟨e0, e1, e2, e3, e4, e5, e6, e7, e8, e9, e10⟩ := e
  unfold evV whenE
  dsimp only
  by_cases h : e2 = 4
  · subst h
    rw [if_pos rfl]
    go_enter Try.func29, Try.ntmps29
    go_wp2_with fail
    go_ret
    exact ⟨rfl, (Below.refl _ _).alloc (Nat.le_refl _) _⟩
  · rw [if_neg h]
    have hd : (e2 == 4) = false := by simpa using h
    go_enter Try.func29, Try.ntmps29
    go_wp2_with fail
    go_ret
    exact ⟨rfl, (Below.refl _ _).alloc (Nat.le_refl _) _⟩
/-- does one stand ahead of another one -/
def rlessB (x y : Ev) : Bool := if whenE x ≠ whenE y then decide (whenE x < whenE y) else (x.kind == 4 && y.kind != 4)
theorem rless_elt (E : Nat → Ev) (i j : Nat) (h : j < i) : rlessB (E i) (E j) = elt E i j := by
  unfold rlessB
  rw [Bool.eq_iff_iff, elt_iff]
  have hr : ∀ x : Ev, rankE x = if x.kind = 4 then 0 else 1 := fun x => rfl
  rw [hr, hr]
  split
  · rename_i h1; simp; omega
  · rename_i h1
    have h1 : whenE (E i) = whenE (E j) := by simpa using h1
    simp only [Bool.and_eq_true, beq_iff_eq, bne_iff_ne]
    split <;> split <;> rename_i a b <;> simp [a, b, h1] <;> omega
theorem evAt_of {w : World} {b : Nat} {e : Ev} (h : Blk w b (evV e) 40) : EvAt w b 0 e :=
  ⟨h.cell 0, h.cell 1, h.cell 2, h.cell 3, h.cell 4, h.cell 5, h.cell 6, h.cell 7, h.cell 8, h.cell 9, h.cell 10⟩
theorem run_bin {o : Oper} {a : Act} {w : World} (v : Value) (h : (execOp a.eval o).run Try.prog w = .ok (.value v) w) : (execOp a.eval o).run Try.prog w = .ok (.value v) w := h
theorem run_neq {o : Oper} {a : Act} {w : World} (i j : Tmp) (ho : o.op = .binOp .neq 3 (.tmp i) (.tmp j) 3) (m n : Int) (hx : a.tmps[i]?.getD undef = .int .i64 m) (hy : a.tmps[j]?.getD undef = .int .i64 n) : (execOp a.eval o).run Try.prog w = .ok (.value (.bool (m != n))) w := by
  unfold execOp
  simp only [ho]
  go_simp
theorem run_lss {o : Oper} {a : Act} {w : World} (i j : Tmp) (ho : o.op = .binOp .lss 3 (.tmp i) (.tmp j) 3) (m n : Int) (hx : a.tmps[i]?.getD undef = .int .i64 m) (hy : a.tmps[j]?.getD undef = .int .i64 n) : (execOp a.eval o).run Try.prog w = .ok (.value (.bool (decide (m < n)))) w := by
  unfold execOp
  simp only [ho]
  go_simp
set_option maxRecDepth 100000 in
set_option maxHeartbeats 4000000 in
theorem rless_is (x y : Ev) (w : World) : Calls Try.prog 19 #[.agg (evV x), .agg (evV y)] w fun r w' => r = .returned (.bool (rlessB x y)) ∧ Below w.heap.size w w' := by
  have HA : Hid (EvAt ((w.alloc (.cells (evV x) 40)).alloc (.cells (evV y) 40)) w.heap.size 0 x) := Lib.hid (evAt_of ((Blk.new w (evV x) 40).alloc _))
  have HB : Hid (EvAt ((w.alloc (.cells (evV x) 40)).alloc (.cells (evV y) 40)) (w.heap.size + 1) 0 y) := Lib.hid (evAt_of (Blk.new' (by simp)))
  go_enter Try.func19, Try.ntmps19
  go_wp2_with fail
  refine wp_region_grow (by kernel_rfl) ?_
  refine tkG 0 (some 5) (.agg (evV x)) rfl (by rfl) (by kernel_rfl) (by kernel_rfl) (by kernel_rfl) (fun _ _ _ h => h) (by kernel_rfl) (fun w' hg => run_ld 40 (.tmp 2) (by rfl) ⟨w.heap.size, 0, none⟩ (by kernel_rfl) (HA.out.below ((Grow.drew (Grow.rfl' _)).next hg)).load) ?_
  refine clG (0 + 1) (some (5 + 1)) (.int .i64 (whenE x)) 29 #[.agg (evV x)] rfl (by rfl) (by kernel_rfl) (by kernel_rfl) (by kernel_rfl) (fun _ _ _ h => h) (by kernel_rfl) (fun w => by kernel_rfl) (fun w hg => rwhen_is x w) ?_
  refine tkG (0 + 2) (some (5 + 2)) (.agg (evV y)) rfl (by rfl) (by kernel_rfl) (by kernel_rfl) (by kernel_rfl) (fun _ _ _ h => h) (by kernel_rfl) (fun w' hg => run_ld 40 (.tmp 3) (by rfl) ⟨w.heap.size + 1, 0, none⟩ (by kernel_rfl) (HB.out.below ((Grow.drew (Grow.rfl' _)).next hg)).load) ?_
  refine clG (0 + 3) (some (5 + 3)) (.int .i64 (whenE y)) 29 #[.agg (evV y)] rfl (by rfl) (by kernel_rfl) (by kernel_rfl) (by kernel_rfl) (fun _ _ _ h => h) (by kernel_rfl) (fun w => by kernel_rfl) (fun w hg => rwhen_is y w) ?_
  refine tkG 4 (some 9) (.bool (whenE x != whenE y)) rfl (by rfl) (by kernel_rfl) (by kernel_rfl) (by kernel_rfl) (fun _ _ _ h => h) (by kernel_rfl) (fun w' hg => run_neq 6 8 (by rfl) _ _ (by kernel_rfl) (by kernel_rfl)) ?_
  refine dnG (by kernel_rfl) (fun w3 hg3 => ?_) _
  have hB3 : Grow w w3 := Grow.next (Grow.alloc (Grow.alloc (Grow.rfl' w) _) _) (Grow.next (Grow.drew (Grow.rfl' _)) hg3)
  have HA3 := Lib.hid (HA.out.below (Grow.next (Grow.drew (Grow.rfl' _)) hg3))
  have HB3 := Lib.hid (HB.out.below (Grow.next (Grow.drew (Grow.rfl' _)) hg3))
  have HG3 := Lib.hid hB3
  clear HA HB hg3 hB3
  simp only [Act.put, List.setIfInBounds_toArray, List.set_cons_zero, List.set_cons_succ]
  by_cases hne : whenE x = whenE y
  · have HRL : Hid (rlessB x y = (x.kind == 4 && y.kind != 4)) := Lib.hid (by unfold rlessB; rw [if_neg (by simpa using hne)])
    have d0 : (whenE x != whenE y) = false := by simpa using hne
    obtain ⟨_, _, a2, _⟩ := HA3.out
    obtain ⟨_, _, b2, _⟩ := HB3.out
    clear hne
    by_cases hk : x.kind = 4
    · have d1 : (x.kind == 4) = true := by simpa using hk
      by_cases hk2 : y.kind = 4
      · have d2 : (y.kind != 4) = false := by simpa using hk2
        clear hk hk2
        go_wp2_with fail
        go_ret
        exact ⟨ret_bool (by rw [HRL.out]; simp [d1, d2]), HG3.out⟩
      · have d2 : (y.kind != 4) = true := by simpa using hk2
        clear hk hk2
        go_wp2_with fail
        go_ret
        exact ⟨ret_bool (by rw [HRL.out]; simp [d1, d2]), HG3.out⟩
    · have d1 : (x.kind == 4) = false := by simpa using hk
      clear hk
      go_wp2_with fail
      go_ret
      exact ⟨ret_bool (by rw [HRL.out]; simp [d1]), HG3.out⟩
  · have HRL : Hid (rlessB x y = decide (whenE x < whenE y)) := Lib.hid (by unfold rlessB; rw [if_pos (by simpa using hne)])
    have d0 : (whenE x != whenE y) = true := by simpa using hne
    clear hne
    go_wp2_with fail
    have HA := HA3
    have HB := HB3
    refine wp_region_grow (by kernel_rfl) ?_
    refine tkG 0 (some 10) (.agg (evV x)) rfl (by rfl) (by kernel_rfl) (by kernel_rfl) (by kernel_rfl) (fun _ _ _ h => h) (by kernel_rfl) (fun w' hg => run_ld 40 (.tmp 2) (by rfl) ⟨w.heap.size, 0, none⟩ (by kernel_rfl) (HA.out.below ((Grow.drew (Grow.rfl' _)).next hg)).load) ?_
    refine clG (0 + 1) (some (10 + 1)) (.int .i64 (whenE x)) 29 #[.agg (evV x)] rfl (by rfl) (by kernel_rfl) (by kernel_rfl) (by kernel_rfl) (fun _ _ _ h => h) (by kernel_rfl) (fun w => by kernel_rfl) (fun w hg => rwhen_is x w) ?_
    refine tkG (0 + 2) (some (10 + 2)) (.agg (evV y)) rfl (by rfl) (by kernel_rfl) (by kernel_rfl) (by kernel_rfl) (fun _ _ _ h => h) (by kernel_rfl) (fun w' hg => run_ld 40 (.tmp 3) (by rfl) ⟨w.heap.size + 1, 0, none⟩ (by kernel_rfl) (HB.out.below ((Grow.drew (Grow.rfl' _)).next hg)).load) ?_
    refine clG (0 + 3) (some (10 + 3)) (.int .i64 (whenE y)) 29 #[.agg (evV y)] rfl (by rfl) (by kernel_rfl) (by kernel_rfl) (by kernel_rfl) (fun _ _ _ h => h) (by kernel_rfl) (fun w => by kernel_rfl) (fun w hg => rwhen_is y w) ?_
    refine tkG 4 (some 14) (.bool (decide (whenE x < whenE y))) rfl (by rfl) (by kernel_rfl) (by kernel_rfl) (by kernel_rfl) (fun _ _ _ h => h) (by kernel_rfl) (fun w' hg => run_lss 11 13 (by rfl) _ _ (by kernel_rfl) (by kernel_rfl)) ?_
    refine tkG 5 (some 4) (.bool (decide (whenE x < whenE y))) rfl (by rfl) (by kernel_rfl) (by kernel_rfl) (by kernel_rfl) (fun _ _ _ h => h) (by kernel_rfl) (fun w' hg => by kernel_rfl) ?_
    refine dnG (by kernel_rfl) (fun w4 hg4 => ?_) _
    have hB4 : Grow w w4 := Grow.next HG3.out (Grow.next (Grow.drew (Grow.rfl' _)) hg4)
    have HG4 := Lib.hid hB4
    clear HA HB HA3 HB3 hg4 hB4
    simp only [Act.put, List.setIfInBounds_toArray, List.set_cons_zero, List.set_cons_succ]
    go_wp2_with fail
    go_ret
    exact ⟨ret_bool (by rw [HRL.out]), HG4.out⟩
end Go.Proofs.Ytpojophpbggkcaa
