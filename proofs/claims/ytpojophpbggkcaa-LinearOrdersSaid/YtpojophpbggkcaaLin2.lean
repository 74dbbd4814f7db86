/- The closure of linear.Order. -/
import Derived.Test.YtpojophpbggkcaaLin
import Derived.Test.YtpojophpbggkcaaConf
namespace Go.Proofs.Ytpojophpbggkcaa
open Go.ChangeShapes Go.WideShapes Go.ChangeAt Go.RowKit
set_option linter.unusedVariables false

theorem kbel {w w' : World} {a : Addr} {u : Value} (hb : Below w.heap.size w w') (h : w.cell? a = some u) : w'.cell? a = some u := (hb.cell (World.block_lt_of_cell? _ _ h)).trans h
theorem bel_next {W w w' : World} (h : Below W.heap.size W w) (hb : Below w.heap.size w w') : Below W.heap.size W w' := h.trans (hb.mono h.size)
theorem EvAt.below {w w' : World} {b o : Nat} {e : Ev} (h : EvAt w b o e) (hb : Below w.heap.size w w') : EvAt w' b o e := by
  obtain ⟨h0, h1, h2, h3, h4, h5, h6, h7, h8, h9, h10⟩ := h
  exact ⟨kbel hb h0, kbel hb h1, kbel hb h2, kbel hb h3, kbel hb h4, kbel hb h5, kbel hb h6, kbel hb h7, kbel hb h8, kbel hb h9, kbel hb h10⟩
theorem ix_events {o : Oper} {a : Act} {w : World} (x y : Operand) (ho : o.op = .indexAddr 22 x y) (bl off len cap k : Nat) (hx : a.eval x = .slice (some ⟨bl, off, none⟩) len cap) (hy : a.eval y = .int .i64 (k : Int)) (hk : k < len) : (execOp a.eval o).run Try.prog w = .ok (.value (.pointer (some ⟨bl, off + k * 11, none⟩))) w := by
  have q1 : (0 : Int) ≤ (k : Int) := by omega
  have q2 : (k : Int) < (len : Int) := by omega
  unfold execOp
  simp only [ho, hx, hy]
  go_simp
theorem ld_slice {w : World} {ad : Addr} {v : Value} (h : w.cell? ad = some v) : (loadVar 22 ad).run Try.prog w = .ok v w := by go_simp
theorem bs_ints {o : Oper} {a : Act} {w : World} (i j : Tmp) (ho : o.op = .buildSlice 23 2 #[(0, .tmp i), (1, .tmp j)]) (m n : Int) (hx : a.tmps[i]?.getD undef = .int .i64 m) (hy : a.tmps[j]?.getD undef = .int .i64 n) : (execOp a.eval o).run Try.prog w = .ok (.value (.slice (some ⟨w.heap.size, 0, none⟩) 2 2)) (w.alloc (.cells #[.int .i64 m, .int .i64 n] 3)) := by
  unfold execOp
  simp only [ho]
  go_simp
set_option maxRecDepth 100000 in
set_option maxHeartbeats 8000000 in
theorem ord_fn (lb bl off len cap : Nat) (E : Nat → Ev) (i k : Nat) (hi : i < len) (hk : k < len) (w : World) (hlb : lb < w.heap.size) (hl : w.cell? ⟨lb, 0, none⟩ = some (.slice (some ⟨bl, off, none⟩) len cap)) (hs : ES w bl off len E) :
    Calls Try.prog 14 #[.int .i64 (i : Int), .int .i64 (k : Int), .pointer (some ⟨lb, 0, none⟩)] w fun e w' => e = .returned (.int .i64 (cmpE (E i) (E k))) ∧ Below w.heap.size w w' := by
  have ha := hs.ev i hi
  have hb := hs.ev k hk
  unfold cmpE
  generalize E i = x at *
  generalize E k = y at *
  clear hs
  go_enter Try.func14, Try.ntmps14
  go_wp2_with fail
  refine wp_region_grow (by kernel_rfl) ?_
  refine tkG 0 (some 6) (.slice (some ⟨bl, off, none⟩) len cap) rfl (by rfl) (by kernel_rfl) (by kernel_rfl) (by kernel_rfl) (fun _ _ _ h => h) (by kernel_rfl) (fun w' hg => run_ld 22 (.tmp 2) (by rfl) ⟨lb, 0, none⟩ (by kernel_rfl) (ld_slice (kbel hg hl))) ?_
  refine tkG (0 + 1) (some (6 + 1)) (.int .i64 (i : Int)) rfl (by rfl) (by kernel_rfl) (by kernel_rfl) (by kernel_rfl) (fun _ _ _ h => h) (by kernel_rfl) (fun _ _ => by kernel_rfl) ?_
  refine tkG (0 + 2) (some (6 + 2)) (.pointer (some ⟨bl, off + i * 11, none⟩)) rfl (by rfl) (by kernel_rfl) (by kernel_rfl) (by kernel_rfl) (fun _ _ _ h => h) (by kernel_rfl) (fun w' hg => ix_events (.tmp 6) (.tmp (6 + 1)) (by rfl) bl off len cap i (by kernel_rfl) (by kernel_rfl) hi) ?_
  refine tkG (0 + 3) (some (6 + 3)) (.agg (evV x)) rfl (by rfl) (by kernel_rfl) (by kernel_rfl) (by kernel_rfl) (fun _ _ _ h => h) (by kernel_rfl) (fun w' hg => run_ld 40 (.tmp (6 + 2)) (by rfl) ⟨bl, off + i * 11, none⟩ (by kernel_rfl) (ha.below (Grow.next (Grow.drew (Grow.rfl' w)) hg)).load) ?_
  refine clG (0 + 4) (some (6 + 4)) (.int .i64 (whenE x)) 17 #[.agg (evV x)] rfl (by rfl) (by kernel_rfl) (by kernel_rfl) (by kernel_rfl) (fun _ _ _ h => h) (by kernel_rfl) (fun w => by kernel_rfl) (fun w hg => when_is x w) ?_
  refine tkG 5 (some 11) (.slice (some ⟨bl, off, none⟩) len cap) rfl (by rfl) (by kernel_rfl) (by kernel_rfl) (by kernel_rfl) (fun _ _ _ h => h) (by kernel_rfl) (fun w' hg => run_ld 22 (.tmp 2) (by rfl) ⟨lb, 0, none⟩ (by kernel_rfl) (ld_slice (kbel hg hl))) ?_
  refine tkG (5 + 1) (some (11 + 1)) (.int .i64 (k : Int)) rfl (by rfl) (by kernel_rfl) (by kernel_rfl) (by kernel_rfl) (fun _ _ _ h => h) (by kernel_rfl) (fun _ _ => by kernel_rfl) ?_
  refine tkG (5 + 2) (some (11 + 2)) (.pointer (some ⟨bl, off + k * 11, none⟩)) rfl (by rfl) (by kernel_rfl) (by kernel_rfl) (by kernel_rfl) (fun _ _ _ h => h) (by kernel_rfl) (fun w' hg => ix_events (.tmp 11) (.tmp (11 + 1)) (by rfl) bl off len cap k (by kernel_rfl) (by kernel_rfl) hk) ?_
  refine tkG (5 + 3) (some (11 + 3)) (.agg (evV y)) rfl (by rfl) (by kernel_rfl) (by kernel_rfl) (by kernel_rfl) (fun _ _ _ h => h) (by kernel_rfl) (fun w' hg => run_ld 40 (.tmp (11 + 2)) (by rfl) ⟨bl, off + k * 11, none⟩ (by kernel_rfl) (hb.below (Grow.next (Grow.drew (Grow.rfl' w)) hg)).load) ?_
  refine clG (5 + 4) (some (11 + 4)) (.int .i64 (whenE y)) 17 #[.agg (evV y)] rfl (by rfl) (by kernel_rfl) (by kernel_rfl) (by kernel_rfl) (fun _ _ _ h => h) (by kernel_rfl) (fun w => by kernel_rfl) (fun w hg => when_is y w) ?_
  refine clG 10 (some 16) (.int .i64 (cmpI (whenE x) (whenE y))) 16 #[.int .i64 (whenE x), .int .i64 (whenE y)] rfl (by rfl) (by kernel_rfl) (by kernel_rfl) (by kernel_rfl) (fun _ _ _ h => h) (by kernel_rfl) (fun w => by kernel_rfl) (fun w hg => (cmp_i (whenE x) (whenE y) w).mono fun e w' h => ⟨h.1, h.2 ▸ Grow.rfl' _⟩) ?_
  refine tkG 11 (some 17) (.slice (some ⟨bl, off, none⟩) len cap) rfl (by rfl) (by kernel_rfl) (by kernel_rfl) (by kernel_rfl) (fun _ _ _ h => h) (by kernel_rfl) (fun w' hg => run_ld 22 (.tmp 2) (by rfl) ⟨lb, 0, none⟩ (by kernel_rfl) (ld_slice (kbel hg hl))) ?_
  refine tkG (11 + 1) (some (17 + 1)) (.int .i64 (i : Int)) rfl (by rfl) (by kernel_rfl) (by kernel_rfl) (by kernel_rfl) (fun _ _ _ h => h) (by kernel_rfl) (fun _ _ => by kernel_rfl) ?_
  refine tkG (11 + 2) (some (17 + 2)) (.pointer (some ⟨bl, off + i * 11, none⟩)) rfl (by rfl) (by kernel_rfl) (by kernel_rfl) (by kernel_rfl) (fun _ _ _ h => h) (by kernel_rfl) (fun w' hg => ix_events (.tmp 17) (.tmp (17 + 1)) (by rfl) bl off len cap i (by kernel_rfl) (by kernel_rfl) hi) ?_
  refine tkG (11 + 3) (some (17 + 3)) (.agg (evV x)) rfl (by rfl) (by kernel_rfl) (by kernel_rfl) (by kernel_rfl) (fun _ _ _ h => h) (by kernel_rfl) (fun w' hg => run_ld 40 (.tmp (17 + 2)) (by rfl) ⟨bl, off + i * 11, none⟩ (by kernel_rfl) (ha.below (Grow.next (Grow.drew (Grow.rfl' w)) hg)).load) ?_
  refine clG (11 + 4) (some (17 + 4)) (.int .i64 (rankE x)) 18 #[.agg (evV x)] rfl (by rfl) (by kernel_rfl) (by kernel_rfl) (by kernel_rfl) (fun _ _ _ h => h) (by kernel_rfl) (fun w => by kernel_rfl) (fun w hg => rank_is x w) ?_
  refine tkG 16 (some 22) (.slice (some ⟨bl, off, none⟩) len cap) rfl (by rfl) (by kernel_rfl) (by kernel_rfl) (by kernel_rfl) (fun _ _ _ h => h) (by kernel_rfl) (fun w' hg => run_ld 22 (.tmp 2) (by rfl) ⟨lb, 0, none⟩ (by kernel_rfl) (ld_slice (kbel hg hl))) ?_
  refine tkG (16 + 1) (some (22 + 1)) (.int .i64 (k : Int)) rfl (by rfl) (by kernel_rfl) (by kernel_rfl) (by kernel_rfl) (fun _ _ _ h => h) (by kernel_rfl) (fun _ _ => by kernel_rfl) ?_
  refine tkG (16 + 2) (some (22 + 2)) (.pointer (some ⟨bl, off + k * 11, none⟩)) rfl (by rfl) (by kernel_rfl) (by kernel_rfl) (by kernel_rfl) (fun _ _ _ h => h) (by kernel_rfl) (fun w' hg => ix_events (.tmp 22) (.tmp (22 + 1)) (by rfl) bl off len cap k (by kernel_rfl) (by kernel_rfl) hk) ?_
  refine tkG (16 + 3) (some (22 + 3)) (.agg (evV y)) rfl (by rfl) (by kernel_rfl) (by kernel_rfl) (by kernel_rfl) (fun _ _ _ h => h) (by kernel_rfl) (fun w' hg => run_ld 40 (.tmp (22 + 2)) (by rfl) ⟨bl, off + k * 11, none⟩ (by kernel_rfl) (hb.below (Grow.next (Grow.drew (Grow.rfl' w)) hg)).load) ?_
  refine clG (16 + 4) (some (22 + 4)) (.int .i64 (rankE y)) 18 #[.agg (evV y)] rfl (by rfl) (by kernel_rfl) (by kernel_rfl) (by kernel_rfl) (fun _ _ _ h => h) (by kernel_rfl) (fun w => by kernel_rfl) (fun w hg => rank_is y w) ?_
  refine clG 21 (some 27) (.int .i64 (cmpI (rankE x) (rankE y))) 16 #[.int .i64 (rankE x), .int .i64 (rankE y)] rfl (by rfl) (by kernel_rfl) (by kernel_rfl) (by kernel_rfl) (fun _ _ _ h => h) (by kernel_rfl) (fun w => by kernel_rfl) (fun w hg => (cmp_i (rankE x) (rankE y) w).mono fun e w' h => ⟨h.1, h.2 ▸ Grow.rfl' _⟩) ?_
  refine anG 22 (some 28) (by kernel_rfl) rfl (by rfl) (by kernel_rfl) (fun w => .slice (some ⟨w.heap.size, 0, none⟩) 2 2) (fun w => w.alloc (.cells #[.int .i64 (cmpI (whenE x) (whenE y)), .int .i64 (cmpI (rankE x) (rankE y))] 3)) (fun w => (Grow.rfl' w).alloc _) (fun w => bs_ints 16 27 (by rfl) _ _ (by kernel_rfl) (by kernel_rfl)) (fun w1 hg1 => ?_)
  refine clG 23 (some 29) (.int .i64 (orI (cmpI (whenE x) (whenE y)) (cmpI (rankE x) (rankE y)))) 15 #[.slice (some ⟨w1.heap.size, 0, none⟩) 2 2] rfl (by rfl) (by kernel_rfl) (by kernel_rfl) (by kernel_rfl) (fun _ _ _ h => h) (by kernel_rfl) (fun w => by kernel_rfl) (fun w2 hg2 => (or_2 w1.heap.size _ _ 3 w2 ((Blk.new _ _ _).below hg2 (by simp))).mono fun e w' h => ⟨h.1, h.2 ▸ Grow.rfl' _⟩) ?_
  refine tkG 24 (some 5) (.int .i64 (orI (cmpI (whenE x) (whenE y)) (cmpI (rankE x) (rankE y)))) rfl (by rfl) (by kernel_rfl) (by kernel_rfl) (by kernel_rfl) (fun _ _ _ h => h) (by kernel_rfl) (fun _ _ => by kernel_rfl) ?_
  refine dnG (by kernel_rfl) (fun w3 hg3 => ?_) _
  have hB : Below w.heap.size w w3 := Grow.next (Grow.next (Grow.drew (Grow.rfl' w)) (Grow.alloc hg1 _)) hg3
  clear ha hb hl hg1 hg3
  simp only [Act.put, List.setIfInBounds_toArray, List.set_cons_zero, List.set_cons_succ]
  go_wp2_with fail
  go_ret
  exact ⟨rfl, hB⟩
end Go.Proofs.Ytpojophpbggkcaa
