/- Drawn regions by hand: whole structs loaded and stored beside a call. -/
import Derived.Test.YtdggnhgflfaffaaReg28
import Derived.Deep.RegionHeld3
namespace Go.Proofs.Ytdggnhgflfaffaa
open Go.ChangeShapes Go.WideShapes Go.ChangeAt Go.RowKit
set_option linter.unusedVariables false

section
variable {ops : Array Oper} {Q : Exit → Act → World → Prop} {S : World → Prop}
theorem run_index {o : Oper} {a : Act} {w : World} (x y : Operand) (ho : o.op = .indexAddr 24 x y) (bl off len cap k : Nat) (hx : a.eval x = .slice (some ⟨bl, off, none⟩) len cap) (hy : a.eval y = .int .i64 (k : Int)) (hk : k < len) : (execOp a.eval o).run Try.prog w = .ok (.value (.pointer (some ⟨bl, off + k * 4, none⟩))) w := by
  have q1 : (0 : Int) ≤ (k : Int) := by omega
  have q2 : (k : Int) < (len : Int) := by omega
  unfold execOp
  simp only [ho, hx, hy]
  go_simp
theorem tk {fuel : Nat} {listed : Array Bool} {a : Act} {w : World} (i : Nat) (d : Option Tmp) (v : Value) {oi : Oper} (hi : ops[i]? = some oi) (hd : oi.dst = d) (hs : Region.noSelect ops = true) (hf : Region.free .any ops listed i = true) (hr : (Region.ready .any ops listed).contains i = true)
    (hQ : ∀ c a w, Q (.panic c) (a.put oi.dst v) w → Q (.panic c) a w) (hw : Region.wanted oi (yielded ops a.tmps) = true) (hy : ∀ w, S w → (execOp a.eval oi).run Try.prog w = .ok (.value v) w) (hS : S w)
    (h : wpAnyH Try.prog .any ops Q S fuel (listed.setIfInBounds i true) (a.put d v) w) : wpAnyH Try.prog .any ops Q S (fuel + 1) listed a w := by
  subst hd
  exact wpAnyH_take hi hs hf hr hQ (.inl ⟨hw, hy⟩) hS h
theorem st_call {fuel : Nat} {listed : Array Bool} {a : Act} {w : World} (i : Nat) (d : Option Tmp) {o : Oper} {K : Act → World → Prop} (hg : Region.wanted o (yielded ops a.tmps) = true) (hd : o.dst = d) (f : FuncId) (args : Array Value) (hrun : (execOp a.eval o).run Try.prog w = .ok (.enter f args) w) {Post : Ending → World → Prop} (hc : Calls Try.prog f args w Post)
    (hK : Shut (∀ a w, S w → (S w → wpAnyH Try.prog .any ops Q S fuel (listed.setIfInBounds i true) a w) → K a w)) (hpost : ∀ e w', Post e w' → ∃ v, e = .returned v ∧ S w' ∧ (S w' → wpAnyH Try.prog .any ops Q S fuel (listed.setIfInBounds i true) (a.put d v) w')) :
    if Region.wanted o (yielded ops a.tmps) = true then Oper.wp Try.prog o a w K Q else K (a.put o.dst undef) w := by
  subst hd
  rw [if_pos hg]
  unfold Oper.wp
  rw [hrun, Oper.upon_enter]
  refine hc.mono (fun e w' hp => ?_)
  obtain ⟨v, rfl, hS, h⟩ := hpost e w' hp
  exact hK.out _ _ hS h
theorem run_alloc {o : Oper} {a : Act} {w : World} (ho : o.op = .alloc 38) : (execOp a.eval o).run Try.prog w = .ok (.value (.pointer (some ⟨w.heap.size, 0, none⟩))) (w.alloc (.cells rZ 38)) := by
  unfold execOp rZ
  simp only [ho]
  go_simp
theorem st_alloc {fuel : Nat} {listed : Array Bool} {a : Act} {w : World} (i : Nat) (d : Option Tmp) {o : Oper} {K : Act → World → Prop} (hg : Region.wanted o (yielded ops a.tmps) = true) (hd : o.dst = d) (ho : o.op = .alloc 38)
    (hK : Shut (∀ a w, S w → (S w → wpAnyH Try.prog .any ops Q S fuel (listed.setIfInBounds i true) a w) → K a w)) (hS : S (w.alloc (.cells rZ 38))) (h : S (w.alloc (.cells rZ 38)) → wpAnyH Try.prog .any ops Q S fuel (listed.setIfInBounds i true) (a.put d (.pointer (some ⟨w.heap.size, 0, none⟩))) (w.alloc (.cells rZ 38))) :
    if Region.wanted o (yielded ops a.tmps) = true then Oper.wp Try.prog o a w K Q else K (a.put o.dst undef) w := by
  subst hd
  rw [if_pos hg]
  unfold Oper.wp
  rw [run_alloc ho]
  exact hK.out _ _ hS h
theorem an_call {fuel : Nat} {listed : Array Bool} {a : Act} {w : World} (i : Nat) (d : Option Tmp) {o : Oper} (hr : Region.ready .any ops listed = [i]) (ho : ops[i]? = some o) (hg : Region.wanted o (yielded ops a.tmps) = true) (hd : o.dst = d) (f : FuncId) (args : Array Value)
    (hrun : (execOp a.eval o).run Try.prog w = .ok (.enter f args) w) {Post : Ending → World → Prop} (hc : Calls Try.prog f args w Post) (hpost : ∀ e w', Post e w' → ∃ v, e = .returned v ∧ S w' ∧ (S w' → wpAnyH Try.prog .any ops Q S fuel (listed.setIfInBounds i true) (a.put d v) w')) :
    wpAnyH Try.prog .any ops Q S (fuel + 1) listed a w :=
  wpAnyH_ready (rs := [i]) hr (by simp) (AllReadyH.cons ho (fun K hK => st_call i d hg hd f args hrun hc hK hpost) AllReadyH.nil)
theorem an_alloc {fuel : Nat} {listed : Array Bool} {a : Act} {w : World} (i : Nat) (d : Option Tmp) {o : Oper} (hr : Region.ready .any ops listed = [i]) (ho : ops[i]? = some o) (hg : Region.wanted o (yielded ops a.tmps) = true) (hd : o.dst = d) (hop : o.op = .alloc 38)
    (hS : S (w.alloc (.cells rZ 38))) (h : S (w.alloc (.cells rZ 38)) → wpAnyH Try.prog .any ops Q S fuel (listed.setIfInBounds i true) (a.put d (.pointer (some ⟨w.heap.size, 0, none⟩))) (w.alloc (.cells rZ 38))) :
    wpAnyH Try.prog .any ops Q S (fuel + 1) listed a w :=
  wpAnyH_ready (rs := [i]) hr (by simp) (AllReadyH.cons ho (fun K hK => st_alloc i d hg hd hop hK hS h) AllReadyH.nil)
theorem an_store {fuel : Nat} {listed : Array Bool} {a : Act} {w : World} (i : Nat) (d : Option Tmp) {o : Oper} (hr : Region.ready .any ops listed = [i]) (ho : ops[i]? = some o) (hg : Region.wanted o (yielded ops a.tmps) = true) (hd : o.dst = d) (x y : Operand) (hop : o.op = .store 38 x y)
    (g : Nat) (cs old : Array Value) (hx : a.eval x = .pointer (some ⟨g, 0, none⟩)) (hy : a.eval y = .agg cs) (hb : Blk w g old 38) (hz : cs.size = 18) (hzo : old.size = 18) (h1 : cs.all (·.oneCell') = true)
    (hS : S (w.setRow g cs)) (h : S (w.setRow g cs) → wpAnyH Try.prog .any ops Q S fuel (listed.setIfInBounds i true) (a.put d undef) (w.setRow g cs)) :
    wpAnyH Try.prog .any ops Q S (fuel + 1) listed a w := by
  subst hd
  exact any_store i hr ho hg x y hop g cs old hx hy hb hz hzo h1 hS h
theorem run_neq_u32 {o : Oper} {a : Act} {w : World} (x y : Operand) (ho : o.op = .binOp .neq 32 x y 32) (n : Int) (hx : a.eval x = .int .u32 n) (hy : a.eval y = .int .u32 n) : (execOp a.eval o).run Try.prog w = .ok (.value (.bool false)) w := by
  have b0 : (n != n) = false := by simp
  unfold execOp
  simp only [ho, hx, hy]
  go_simp
theorem run_neq_i64 {o : Oper} {a : Act} {w : World} (x y : Operand) (ho : o.op = .binOp .neq 3 x y 3) (n : Int) (hx : a.eval x = .int .i64 n) (hy : a.eval y = .int .i64 n) : (execOp a.eval o).run Try.prog w = .ok (.value (.bool false)) w := by
  have b0 : (n != n) = false := by simp
  unfold execOp
  simp only [ho, hx, hy]
  go_simp
theorem run_neq_bool {o : Oper} {a : Act} {w : World} (x y : Operand) (ho : o.op = .binOp .neq 4 x y 4) (n : Bool) (hx : a.eval x = .bool n) (hy : a.eval y = .bool n) : (execOp a.eval o).run Try.prog w = .ok (.value (.bool false)) w := by
  have b0 : (n != n) = false := by simp
  unfold execOp
  simp only [ho, hx, hy]
  go_simp
end
end Go.Proofs.Ytdggnhgflfaffaa
