/- Drawn regions by hand: whole structs loaded and stored beside a call. -/
import Derived.Test.YtdggnhgflfaffaaInbRef
import Derived.Deep.RegionHeld3
namespace Go.Proofs.Ytdggnhgflfaffaa
open Go.ChangeShapes Go.WideShapes Go.ChangeAt Go.RowKit
set_option linter.unusedVariables false

section
variable {ops : Array Oper} {Q : Exit → Act → World → Prop} {S : World → Prop}
theorem run_load_I {o : Oper} {a : Act} {w : World} (x : Operand) (ho : o.op = .load 38 x) (g : Nat) (hx : a.eval x = .pointer (some ⟨g, 0, none⟩)) {cs : Array Value} (hb : Blk w g cs 38) (hz : cs.size = 18) : (execOp a.eval o).run Try.prog w = .ok (.value (.agg cs)) w := by
  unfold execOp
  simp only [ho, hx, Instr.loadAt, Instr.sureAddr, Sem.run_bind, Sem.run_pure, Result.andThen_ok, load_I hb hz]
theorem run_load_at {o : Oper} {a : Act} {w : World} (T : TypeId) (x : Operand) (ho : o.op = .load T x) (ad : Addr) (hx : a.eval x = .pointer (some ad)) {v : Value} (hl : (loadVar T ad).run Try.prog w = .ok v w) : (execOp a.eval o).run Try.prog w = .ok (.value v) w := by
  unfold execOp
  simp only [ho, hx, Instr.loadAt, Instr.sureAddr, Sem.run_bind, Sem.run_pure, Result.andThen_ok, hl]
theorem load_u32 {w : World} {ad : Addr} {v : Value} (h : w.cell? ad = some v) : (loadVar 32 ad).run Try.prog w = .ok v w := by go_simp
theorem load_str {w : World} {ad : Addr} {v : Value} (h : w.cell? ad = some v) : (loadVar 9 ad).run Try.prog w = .ok v w := by go_simp
theorem load_int {w : World} {ad : Addr} {v : Value} (h : w.cell? ad = some v) : (loadVar 3 ad).run Try.prog w = .ok v w := by go_simp
theorem any_call {fuel : Nat} {listed : Array Bool} {a : Act} {w : World} (i : Nat) {o : Oper} (hr : Region.ready .any ops listed = [i]) (ho : ops[i]? = some o) (hg : Region.wanted o (yielded ops a.tmps) = true) (f : FuncId) (args : Array Value)
    (hrun : (execOp a.eval o).run Try.prog w = .ok (.enter f args) w) {Post : Ending → World → Prop} (hc : Calls Try.prog f args w Post) (hpost : ∀ e w', Post e w' → ∃ v, e = .returned v ∧ S w' ∧ (S w' → wpAnyH Try.prog .any ops Q S fuel (listed.setIfInBounds i true) (a.put o.dst v) w')) :
    wpAnyH Try.prog .any ops Q S (fuel + 1) listed a w := by
  refine wpAnyH_ready (rs := [i]) hr (by simp) (AllReadyH.cons ho (fun K hK => ?_) AllReadyH.nil)
  rw [if_pos hg]
  unfold Oper.wp
  rw [hrun, Oper.upon_enter]
  refine hc.mono (fun e w' hp => ?_)
  obtain ⟨v, rfl, hS, h⟩ := hpost e w' hp
  exact hK.out _ _ hS h
theorem any_store {fuel : Nat} {listed : Array Bool} {a : Act} {w : World} (i : Nat) {o : Oper} (hr : Region.ready .any ops listed = [i]) (ho : ops[i]? = some o) (hg : Region.wanted o (yielded ops a.tmps) = true) (x y : Operand) (hop : o.op = .store 38 x y)
    (g : Nat) (cs old : Array Value) (hx : a.eval x = .pointer (some ⟨g, 0, none⟩)) (hy : a.eval y = .agg cs) (hb : Blk w g old 38) (hz : cs.size = 18) (hzo : old.size = 18) (h1 : cs.all (·.oneCell') = true)
    (hS : S (w.setRow g cs)) (h : S (w.setRow g cs) → wpAnyH Try.prog .any ops Q S fuel (listed.setIfInBounds i true) (a.put o.dst undef) (w.setRow g cs)) :
    wpAnyH Try.prog .any ops Q S (fuel + 1) listed a w := by
  refine wpAnyH_ready (rs := [i]) hr (by simp) (AllReadyH.cons ho (fun K hK => ?_) AllReadyH.nil)
  rw [if_pos hg]
  exact wp_store_row _ x y hop g cs hx hy _ old hb (by rw [hz]; kernel_rfl) (by rw [hz, hzo]) h1 (hK.out _ _ hS h)
end
end Go.Proofs.Ytdggnhgflfaffaa
