/- lightshipref34.M: a row of 1280 cells; its zero; laws on it. -/
import Derived.Test.YtpojophpbggkcaaLo14
import Derived.Laws.Rows
import Derived.Great.BuildSlice
namespace Go.Proofs.Ytpojophpbggkcaa
open Go.ChangeShapes Go.WideShapes Go.ChangeAt Go.RowKit
set_option linter.unusedVariables false

theorem Kept.setRow {r : List Nat} {a w : World} (h : Kept r a w) (g : Nat) (hg : g ∈ r ∨ a.heap.size ≤ g) (cs : Array Value) : Kept r a (w.setRow g cs) := by
  refine ⟨h.os, h.tape, h.output, by simpa using h.size, fun k hk hne => ?_⟩
  rw [setRow_other _ _ _ _ (by rintro rfl; rcases hg with hg | hg; exact hne hg; omega)]
  exact h.block k hk hne
theorem Blk.row {w : World} {g : Nat} {old : Array Value} {T : TypeId} (h : Blk w g old T) (cs : Array Value) : Blk (w.setRow g cs) g cs T := setRow_heap _ _ old _ _ _ h
theorem Blk.rowO {w : World} {g g' : Nat} {c : Array Value} {T : TypeId} (h : Blk w g c T) (hne : g ≠ g') (cs : Array Value) : Blk (w.setRow g' cs) g c T := by
  unfold Blk at *
  rw [setRow_other _ _ _ _ hne]; exact h
/-- a row lies one cell each -/
def mCell (m : Mq) (i : Nat) : Value :=
  if i < 1024 then (if i % 2 = 0 then .string (m.q (i / 512) (i / 2 % 256)).1 else .bool (m.q (i / 512) (i / 2 % 256)).2) else .bool (m.br (i - 1024))
structure MRow (cs : Array Value) (m : Mq) : Prop where
  size : cs.size = 1280
  get : ∀ i, i < 1280 → cs[i]? = some (mCell m i)
theorem mCell_one (m : Mq) (i : Nat) : (mCell m i).oneCell' = true := by
  unfold mCell
  split
  · split <;> rfl
  · rfl
theorem MRow.one {cs : Array Value} {m : Mq} (h : MRow cs m) : cs.all (·.oneCell') = true := by
  rw [Array.all_eq_true]
  intro i hi
  have := h.get i (by rw [← h.size]; exact hi)
  rw [Array.getElem?_eq_getElem hi] at this
  injection this with this
  rw [this]
  exact mCell_one m i
theorem MRow.str {cs : Array Value} {m : Mq} (h : MRow cs m) {a s : Nat} (ha : a < 2) (hs : s < 256) : cs[a * 512 + s * 2]? = some (.string (m.q a s).1) := by
  rw [h.get _ (by omega)]
  unfold mCell
  rw [if_pos (by omega), if_pos (by omega), show (a * 512 + s * 2) / 512 = a by omega, show (a * 512 + s * 2) / 2 % 256 = s by omega]
theorem MRow.clo {cs : Array Value} {m : Mq} (h : MRow cs m) {a s : Nat} (ha : a < 2) (hs : s < 256) : cs[a * 512 + s * 2 + 1]? = some (.bool (m.q a s).2) := by
  rw [h.get _ (by omega)]
  unfold mCell
  rw [if_pos (by omega), if_neg (by omega), show (a * 512 + s * 2 + 1) / 512 = a by omega, show (a * 512 + s * 2 + 1) / 2 % 256 = s by omega]
theorem MRow.bro {cs : Array Value} {m : Mq} (h : MRow cs m) {s : Nat} (hs : s < 256) : cs[1024 + s]? = some (.bool (m.br s)) := by
  rw [h.get _ (by omega)]
  unfold mCell
  rw [if_neg (by omega), show 1024 + s - 1024 = s by omega]
theorem MRow.set1 {cs : Array Value} {m m' : Mq} (h : MRow cs m) (k : Nat) (v : Value) (hv : k < 1280 → v = mCell m' k) (ho : ∀ i, i < 1280 → i ≠ k → mCell m' i = mCell m i) : MRow (cs.setIfInBounds k v) m' := by
  refine ⟨by simp [h.size], fun i hi => ?_⟩
  rw [Array.getElem?_setIfInBounds]
  by_cases e : k = i
  · subst e
    rw [if_pos rfl, if_pos (by rw [h.size]; exact hi), hv hi]
  · rw [if_neg e, h.get i hi, ho i hi (fun x => e x.symm)]
theorem mCell_put (m : Mq) (a s : Nat) (v : ByteArray × Bool) (i : Nat) (hi : i < 1280) (ha : a < 2) (hs : s < 256) (h0 : i ≠ a * 512 + s * 2) (h1 : i ≠ a * 512 + s * 2 + 1) : mCell (m.put a s v) i = mCell m i := by
  unfold mCell Mq.put
  dsimp only
  by_cases hb : i < 1024
  · have hn : ¬ (i / 512 = a ∧ i / 2 % 256 = s) := by rintro ⟨e1, e2⟩; omega
    rw [if_pos hb, if_pos hb, if_neg hn]
  · rw [if_neg hb, if_neg hb]
theorem MRow.setc {cs : Array Value} {m : Mq} (h : MRow cs m) {a s : Nat} (ha : a < 2) (hs : s < 256) (c : Bool) : MRow (cs.setIfInBounds (a * 512 + s * 2 + 1) (.bool c)) (m.put a s ((m.q a s).1, c)) := by
  refine h.set1 _ _ (fun _ => ?_) (fun i hi hne => ?_)
  · unfold mCell
    rw [if_pos (by omega), if_neg (by omega), show (a * 512 + s * 2 + 1) / 512 = a by omega, show (a * 512 + s * 2 + 1) / 2 % 256 = s by omega]
    simp [Mq.put]
  · by_cases e : i = a * 512 + s * 2
    · subst e
      unfold mCell
      rw [if_pos (by omega), if_pos (by omega), if_pos (by omega), if_pos (by omega), show (a * 512 + s * 2) / 512 = a by omega, show (a * 512 + s * 2) / 2 % 256 = s by omega]
      simp [Mq.put]
    · exact mCell_put m a s _ i hi ha hs e hne
theorem MRow.sets {cs : Array Value} {m : Mq} (h : MRow cs m) {a s : Nat} (ha : a < 2) (hs : s < 256) (t : ByteArray) : MRow (cs.setIfInBounds (a * 512 + s * 2) (.string t)) (m.put a s (t, (m.q a s).2)) := by
  refine h.set1 _ _ (fun _ => ?_) (fun i hi hne => ?_)
  · unfold mCell
    rw [if_pos (by omega), if_pos (by omega), show (a * 512 + s * 2) / 512 = a by omega, show (a * 512 + s * 2) / 2 % 256 = s by omega]
    simp [Mq.put]
  · by_cases e : i = a * 512 + s * 2 + 1
    · subst e
      unfold mCell
      rw [if_pos (by omega), if_neg (by omega), if_pos (by omega), if_neg (by omega), show (a * 512 + s * 2 + 1) / 512 = a by omega, show (a * 512 + s * 2 + 1) / 2 % 256 = s by omega]
      simp [Mq.put]
    · exact mCell_put m a s _ i hi ha hs hne e
theorem Mq.put_put (m : Mq) (a s : Nat) (v u : ByteArray × Bool) : (m.put a s v).put a s u = m.put a s u := by
  unfold Mq.put
  congr 1
  funext b t
  dsimp only
  split <;> rfl
theorem Mq.put_at (m : Mq) (a s : Nat) (v : ByteArray × Bool) : (m.put a s v).q a s = v := by simp [Mq.put]
theorem MRow.setq {cs : Array Value} {m : Mq} (h : MRow cs m) {a s : Nat} (ha : a < 2) (hs : s < 256) (v : ByteArray × Bool) : MRow ((cs.setIfInBounds (a * 512 + s * 2) (.string v.1)).setIfInBounds (a * 512 + s * 2 + 1) (.bool v.2)) (m.put a s v) := by
  have h2 := (h.sets ha hs v.1).setc ha hs v.2
  rw [Mq.put_put, Mq.put_at] at h2
  exact h2
theorem MRow.setb {cs : Array Value} {m : Mq} (h : MRow cs m) {s : Nat} (hs : s < 256) : MRow (cs.setIfInBounds (1024 + s) (.bool true)) ⟨m.q, updB m.br s⟩ := by
  refine h.set1 _ _ (fun _ => ?_) (fun i hi hne => ?_)
  · unfold mCell
    rw [if_neg (by omega), show 1024 + s - 1024 = s by omega]
    simp [updB]
  · unfold mCell
    by_cases hb : i < 1024
    · rw [if_pos hb, if_pos hb]
    · rw [if_neg hb, if_neg hb]
      dsimp only
      unfold updB
      rw [if_neg (by omega)]
/-- the row of nothing -/
def mZ : Array Value := ((List.range 1280).map (mCell mq0)).toArray
theorem mZ_row : MRow mZ mq0 := by
  refine ⟨by simp [mZ], fun i hi => ?_⟩
  simp [mZ, hi]
set_option maxRecDepth 100000 in
theorem mZ_zero (w : World) : (zeroValue 59).run Try.prog w = .ok (.agg mZ) w := by kernel_rfl
section
variable {ops : Array Oper} {Q : Exit → Act → World → Prop} {S : World → Prop}
theorem mZ_ex : ∃ Z : Array Value, MRow Z mq0 ∧ ∀ w, (zeroValue 59).run Try.prog w = .ok (.agg Z) w := ⟨mZ, mZ_row, mZ_zero⟩
theorem run_allocN {o : Oper} {a : Act} {w : World} (n : Nat) (hn : w.heap.size = n) (ho : o.op = .alloc 59) {Z : Array Value} (hz : ∀ w, (zeroValue 59).run Try.prog w = .ok (.agg Z) w) : (execOp a.eval o).run Try.prog w = .ok (.value (.pointer (some ⟨n, 0, none⟩))) (w.alloc (.cells Z 59)) := by
  subst hn
  unfold execOp
  simp only [ho, Instr.alloc, newVar, newRow, Sem.run_bind, hz, Sem.run_pure, Result.andThen_ok]
  rfl
theorem run_allocM {o : Oper} {a : Act} {w : World} (ho : o.op = .alloc 59) : (execOp a.eval o).run Try.prog w = .ok (.value (.pointer (some ⟨w.heap.size, 0, none⟩))) (w.alloc (.cells mZ 59)) := by
  unfold execOp
  simp only [ho, Instr.alloc, newVar, newRow, Sem.run_bind, mZ_zero, Sem.run_pure, Result.andThen_ok]
  rfl
theorem load_M {w : World} {g : Nat} {cs : Array Value} (hg : Blk w g cs 59) (hz : cs.size = 1280) : (loadVar 59 ⟨g, 0, none⟩).run Try.prog w = .ok (.agg cs) w :=
  run_loadVar_row w g _ _ cs (0, 0) _ hg Try.underlying59 rfl (by rw [hz]; kernel_rfl)
theorem results_M2 {fn : Func} {p s : Tmp} (h : fn.results = #[.cell p 59, .tmp s]) (tmps : Array Value) {w : World} {g : Nat} {cs : Array Value} (v : Value)
    (hp : tmps.getD p undef = .pointer (some ⟨g, 0, none⟩)) (hv : tmps.getD s undef = v) (hg : Blk w g cs 59) (hz : cs.size = 1280) : (results fn tmps).run Try.prog w = .ok (.tuple #[.agg cs, v]) w := by
  have hp' : tmps[p]?.getD undef = .pointer (some ⟨g, 0, none⟩) := by simpa using hp
  have hv' : tmps[s]?.getD undef = v := by simpa using hv
  simp [results, h, hp', hv', asAddr, load_M hg hz]
end
end Go.Proofs.Ytpojophpbggkcaa
