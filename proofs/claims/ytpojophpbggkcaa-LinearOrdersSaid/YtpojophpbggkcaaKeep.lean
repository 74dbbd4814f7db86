/- Steps for the 'keep' of go_region_held3: a cell that is known stays so. No program in sight. -/
import Derived.Test.YtpojophpbggkcaaMem
namespace Go.Proofs.Ytpojophpbggkcaa
open Go.ChangeShapes Go.WideShapes Go.ChangeAt Go.RowKit
set_option linter.unusedVariables false

/-- a cell that is known stays so: steps for the 'keep' of go_region_held3 -/
theorem kset {w : World} {p a : Addr} {u v : Value} (h : w.cell? a = some u) (hne : a.block ≠ p.block) : (w.setCell p v).cell? a = some u := by
  rw [World.cell?_setCell_other w p a v (fun e => hne (by rw [e]))]; exact h
theorem kalloc {w : World} {a : Addr} {u : Value} (h : w.cell? a = some u) (o : Obj) : (w.alloc o).cell? a = some u := by
  rw [World.cell?_alloc_lt w o a (World.block_lt_of_cell? _ _ h)]; exact h
theorem kdrew {w : World} {a : Addr} {u : Value} (h : w.cell? a = some u) : w.drew.cell? a = some u := h
theorem kdrewN {w : World} {a : Addr} {u : Value} (h : w.cell? a = some u) (n : Nat) : (w.drewN n).cell? a = some u := h
theorem kbelow {w w' : World} {B : Nat} {a : Addr} {u : Value} (hb : Below B w w') (hl : a.block < B) (h : w.cell? a = some u) : w'.cell? a = some u := (hb.cell hl).trans h
end Go.Proofs.Ytpojophpbggkcaa
