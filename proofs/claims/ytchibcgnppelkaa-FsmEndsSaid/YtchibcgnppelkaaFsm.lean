/- Contracts of package fsm and of its reference lightshipref24. -/
import Derived.Test.YtchibcgnppelkaaMem
import Derived.Outline
import Derived.Handy
namespace Go.Proofs.Ytchibcgnppelkaa
open Go.ChangeShapes Go.WideShapes Go.ChangeAt Go.RowKit
set_option linter.unusedVariables false

def inR (x : Int) : Bool := decide (0 ≤ x) && decide (x ≤ 5)
/-- a half ends -/
def endS (s half other had : Int) : Int × Int :=
  if s = 0 then (0, 7) else if s = 5 then (0, 11 + 1) else if s = 1 then (half, 0) else if s = other then (4, 0) else (0, had)
/-- the state behind an event, and the error -/
def nx (s e : Int) : Int × Int :=
  if inR s = false ∨ inR e = false then (0, 1)
  else if e = 0 then (if s = 0 then (1, 0) else (0, 8))
  else if e = 1 then endS s 2 3 11
  else if e = 2 then endS s 3 2 8
  else if e = 5 then (if s = 4 ∨ s = 5 then (0, 0) else (0, 10))
  else if s = 0 then (0, 7) else if s = 4 ∨ s = 5 then (0, 10) else (5, 0)
def NextPost (w : World) (p : Int × Int) (e : Ending) (w' : World) : Prop := e = .returned (.tuple #[.int .i64 p.1, .int .i64 p.2]) ∧ w = w'
theorem np_mk {w : World} {p : Int × Int} {a b : Int} (h : p = (a, b)) : NextPost w p (.returned (.tuple #[.int .i64 a, .int .i64 b])) w := by subst h; exact ⟨rfl, rfl⟩
theorem six {x : Int} (h : inR x = true) : x = 0 ∨ x = 1 ∨ x = 2 ∨ x = 3 ∨ x = 4 ∨ x = 5 := by simp [inR] at h; omega

/-- may a call be? -/
def may (s k : Int) : Int :=
  if inR s = false ∨ k < 1 ∨ 5 < k then 1
  else if k = 1 then (if s = 0 then 0 else 8)
  else if s = 0 then 7 else if s = 5 then 12
  else if (k = 2 ∨ k = 4) ∧ (s = 2 ∨ s = 4) then 11
  else if k = 5 ∧ s = 4 then 11 else 0
def overB (s : Int) : Bool := decide (s = 4) || decide (s = 5)
theorem five {x : Int} (h : ¬ (x < 1 ∨ 5 < x)) : x = 1 ∨ x = 2 ∨ x = 3 ∨ x = 4 ∨ x = 5 := by omega
def MayPost (w : World) (p : Int) (e : Ending) (w' : World) : Prop := e = .returned (.int .i64 p) ∧ w = w'
theorem mp_mk {w : World} {p a : Int} (h : p = a) : MayPost w p (.returned (.int .i64 a)) w := by subst h; exact ⟨rfl, rfl⟩
end Go.Proofs.Ytchibcgnppelkaa
