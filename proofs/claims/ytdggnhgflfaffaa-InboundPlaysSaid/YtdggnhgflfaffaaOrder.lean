/- Contracts of package order: the slots, New. -/
import Derived.Test.YtdggnhgflfaffaaSerial
import Derived.Test.YtdggnhgflfaffaaOwn
import Derived.Test.YtdggnhgflfaffaaRowV
import Derived.Outline
import Derived.Handy
import Derived.BigRegion
import Derived.BigQuiet
import Derived.Deep.QuietTactic
import Derived.Deep.RegionHeld3
import Derived.Laws.MakeOwn
import Derived.IntWalk
set_option maxRecDepth 20000
namespace Go.Proofs.Ytdggnhgflfaffaa
open Go.ChangeShapes Go.WideShapes Go.ChangeAt Go.RowKit
set_option linter.unusedVariables false

theorem upd_str (f : Nat → ByteArray) (i : Nat) (x : ByteArray) (j : Nat) : upd (fun i => Value.string (f i)) i (.string x) j = .string (upd f i x j) := by unfold upd; split <;> rfl
theorem upd_bool (f : Nat → Bool) (i : Nat) (x : Bool) (j : Nat) : upd (fun i => Value.bool (f i)) i (.bool x) j = .bool (upd f i x j) := by unfold upd; split <;> rfl

def ordC (base win g1 g2 n : Nat) : Array Value := #[.int .u32 (base : Int), .int .i64 (win : Int), .slice (some ⟨g1, 0, none⟩) 64 64, .slice (some ⟨g2, 0, none⟩) 64 64, .int .i64 (n : Int)]
structure OrdAt (w : World) (b g1 g2 base win n : Nat) (f : Nat → ByteArray) (h : Nat → Bool) : Prop where
  blk : Blk w b (ordC base win g1 g2 n) 96
  l : RowV w g1 64 (fun i => .string (f i))
  has : RowV w g2 64 (fun i => .bool (h i))
  ne1 : b ≠ g1
  ne2 : b ≠ g2
  ne3 : g1 ≠ g2
  bb : base < 4294967296
  w1 : 1 ≤ win
  w2 : win ≤ 64
  nn : n ≤ 64
theorem OrdAt.kept {w w' : World} {b g1 g2 base win n : Nat} {f : Nat → ByteArray} {h : Nat → Bool} {r : List Nat} (o : OrdAt w b g1 g2 base win n f h) (hk : Kept r w w') (h1 : b ∉ r) (h2 : g1 ∉ r) (h3 : g2 ∉ r) : OrdAt w' b g1 g2 base win n f h :=
  ⟨o.blk.kept hk h1, o.l.kept hk h2, o.has.kept hk h3, o.ne1, o.ne2, o.ne3, o.bb, o.w1, o.w2, o.nn⟩
theorem OrdAt.drewN {w : World} {b g1 g2 base win n : Nat} {f : Nat → ByteArray} {h : Nat → Bool} (o : OrdAt w b g1 g2 base win n f h) (k : Nat) : OrdAt (w.drewN k) b g1 g2 base win n f h := o.kept ((Kept.refl [] w).drewN k) (by simp) (by simp) (by simp)
theorem OrdAt.cells {w : World} {b g1 g2 base win n : Nat} {f : Nat → ByteArray} {h : Nat → Bool} (o : OrdAt w b g1 g2 base win n f h) :
    w.cell? ⟨b, 0, none⟩ = some (.int .u32 (base : Int)) ∧ w.cell? ⟨b, 1, none⟩ = some (.int .i64 (win : Int)) ∧ w.cell? ⟨b, 2, none⟩ = some (.slice (some ⟨g1, 0, none⟩) 64 64) ∧ w.cell? ⟨b, 3, none⟩ = some (.slice (some ⟨g2, 0, none⟩) 64 64) ∧ w.cell? ⟨b, 4, none⟩ = some (.int .i64 (n : Int)) :=
  ⟨o.blk.cell 0, o.blk.cell 1, o.blk.cell 2, o.blk.cell 3, o.blk.cell 4⟩
theorem OrdAt.lt {w : World} {b g1 g2 base win n : Nat} {f : Nat → ByteArray} {h : Nat → Bool} (o : OrdAt w b g1 g2 base win n f h) : b < w.heap.size ∧ g1 < w.heap.size ∧ g2 < w.heap.size := ⟨o.blk.lt, o.l.1, o.has.1⟩

theorem sat_any (b g1 g2 base win n : Nat) (f : Nat → ByteArray) (h : Nat → Bool) (x i : Nat) (hx : x < 4294967296) (hi : i = x % 64) (w : World) (o : OrdAt w b g1 g2 base win n f h) :
    Calls Try.prog 62 #[.pointer (some ⟨b, 2, none⟩), .int .u32 (x : Int)] w fun e w' => e = .returned (.int .i64 (i : Int)) ∧ w = w' := by
  obtain ⟨c0, c1, c2, c3, c4⟩ := o.cells
  have HI := Lib.hid hi
  clear hi
  go_enter Try.func62, Try.ntmps62
  go_wp2
  go_ret
  exact ⟨ret_int (by rw [HI.out]; omega), rfl⟩
def OPost (W : World) (b g1 g2 base win n : Nat) (f : Nat → ByteArray) (h : Nat → Bool) (r : Value) (e : Ending) (w' : World) : Prop := e = .returned r ∧ OrdAt w' b g1 g2 base win n f h ∧ Kept [b, g1, g2] W w'
theorem sput (b g1 g2 base win n : Nat) (f : Nat → ByteArray) (h : Nat → Bool) (x i : Nat) (body : ByteArray) (hx : x < 4294967296) (hi : i = x % 64) (hn : n < 64) (w : World) (o : OrdAt w b g1 g2 base win n f h) :
    Calls Try.prog 65 #[.pointer (some ⟨b, 2, none⟩), .int .u32 (x : Int), .string body] w (OPost w b g1 g2 base win (n + 1) (upd f i body) (upd h i true) (.tuple #[])) := by
  obtain ⟨c0, c1, c2, c3, c4⟩ := o.cells
  have f4 := o.blk.free 4
  have hi64 : i < 64 := by omega
  have a0 := o.l.cell hi64
  have a1 := o.l.free hi64
  have b0 := o.has.cell hi64
  have b1 := o.has.free hi64
  have hA := Lib.hid (fun w o => sat_any b g1 g2 base win n f h x i hx hi w o)
  have O := Lib.hid o
  have q1 : (0 : Int) ≤ (i : Int) := by omega
  have q2 : (i : Int) < 64 := by omega
  have n1 := o.ne1
  have n2 := o.ne2
  have n3 := o.ne3
  clear o hi
  go_enter Try.func65, Try.ntmps65
  go_wp2_with (go_at_call 62; refine (hA.out _ O.out).mono ?_; rintro e w' ⟨rfl, rfl⟩)
  go_region
  go_wp2
  go_returns
  have hk : Kept [b, g1, g2] w (((w.setCell ⟨g1, i, none⟩ (.string body)).setCell ⟨g2, i, none⟩ (.bool true)).setCell ⟨b, 4, none⟩ (.int .i64 ((n : Int) + 1))) := (((Kept.refl _ _).set _ (.inl (by simp)) _).set _ (.inl (by simp)) _).set _ (.inl (by simp)) _
  refine ⟨rfl, ⟨?_, ?_, ?_, n1, n2, n3, O.out.bb, O.out.w1, O.out.w2, by omega⟩, hk.drew⟩
  · exact Blk.drew (((O.out.blk.other _ (by show b ≠ g1; exact n1) _).other _ (by show b ≠ g2; exact n2) _).set 4 (.int .i64 ((n : Int) + 1)))
  · refine (((O.out.l.set i hi64 (.string body)).congr (fun j hj => upd_str f i body j)).kept (r := [g2, b]) (((Kept.refl _ _).set _ (.inl (by simp)) _).set _ (.inl (by simp)) _).drew ?_)
    simp; exact ⟨n3, fun e => n1 e.symm⟩
  · have h1 := O.out.has.kept (r := [g1]) ((Kept.refl _ w).set ⟨g1, i, none⟩ (.inl (by simp)) (.string body)) (by simp; exact fun e => n3 e.symm)
    refine (((h1.set i hi64 (.bool true)).congr (fun j hj => upd_bool h i true j)).kept (r := [b]) ((Kept.refl _ _).set _ (.inl (by simp)) _).drew ?_)
    simp; exact fun e => n2 e.symm
theorem stake (b g1 g2 base win n : Nat) (f : Nat → ByteArray) (h : Nat → Bool) (x i : Nat) (hx : x < 4294967296) (hi : i = x % 64) (hn : 0 < n) (w : World) (o : OrdAt w b g1 g2 base win n f h) :
    Calls Try.prog 67 #[.pointer (some ⟨b, 2, none⟩), .int .u32 (x : Int)] w (OPost w b g1 g2 base win (n - 1) (upd f i ⟨#[]⟩) (upd h i false) (.string (f i))) := by
  obtain ⟨c0, c1, c2, c3, c4⟩ := o.cells
  have f4 := o.blk.free 4
  have hi64 : i < 64 := by omega
  have a0 := o.l.cell hi64
  have a1 := o.l.free hi64
  have b0 := o.has.cell hi64
  have b1 := o.has.free hi64
  have hA := Lib.hid (fun w o => sat_any b g1 g2 base win n f h x i hx hi w o)
  have O := Lib.hid o
  have q1 : (0 : Int) ≤ (i : Int) := by omega
  have q2 : (i : Int) < 64 := by omega
  have n1 := o.ne1
  have n2 := o.ne2
  have n3 := o.ne3
  have nn := o.nn
  clear o hi
  go_enter Try.func67, Try.ntmps67
  go_wp2_with (go_at_call 62; refine (hA.out _ O.out).mono ?_; rintro e w' ⟨rfl, rfl⟩)
  go_region
  go_wp2
  go_ret
  have hk : Kept [b, g1, g2] w (((w.setCell ⟨g1, i, none⟩ (.string ⟨#[]⟩)).setCell ⟨g2, i, none⟩ (.bool false)).setCell ⟨b, 4, none⟩ (.int .i64 ((n : Int) - 1))) := (((Kept.refl _ _).set _ (.inl (by simp)) _).set _ (.inl (by simp)) _).set _ (.inl (by simp)) _
  refine ⟨rfl, ⟨?_, ?_, ?_, n1, n2, n3, O.out.bb, O.out.w1, O.out.w2, by omega⟩, hk.drew⟩
  · have e : ((n - 1 : Nat) : Int) = (n : Int) - 1 := by omega
    unfold ordC
    rw [e]
    exact Blk.drew (((O.out.blk.other _ (by show b ≠ g1; exact n1) _).other _ (by show b ≠ g2; exact n2) _).set 4 (.int .i64 ((n : Int) - 1)))
  · refine (((O.out.l.set i hi64 (.string ⟨#[]⟩)).congr (fun j hj => upd_str f i ⟨#[]⟩ j)).kept (r := [g2, b]) (((Kept.refl _ _).set _ (.inl (by simp)) _).set _ (.inl (by simp)) _).drew ?_)
    simp; exact ⟨n3, fun e => n1 e.symm⟩
  · have h1 := O.out.has.kept (r := [g1]) ((Kept.refl _ w).set ⟨g1, i, none⟩ (.inl (by simp)) (.string ⟨#[]⟩)) (by simp; exact fun e => n3 e.symm)
    refine (((h1.set i hi64 (.bool false)).congr (fun j hj => upd_bool h i false j)).kept (r := [b]) ((Kept.refl _ _).set _ (.inl (by simp)) _).drew ?_)
    simp; exact fun e => n2 e.symm
end Go.Proofs.Ytdggnhgflfaffaa
