/- Contracts: cmp.Compare, cmp.Or at ints; linear.when, linear.rank; the closure of linear.Order. -/
import Derived.Test.YtpojophpbggkcaaApp
import Derived.Test.YtpojophpbggkcaaOpen
import Derived.Test.YtpojophpbggkcaaSort
import Derived.Test.YtpojophpbggkcaaRowV
import Derived.Outline
import Derived.Handy
import Derived.BigRegion
import Derived.BigQuiet
import Derived.Deep.QuietTactic
import Derived.Deep.RegionHeld3
import Derived.IntWalk
import Derived.WalkMore
namespace Go.Proofs.Ytpojophpbggkcaa
open Go.ChangeShapes Go.WideShapes Go.ChangeAt Go.RowKit
set_option linter.unusedVariables false

def cmpI (a b : Int) : Int := if a < b then -1 else if b < a then 1 else 0
def orI (a b : Int) : Int := if a ≠ 0 then a else b
theorem nan_i (x : Int) (w : World) : Calls Try.prog 28 #[.int .i64 x] w fun e w' => e = .returned (.bool false) ∧ w = w' := by
  have e : ((x : Int) != x) = false := by simp
  go_enter Try.func28, Try.ntmps28
  go_wp2_with fail
  go_ret
  exact ⟨rfl, rfl⟩
theorem cmp_i (x y : Int) (w : World) : Calls Try.prog 16 #[.int .i64 x, .int .i64 y] w fun e w' => e = .returned (.int .i64 (cmpI x y)) ∧ w = w' := by
  unfold cmpI
  by_cases h1 : x < y
  · rw [if_pos h1]
    go_enter Try.func16, Try.ntmps16
    go_wp2_with (go_at_call 28; refine (nan_i _ _).mono ?_; rintro e w' ⟨rfl, rfl⟩)
    go_ret
    exact ⟨rfl, rfl⟩
  · rw [if_neg h1]
    by_cases h2 : y < x
    · rw [if_pos h2]
      go_enter Try.func16, Try.ntmps16
      go_wp2_with (go_at_call 28; refine (nan_i _ _).mono ?_; rintro e w' ⟨rfl, rfl⟩)
      go_ret
      exact ⟨rfl, rfl⟩
    · rw [if_neg h2]
      go_enter Try.func16, Try.ntmps16
      go_wp2_with (go_at_call 28; refine (nan_i _ _).mono ?_; rintro e w' ⟨rfl, rfl⟩)
      go_ret
      exact ⟨rfl, rfl⟩
theorem or_2 (g : Nat) (x y : Int) (T : TypeId) (w : World) (h : Blk w g #[.int .i64 x, .int .i64 y] T) : Calls Try.prog 15 #[.slice (some ⟨g, 0, none⟩) 2 2] w fun e w' => e = .returned (.int .i64 (orI x y)) ∧ w = w' := by
  have c0 := h.cell 0
  have c1 := h.cell 1
  simp at c0 c1
  unfold orI
  clear h
  by_cases h1 : x = 0
  · subst h1
    by_cases h2 : y = 0
    · subst h2
      go_enter Try.func15, Try.ntmps15
      go_wp2_with fail
      go_loopw [8] (fun iv wr => ∃ i : Nat, iv = .int .i64 (i : Int) ∧ i ≤ 2 ∧ wr = w) (fun iv _ => 2 - (intOf iv).toNat)
      case atStart => exact ⟨0, rfl, by omega, rfl⟩
      case round =>
        obtain ⟨i, rfl, hi, rfl⟩ := hrel
        obtain rfl | rfl | rfl : i = 0 ∨ i = 1 ∨ i = 2 := by omega
        · go_wp2_with fail
          exact ⟨⟨1, by simp, by omega, by first | rfl | trivial⟩, by simp [intOf]⟩
        · go_wp2_with fail
          exact ⟨⟨2, by simp, by omega, by first | rfl | trivial⟩, by simp [intOf]⟩
        · go_wp2_with fail
          go_ret
          exact ⟨rfl, rfl⟩
    · have e : (y != 0) = true := by simpa using h2
      go_enter Try.func15, Try.ntmps15
      go_wp2_with fail
      go_loopw [8] (fun iv wr => ∃ i : Nat, iv = .int .i64 (i : Int) ∧ i ≤ 1 ∧ wr = w) (fun iv _ => 2 - (intOf iv).toNat)
      case atStart => exact ⟨0, rfl, by omega, rfl⟩
      case round =>
        obtain ⟨i, rfl, hi, rfl⟩ := hrel
        obtain rfl | rfl : i = 0 ∨ i = 1 := by omega
        · go_wp2_with fail
          exact ⟨⟨1, by simp, by omega, by first | rfl | trivial⟩, by simp [intOf]⟩
        · go_wp2_with fail
          go_ret
          exact ⟨ret_int (by simp), rfl⟩
  · have e : (x != 0) = true := by simpa using h1
    go_enter Try.func15, Try.ntmps15
    go_wp2_with fail
    go_loopw [8] (fun iv wr => iv = .int .i64 0 ∧ wr = w) (fun iv _ => 0)
    case atStart => exact ⟨rfl, rfl⟩
    case round =>
      obtain ⟨rfl, rfl⟩ := hrel
      go_wp2_with fail
      go_ret
      exact ⟨ret_int (by rfl), rfl⟩

/-- an event: its cells -/
structure Ev where
  id : Int
  side : Int
  kind : Int
  stream : Int
  n : Int
  body : ByteArray
  an : Int
  ab : ByteArray
  err : Int
  beg : Int
  fin : Int
instance : Inhabited Ev := ⟨⟨0, 0, 0, 0, 0, ⟨#[]⟩, 0, ⟨#[]⟩, 0, 0, 0⟩⟩
def evV (e : Ev) : Array Value := #[.int .i64 e.id, .int .i64 e.side, .int .i64 e.kind, .int .i64 e.stream, .int .i64 e.n, .string e.body, .int .i64 e.an, .string e.ab, .int .i64 e.err, .int .i64 e.beg, .int .i64 e.fin]
def whenE (e : Ev) : Int := if e.kind = 4 then e.beg else e.fin
def rankE (e : Ev) : Int := if e.kind = 4 then 0 else 1
set_option maxRecDepth 100000 in
theorem when_is (e : Ev) (w : World) : Calls Try.prog 17 #[.agg (evV e)] w fun r w' => r = .returned (.int .i64 (whenE e)) ∧ Below w.heap.size w w' := by
  obtain ⟨e0, e1, e2, e3, e4, e5, e6, e7, e8, e9, e10⟩ := e
  unfold evV whenE
  dsimp only
  by_cases h : e2 = 4
  · subst h
    rw [if_pos rfl]
    go_enter Try.func17, Try.ntmps17
    go_wp2_with fail
    go_ret
    exact ⟨rfl, (Below.refl _ _).alloc (Nat.le_refl _) _⟩
  · rw [if_neg h]
    have hd : (e2 == 4) = false := by simpa using h
    go_enter Try.func17, Try.ntmps17
    go_wp2_with fail
    go_ret
    exact ⟨rfl, (Below.refl _ _).alloc (Nat.le_refl _) _⟩
set_option maxRecDepth 100000 in
theorem rank_is (e : Ev) (w : World) : Calls Try.prog 18 #[.agg (evV e)] w fun r w' => r = .returned (.int .i64 (rankE e)) ∧ Below w.heap.size w w' := by
  obtain ⟨e0, e1, e2, e3, e4, e5, e6, e7, e8, e9, e10⟩ := e
  unfold evV rankE
  dsimp only
  by_cases h : e2 = 4
  · subst h
    rw [if_pos rfl]
    go_enter Try.func18, Try.ntmps18
    go_wp2_with fail
    go_ret
    exact ⟨rfl, (Below.refl _ _).alloc (Nat.le_refl _) _⟩
  · rw [if_neg h]
    have hd : (e2 == 4) = false := by simpa using h
    go_enter Try.func18, Try.ntmps18
    go_wp2_with fail
    go_ret
    exact ⟨rfl, (Below.refl _ _).alloc (Nat.le_refl _) _⟩
/-- the events of a slice that is read -/
structure ES (w : World) (b off len : Nat) (E : Nat → Ev) : Prop where
  lt : 0 < len → b < w.heap.size
  at_ : ∀ i, i < len → ∀ j, j < 11 → w.cell? ⟨b, off + i * 11 + j, none⟩ = (evV (E i))[j]?
theorem ES.below {w w' : World} {b off len : Nat} {E : Nat → Ev} (h : ES w b off len E) (hb : Below w.heap.size w w') : ES w' b off len E :=
  ⟨fun h0 => Nat.lt_of_lt_of_le (h.lt h0) hb.size, fun i hi j hj => by rw [hb.cell (p := ⟨b, off + i * 11 + j, none⟩) (h.lt (by omega))]; exact h.at_ i hi j hj⟩
theorem ES.kept {w w' : World} {b off len : Nat} {E : Nat → Ev} {r : List Nat} (h : ES w b off len E) (hk : Kept r w w') (hr : b ∉ r) : ES w' b off len E :=
  ⟨fun h0 => Nat.lt_of_lt_of_le (h.lt h0) hk.size, fun i hi j hj => by
    rw [World.cell?_of_block (a := ⟨b, off + i * 11 + j, none⟩) (hk.block b (h.lt (by omega)) hr)]; exact h.at_ i hi j hj⟩
/-- the cells of one -/
def EvAt (w : World) (b o : Nat) (e : Ev) : Prop :=
  w.cell? ⟨b, o, none⟩ = some (.int .i64 e.id) ∧ w.cell? ⟨b, o + 1, none⟩ = some (.int .i64 e.side) ∧ w.cell? ⟨b, o + 2, none⟩ = some (.int .i64 e.kind) ∧ w.cell? ⟨b, o + 3, none⟩ = some (.int .i64 e.stream) ∧
  w.cell? ⟨b, o + 4, none⟩ = some (.int .i64 e.n) ∧ w.cell? ⟨b, o + 5, none⟩ = some (.string e.body) ∧ w.cell? ⟨b, o + 6, none⟩ = some (.int .i64 e.an) ∧ w.cell? ⟨b, o + 7, none⟩ = some (.string e.ab) ∧
  w.cell? ⟨b, o + 8, none⟩ = some (.int .i64 e.err) ∧ w.cell? ⟨b, o + 9, none⟩ = some (.int .i64 e.beg) ∧ w.cell? ⟨b, o + 10, none⟩ = some (.int .i64 e.fin)
theorem ES.ev {w : World} {b off len : Nat} {E : Nat → Ev} (h : ES w b off len E) (i : Nat) (hi : i < len) : EvAt w b (off + i * 11) (E i) :=
  ⟨h.at_ i hi 0 (by omega), h.at_ i hi 1 (by omega), h.at_ i hi 2 (by omega), h.at_ i hi 3 (by omega), h.at_ i hi 4 (by omega), h.at_ i hi 5 (by omega), h.at_ i hi 6 (by omega), h.at_ i hi 7 (by omega), h.at_ i hi 8 (by omega), h.at_ i hi 9 (by omega), h.at_ i hi 10 (by omega)⟩
theorem EvAt.load {w : World} {b o : Nat} {e : Ev} (h : EvAt w b o e) : (loadVar 40 ⟨b, o, none⟩).run Try.prog w = .ok (.agg (evV e)) w := by
  obtain ⟨h0, h1, h2, h3, h4, h5, h6, h7, h8, h9, h10⟩ := h
  unfold evV
  go_simp
theorem ES.load {w : World} {b off len : Nat} {E : Nat → Ev} (h : ES w b off len E) (i : Nat) (hi : i < len) : (loadVar 40 ⟨b, off + i * 11, none⟩).run Try.prog w = .ok (.agg (evV (E i))) w := (h.ev i hi).load
def cmpE (x y : Ev) : Int := orI (cmpI (whenE x) (whenE y)) (cmpI (rankE x) (rankE y))
end Go.Proofs.Ytpojophpbggkcaa
