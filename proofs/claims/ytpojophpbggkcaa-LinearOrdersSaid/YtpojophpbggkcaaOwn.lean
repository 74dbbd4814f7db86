/- Frames by a list of blocks: nothing but these, and new ones, has turned. No program in sight. -/
import Derived.Test.YtpojophpbggkcaaKeep
import Derived.OwnWalk
import Derived.Laws.OwnMore
import Derived.Deep.AppendLies
import Derived.Maps.AppendAt
namespace Go.Proofs.Ytpojophpbggkcaa
open Go.ChangeShapes Go.WideShapes Go.ChangeAt Go.RowKit
set_option linter.unusedVariables false

structure Kept (r : List Nat) (w w' : World) : Prop where
  os : w'.os = w.os
  tape : w'.tape = w.tape
  output : w'.output = w.output
  size : w.heap.size ≤ w'.heap.size
  block : ∀ k, k < w.heap.size → k ∉ r → w'.heap[k]? = w.heap[k]?
section
variable {r r' : List Nat} {a w w' w'' : World}
theorem Kept.refl (r : List Nat) (w : World) : Kept r w w := ⟨rfl, rfl, rfl, Nat.le_refl _, fun _ _ _ => rfl⟩
theorem Kept.drew (h : Kept r a w) : Kept r a w.drew := ⟨h.os, h.tape, h.output, h.size, h.block⟩
theorem Kept.drewN (h : Kept r a w) (n : Nat) : Kept r a (w.drewN n) := ⟨h.os, h.tape, h.output, h.size, h.block⟩
theorem Kept.alloc (h : Kept r a w) (o : Obj) : Kept r a (w.alloc o) :=
  ⟨h.os, h.tape, h.output, by have := h.size; simp; omega, fun k hk hne => by rw [Below.heap_alloc _ _ _ (by have := h.size; omega)]; exact h.block k hk hne⟩
theorem Kept.set (h : Kept r a w) (p : Addr) (hp : p.block ∈ r ∨ a.heap.size ≤ p.block) (v : Value) : Kept r a (w.setCell p v) :=
  ⟨h.os, h.tape, h.output, by simpa [World.setCell] using h.size, fun k hk hne => by
    rw [Below.heap_setCell _ _ _ _ (by rintro rfl; rcases hp with hp | hp; exact hne hp; omega)]; exact h.block k hk hne⟩
theorem Kept.trans (h : Kept r a w) (k : Kept r' w w') (hr : ∀ x ∈ r', x ∈ r ∨ a.heap.size ≤ x) : Kept r a w' :=
  ⟨k.os.trans h.os, k.tape.trans h.tape, k.output.trans h.output, Nat.le_trans h.size k.size, fun i hi hne =>
    (k.block i (Nat.lt_of_lt_of_le hi h.size) (fun hm => by rcases hr i hm with h1 | h1; exact hne h1; omega)).trans (h.block i hi hne)⟩
theorem Kept.mono (h : Kept r a w) (hr : ∀ x ∈ r, x ∈ r' ∨ a.heap.size ≤ x) : Kept r' a w := (Kept.refl r' a).trans h hr
theorem Kept.grown (h : Kept r a w) {row : Option Nat} (hg : w.grownBy w' row) (hr : ∀ x, row = some x → x ∈ r ∨ a.heap.size ≤ x) : Kept r a w' :=
  ⟨hg.os.trans h.os, hg.tape.trans h.tape, hg.output.trans h.output, Nat.le_trans h.size hg.size, fun i hi hne =>
    (hg.block i (Nat.lt_of_lt_of_le hi h.size) (fun e => by rcases hr i e.symm with h1 | h1; exact hne h1; omega)).trans (h.block i hi hne)⟩
theorem Kept.of_below (h : Below a.heap.size a w) (r : List Nat) : Kept r a w := ⟨h.os, h.tape, h.output, h.size, fun k hk _ => h.block k hk⟩
theorem Kept.below (h : Kept r a w) {B : Nat} (hB : B ≤ a.heap.size) (hr : ∀ x ∈ r, B ≤ x) : Below B a w :=
  ⟨h.os, h.tape, h.output, h.size, fun k hk => h.block k (by omega) (fun hm => by have := hr k hm; omega)⟩
theorem Kept.cell (h : Kept r w w') {p : Addr} {v : Value} (hc : w.cell? p = some v) (hp : p.block ∉ r) : w'.cell? p = some v := by
  rw [World.cell?_of_block (h.block p.block (World.block_lt_of_cell? _ _ hc) hp)]; exact hc
theorem Blk.kept {b : Nat} {c : Array Value} {T : TypeId} (hb : Blk w b c T) (h : Kept r w w') (hr : b ∉ r) : Blk w' b c T := by
  unfold Blk at hb ⊢
  rw [h.block b (Array.getElem?_eq_some_iff.1 hb).1 hr]; exact hb
/-- the blocks of a row -/
def rowOf (v : Value) : List Nat := match v.ownBlock with
  | some g => [g]
  | none => []
theorem own_lt {base size n : Nat} {e : TypeId} {v : Value} {xs : List Value} (h : w.ownsRow base e size v n xs) : ∀ x ∈ rowOf v, base ≤ x ∧ x < w.heap.size := by
  intro x hx
  unfold rowOf at hx
  split at hx
  · rename_i g hg
    simp at hx; subst hx
    exact h.lt x hg
  · simp at hx
theorem own_kept {base size n : Nat} {e : TypeId} {v : Value} {xs : List Value} (h : w.ownsRow base e size v n xs) (hk : Kept r w w') (hr : ∀ x ∈ rowOf v, x ∉ r) : w'.ownsRow base e size v n xs := by
  refine ⟨h.1, ?_⟩
  rcases h.2 with h0 | ⟨g, cap, cur, rfl, hb, hh, h1⟩
  · exact .inl h0
  · refine .inr ⟨g, cap, cur, rfl, hb, ?_, h1⟩
    have hg : g ∉ r := hr g (by simp [rowOf, Value.ownBlock])
    rw [hk.block g (Array.getElem?_eq_some_iff.1 hh).1 hg]; exact hh
theorem mem_rowOf {v : Value} {k : Nat} (h : v.ownBlock = some k) : k ∈ rowOf v := by simp [rowOf, h]
theorem rowOf_new {v v' : Value} {n : Nat} (h : v'.ownBlock = v.ownBlock ∨ v'.ownBlock = some n) : ∀ x ∈ rowOf v', x ∈ rowOf v ∨ n ≤ x := by
  intro x hx
  unfold rowOf at hx ⊢
  rcases h with h | h
  · rw [h] at hx; exact .inl hx
  · rw [h] at hx; simp at hx; right; omega
end
end Go.Proofs.Ytpojophpbggkcaa
