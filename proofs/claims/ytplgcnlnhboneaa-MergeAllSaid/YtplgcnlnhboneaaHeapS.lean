/- Heaps as sorted lists; == of two Dues. -/
import Derived.Test.YtplgcnlnhboneaaHeap5
namespace Go.Proofs.Ytplgcnlnhboneaa
open Go.ChangeShapes Go.WideShapes Go.ChangeAt Go.RowKit
set_option linter.unusedVariables false

theorem key_eq (a b x y : Int) (w : World) : (Op.equalIn 9999 28 (.agg #[.int .i64 a, .int .u32 b]) (.agg #[.int .i64 x, .int .u32 y])).run Try.prog w = .ok (decide (a = x ∧ b = y)) w := by
  rw [run_equalIn_agg _ _ _ _ _ (by kernel_rfl) (by kernel_rfl), eqFields_eqF _ _ _ _ (by kernel_rfl)]
  have hf : ((Try.prog.fieldsOf 28).toList.map fun f => (f.type, f.offset)) = [(3, 0), (26, 1)] := by kernel_rfl
  rw [hf]
  have hp : ∀ (c0 c1 : Value) (w : World), (part 3 #[c0, c1] 0).run Try.prog w = .ok c0 w := fun c0 c1 w => by kernel_rfl
  have hp1 : ∀ (c0 c1 : Value) (w : World), (part 26 #[c0, c1] 1).run Try.prog w = .ok c1 w := fun c0 c1 w => by kernel_rfl
  have hu : Try.prog.underlying 3 = some (.int .i64) := by kernel_rfl
  have hu1 : Try.prog.underlying 26 = some (.int .u32) := by kernel_rfl
  simp [eqF, hp, hp1, run_equalIn_int _ _ _ _ _ _ _ hu, run_equalIn_int _ _ _ _ _ _ _ hu1]
  by_cases h1 : a = x <;> by_cases h2 : b = y <;> simp [h1, h2]
theorem due_eqIn (a b c x y z : Int) (w : World) : (Op.equalIn 10000 30 (.agg #[.int .i64 a, .int .u32 b, .int .i64 c]) (.agg #[.int .i64 x, .int .u32 y, .int .i64 z])).run Try.prog w = .ok (decide (a = x ∧ b = y ∧ c = z)) w := by
  rw [run_equalIn_agg _ _ _ _ _ (by kernel_rfl) (by kernel_rfl), eqFields_eqF _ _ _ _ (by kernel_rfl)]
  have hf : ((Try.prog.fieldsOf 30).toList.map fun f => (f.type, f.offset)) = [(28, 0), (3, 2)] := by kernel_rfl
  rw [hf]
  have hp : ∀ (c0 c1 c2 : Value) (w : World), (part 28 #[c0, c1, c2] 0).run Try.prog w = .ok (.agg #[c0, c1]) w := fun c0 c1 c2 w => by kernel_rfl
  have hp1 : ∀ (c0 c1 c2 : Value) (w : World), (part 3 #[c0, c1, c2] 2).run Try.prog w = .ok c2 w := fun c0 c1 c2 w => by kernel_rfl
  have hu : Try.prog.underlying 3 = some (.int .i64) := by kernel_rfl
  have hk := key_eq a b x y
  simp [eqF, hp, hp1, hk, run_equalIn_int _ _ _ _ _ _ _ hu]
  by_cases h1 : a = x <;> by_cases h2 : b = y <;> by_cases h3 : c = z <;> simp [h1, h2, h3]
theorem due_eq (x y : Du) (w : World) : (binOp .eql 30 (.agg #[.int .i64 x.st, .int .u32 x.bl, .int .i64 x.at_]) (.agg #[.int .i64 y.st, .int .u32 y.bl, .int .i64 y.at_])).run Try.prog w = .ok (.bool (decide (x.st = y.st ∧ x.bl = y.bl ∧ x.at_ = y.at_))) w := by
  rw [run_eql_struct, due_eqIn]; rfl
theorem due_neq (x y : Du) (w : World) : (binOp .neq 30 (.agg #[.int .i64 x.st, .int .u32 x.bl, .int .i64 x.at_]) (.agg #[.int .i64 y.st, .int .u32 y.bl, .int .i64 y.at_])).run Try.prog w = .ok (.bool (!decide (x.st = y.st ∧ x.bl = y.bl ∧ x.at_ = y.at_))) w := by
  rw [run_neq_struct, due_eqIn]; rfl
theorem due_neq_same (x : Du) (w : World) : (binOp .neq 30 (.agg #[.int .i64 x.st, .int .u32 x.bl, .int .i64 x.at_]) (.agg #[.int .i64 x.st, .int .u32 x.bl, .int .i64 x.at_])).run Try.prog w = .ok (.bool false) w := by
  rw [due_neq]; simp
theorem due_guard (op : BinOp) (h : op = .neq ∨ op = .eql) (a b c x y z : Int) (w : World) (p q : Operand) : (eqGuard op 30 p q (.agg #[.int .i64 a, .int .u32 b, .int .i64 c]) (.agg #[.int .i64 x, .int .u32 y, .int .i64 z])).run Try.prog w = .ok () w := by
  rcases h with rfl | rfl <;> kernel_rfl

/-- a heap of what the sorted list holds -/
def HS (w : World) (b : Nat) (v : Value) (X : List Du) : Prop := ∃ M, HeapAt w b v M ∧ IsHeap M ∧ X.Perm M ∧ Srt X
theorem HS.rows {w : World} {b : Nat} {v : Value} {X : List Du} (h : HS w b v X) : ∀ x ∈ rowOf v, b + 1 ≤ x ∧ x < w.heap.size := by
  obtain ⟨M, h1, _⟩ := h
  exact own_lt h1.own
theorem HS.kept {w w' : World} {b : Nat} {v : Value} {X : List Du} {r : List Nat} (h : HS w b v X) (hk : Kept r w w') (h1 : b ∉ r) (h2 : ∀ x ∈ rowOf v, x ∉ r) : HS w' b v X := by
  obtain ⟨M, h3, h4⟩ := h
  exact ⟨M, h3.kept hk h1 h2, h4⟩
def SPost (W : World) (b : Nat) (v : Value) (X : List Du) (r : Value) (e : Ending) (w' : World) : Prop :=
  e = .returned r ∧ ∃ v', HS w' b v' X ∧ Kept (b :: rowOf v) W w' ∧ ∀ x ∈ rowOf v', x ∈ rowOf v ∨ W.heap.size ≤ x
theorem s_below {w w' : World} {b B : Nat} {v : Value} {X : List Du} (h : HS w b v X) (hk : Kept (b :: rowOf v) w w') (hB : B ≤ b) (hs : B ≤ w.heap.size) : Below B w w' :=
  hk.below hs (fun x hx => by
    rcases List.mem_cons.1 hx with h1 | h1
    · omega
    · have := (h.rows x h1).1; omega)
theorem spush (b : Nat) (v : Value) (X X' : List Du) (d : Du) (hp : X'.Perm (d :: X)) (hs : Srt X') (hl : X.length < 5000) (w : World) (h : HS w b v X) : Calls Try.prog 12 #[.pointer (some ⟨b, 0, none⟩), dv d] w (SPost w b v X' (.tuple #[])) := by
  obtain ⟨M, h1, h2, h3, h4⟩ := h
  refine (hpush b v M d w h1 h2 (by rw [← h3.length_eq]; exact hl)).mono ?_
  rintro e w' ⟨rfl, v', M', h5, h6, h7, h8, h9⟩
  exact ⟨rfl, v', ⟨M', h5, h6, hp.trans ((h3.cons d).trans h7.symm), hs⟩, h8, h9⟩
theorem spop (b : Nat) (v : Value) (x : Du) (X : List Du) (w : World) (h : HS w b v (x :: X)) : Calls Try.prog 13 #[.pointer (some ⟨b, 0, none⟩)] w (SPost w b v X (.tuple #[dv x, .bool true])) := by
  obtain ⟨M, h1, h2, h3, h4⟩ := h
  have h0 : 0 < M.length := by rw [← h3.length_eq]; simp
  have hx := heap_head h4 h3 h2
  have := hpop b v M h0 w h1 h2
  rw [hx] at this
  refine this.mono ?_
  rintro e w' ⟨rfl, v', M', h5, h6, h7, h8, h9⟩
  exact ⟨rfl, v', ⟨M', h5, h6, (h3.trans h7.symm).cons_inv, (List.pairwise_cons.1 h4).2⟩, h8, h9⟩
theorem spop_none (b : Nat) (v : Value) (w : World) (h : HS w b v []) : Calls Try.prog 13 #[.pointer (some ⟨b, 0, none⟩)] w (NonePost w) := by
  obtain ⟨M, h1, h2, h3, h4⟩ := h
  exact hpop_none b v M (by rw [← h3.length_eq]; rfl) w h1
theorem slen (b : Nat) (v : Value) (X : List Du) (n : Nat) (hn : n = X.length) (w : World) (h : HS w b v X) : Calls Try.prog 17 #[.pointer (some ⟨b, 0, none⟩)] w fun e w' => e = .returned (.int .i64 (n : Int)) ∧ w = w' := by
  obtain ⟨M, h1, h2, h3, h4⟩ := h
  rw [hn, h3.length_eq]
  exact hlen_any b v M w h1
end Go.Proofs.Ytplgcnlnhboneaa
