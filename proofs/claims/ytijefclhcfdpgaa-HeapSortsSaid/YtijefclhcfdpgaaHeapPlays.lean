/- lightshiplaw48: awake, HeapPlays. -/
import Derived.Test.YtijefclhcfdpgaaHeapLaw
import Derived.Test.YtijefclhcfdpgaaOpen
namespace Go.Proofs.Ytijefclhcfdpgaa
open Go.ChangeShapes Go.WideShapes Go.ChangeAt Go.RowKit
set_option linter.unusedVariables false

def TruePost (W : World) (e : Ending) (w' : World) : Prop := e = .returned (.bool true) ∧ Below W.heap.size W w'
theorem key_eq (a b x y : Int) (w : World) : (Op.equalIn 9999 29 (.agg #[.int .i64 a, .int .u32 b]) (.agg #[.int .i64 x, .int .u32 y])).run Try.prog w = .ok (decide (a = x ∧ b = y)) w := by
  rw [run_equalIn_agg _ _ _ _ _ (by kernel_rfl) (by kernel_rfl), eqFields_eqF _ _ _ _ (by kernel_rfl)]
  have hf : ((Try.prog.fieldsOf 29).toList.map fun f => (f.type, f.offset)) = [(3, 0), (27, 1)] := by kernel_rfl
  rw [hf]
  have hp : ∀ (c0 c1 : Value) (w : World), (part 3 #[c0, c1] 0).run Try.prog w = .ok c0 w := fun c0 c1 w => by kernel_rfl
  have hp1 : ∀ (c0 c1 : Value) (w : World), (part 27 #[c0, c1] 1).run Try.prog w = .ok c1 w := fun c0 c1 w => by kernel_rfl
  have hu : Try.prog.underlying 3 = some (.int .i64) := by kernel_rfl
  have hu1 : Try.prog.underlying 27 = some (.int .u32) := by kernel_rfl
  simp [eqF, hp, hp1, run_equalIn_int _ _ _ _ _ _ _ hu, run_equalIn_int _ _ _ _ _ _ _ hu1]
  by_cases h1 : a = x <;> by_cases h2 : b = y <;> simp [h1, h2]
theorem due_eqIn (a b c x y z : Int) (w : World) : (Op.equalIn 10000 31 (.agg #[.int .i64 a, .int .u32 b, .int .i64 c]) (.agg #[.int .i64 x, .int .u32 y, .int .i64 z])).run Try.prog w = .ok (decide (a = x ∧ b = y ∧ c = z)) w := by
  rw [run_equalIn_agg _ _ _ _ _ (by kernel_rfl) (by kernel_rfl), eqFields_eqF _ _ _ _ (by kernel_rfl)]
  have hf : ((Try.prog.fieldsOf 31).toList.map fun f => (f.type, f.offset)) = [(29, 0), (3, 2)] := by kernel_rfl
  rw [hf]
  have hp : ∀ (c0 c1 c2 : Value) (w : World), (part 29 #[c0, c1, c2] 0).run Try.prog w = .ok (.agg #[c0, c1]) w := fun c0 c1 c2 w => by kernel_rfl
  have hp1 : ∀ (c0 c1 c2 : Value) (w : World), (part 3 #[c0, c1, c2] 2).run Try.prog w = .ok c2 w := fun c0 c1 c2 w => by kernel_rfl
  have hu : Try.prog.underlying 3 = some (.int .i64) := by kernel_rfl
  have hk := key_eq a b x y
  simp [eqF, hp, hp1, hk, run_equalIn_int _ _ _ _ _ _ _ hu]
  by_cases h1 : a = x <;> by_cases h2 : b = y <;> by_cases h3 : c = z <;> simp [h1, h2, h3]
theorem due_eq (x y : Du) (w : World) : (binOp .eql 31 (.agg #[.int .i64 x.st, .int .u32 x.bl, .int .i64 x.at_]) (.agg #[.int .i64 y.st, .int .u32 y.bl, .int .i64 y.at_])).run Try.prog w = .ok (.bool (decide (x.st = y.st ∧ x.bl = y.bl ∧ x.at_ = y.at_))) w := by
  rw [run_eql_struct, due_eqIn]; rfl
theorem due_neq (x y : Du) (w : World) : (binOp .neq 31 (.agg #[.int .i64 x.st, .int .u32 x.bl, .int .i64 x.at_]) (.agg #[.int .i64 y.st, .int .u32 y.bl, .int .i64 y.at_])).run Try.prog w = .ok (.bool (!decide (x.st = y.st ∧ x.bl = y.bl ∧ x.at_ = y.at_))) w := by
  rw [run_neq_struct, due_eqIn]; rfl
theorem due_neq_same (x : Du) (w : World) : (binOp .neq 31 (.agg #[.int .i64 x.st, .int .u32 x.bl, .int .i64 x.at_]) (.agg #[.int .i64 x.st, .int .u32 x.bl, .int .i64 x.at_])).run Try.prog w = .ok (.bool false) w := by
  rw [due_neq]; simp
theorem due_guard (op : BinOp) (h : op = .neq ∨ op = .eql) (a b c x y z : Int) (w : World) (p q : Operand) : (eqGuard op 31 p q (.agg #[.int .i64 a, .int .u32 b, .int .i64 c]) (.agg #[.int .i64 x, .int .u32 y, .int .i64 z])).run Try.prog w = .ok () w := by
  rcases h with rfl | rfl <;> kernel_rfl

/-- a heap of what the sorted list holds -/
def HS (w : World) (b : Nat) (v : Value) (X : List Du) : Prop := ∃ M, HeapAt w b v M ∧ IsHeap M ∧ X.Perm M ∧ Srt X
theorem HS.rows {w : World} {b : Nat} {v : Value} {X : List Du} (h : HS w b v X) : ∀ x ∈ rowOf v, b + 1 ≤ x ∧ x < w.heap.size := by
  obtain ⟨M, h1, _⟩ := h
  exact own_lt h1.own
theorem HS.kept {w w' : World} {b : Nat} {v : Value} {X : List Du} {r : List Nat} (h : HS w b v X) (hk : Kept r w w') (h1 : b ∉ r) (h2 : ∀ x ∈ rowOf v, x ∉ r) : HS w' b v X := by
  obtain ⟨M, h3, h4⟩ := h
  exact ⟨M, h3.kept hk h1 h2, h4⟩
def SPost (W : World) (b : Nat) (v : Value) (X : List Du) (r : Value) (e : Ending) (w' : World) : Prop :=
  e = .returned r ∧ ∃ v', HS w' b v' X ∧ Kept (b :: rowOf v) W w' ∧ ∀ x ∈ rowOf v', x ∈ rowOf v ∨ W.heap.size ≤ x
theorem s_below {w w' : World} {b B : Nat} {v : Value} {X : List Du} (h : HS w b v X) (hk : Kept (b :: rowOf v) w w') (hB : B ≤ b) (hs : B ≤ w.heap.size) : Below B w w' :=
  hk.below hs (fun x hx => by
    rcases List.mem_cons.1 hx with h1 | h1
    · omega
    · have := (h.rows x h1).1; omega)
theorem spush (b : Nat) (v : Value) (X X' : List Du) (d : Du) (hp : X'.Perm (d :: X)) (hs : Srt X') (hl : X.length < 5000) (w : World) (h : HS w b v X) : Calls Try.prog 8 #[.pointer (some ⟨b, 0, none⟩), dv d] w (SPost w b v X' (.tuple #[])) := by
  obtain ⟨M, h1, h2, h3, h4⟩ := h
  refine (hpush b v M d w h1 h2 (by rw [← h3.length_eq]; exact hl)).mono ?_
  rintro e w' ⟨rfl, v', M', h5, h6, h7, h8, h9⟩
  exact ⟨rfl, v', ⟨M', h5, h6, hp.trans ((h3.cons d).trans h7.symm), hs⟩, h8, h9⟩
theorem spop (b : Nat) (v : Value) (x : Du) (X : List Du) (w : World) (h : HS w b v (x :: X)) : Calls Try.prog 7 #[.pointer (some ⟨b, 0, none⟩)] w (SPost w b v X (.tuple #[dv x, .bool true])) := by
  obtain ⟨M, h1, h2, h3, h4⟩ := h
  have h0 : 0 < M.length := by rw [← h3.length_eq]; simp
  have hx := heap_head h4 h3 h2
  have := hpop b v M h0 w h1 h2
  rw [hx] at this
  refine this.mono ?_
  rintro e w' ⟨rfl, v', M', h5, h6, h7, h8, h9⟩
  exact ⟨rfl, v', ⟨M', h5, h6, (h3.trans h7.symm).cons_inv, (List.pairwise_cons.1 h4).2⟩, h8, h9⟩
theorem spop_none (b : Nat) (v : Value) (w : World) (h : HS w b v []) : Calls Try.prog 7 #[.pointer (some ⟨b, 0, none⟩)] w (NonePost w) := by
  obtain ⟨M, h1, h2, h3, h4⟩ := h
  exact hpop_none b v M (by rw [← h3.length_eq]; rfl) w h1
theorem speek (b : Nat) (v : Value) (x : Du) (X : List Du) (w : World) (h : HS w b v (x :: X)) : Calls Try.prog 10 #[.pointer (some ⟨b, 0, none⟩)] w fun e w' => e = .returned (.tuple #[dv x, .bool true]) ∧ Below w.heap.size w w' := by
  obtain ⟨M, h1, h2, h3, h4⟩ := h
  have hx := heap_head h4 h3 h2
  have := hpeek b v M (by rw [← h3.length_eq]; simp) w h1
  rwa [hx] at this
theorem speek_none (b : Nat) (v : Value) (w : World) (h : HS w b v []) : Calls Try.prog 10 #[.pointer (some ⟨b, 0, none⟩)] w (NonePost w) := by
  obtain ⟨M, h1, h2, h3, h4⟩ := h
  exact hpeek_none b v M (by rw [← h3.length_eq]; rfl) w h1
theorem slen (b : Nat) (v : Value) (X : List Du) (n : Nat) (hn : n = X.length) (w : World) (h : HS w b v X) : Calls Try.prog 11 #[.pointer (some ⟨b, 0, none⟩)] w fun e w' => e = .returned (.int .i64 (n : Int)) ∧ w = w' := by
  obtain ⟨M, h1, h2, h3, h4⟩ := h
  rw [hn, h3.length_eq]
  exact hlen_any b v M w h1
def k1 : Du := ⟨1, 0, 3⟩
def k2 : Du := ⟨2, 0, 3⟩
def k5 : Du := ⟨0, 0, 5⟩
set_option maxRecDepth 100000 in
set_option maxHeartbeats 4000000 in
theorem awake_true (w : World) : Calls Try.prog 5 #[] w (TruePost w) := by
  have q1 := due_eq k1 k1
  have q2 := due_guard .eql (.inr rfl) k1.st k1.bl k1.at_ k1.st k1.bl k1.at_
  simp [k1] at q1 q2
  go_enter Try.func5, Try.ntmps5
  go_wp2_with fail
  refine (hnew _).mono ?_
  rintro e w0 ⟨rfl, hH0, hB0⟩
  have hS0 : HS w0 w.heap.size (.slice none 0 0) [] := ⟨[], hH0, fun j h1 h2 => by simp at h2, List.Perm.refl _, List.Pairwise.nil⟩
  clear hH0
  go_wp2_with fail
  refine (spush w.heap.size _ [] [k5] k5 (List.Perm.refl _) (by simp [Srt]) (by simp) _ hS0).mono ?_
  rintro e w1 ⟨rfl, v1, hS1, hK1, hr1⟩
  have hB1 := hB0.trans (s_below hS0 hK1 (Nat.le_refl _) hB0.size)
  clear hK1 hr1
  go_wp2_with fail
  refine (spush w.heap.size _ [k5] [k2, k5] k2 (List.Perm.refl _) (by simp [Srt, k2, k5, Du.lt]) (by simp) _ hS1).mono ?_
  rintro e w2 ⟨rfl, v2, hS2, hK2, hr2⟩
  have hB2 := hB1.trans (s_below hS1 hK2 (Nat.le_refl _) hB1.size)
  clear hK2 hr2
  go_wp2_with fail
  refine (spush w.heap.size _ [k2, k5] [k1, k2, k5] k1 (List.Perm.refl _) (by simp [Srt, k1, k2, k5, Du.lt]) (by simp) _ hS2).mono ?_
  rintro e w3 ⟨rfl, v3, hS3, hK3, hr3⟩
  have hB3 := hB2.trans (s_below hS2 hK3 (Nat.le_refl _) hB2.size)
  clear hK3 hr3
  go_wp2_with fail
  refine (speek w.heap.size _ k1 [k2, k5] _ hS3).mono ?_
  rintro e w4 ⟨rfl, hb4⟩
  have hS4 := hS3.kept (Kept.of_below hb4 []) (by simp) (by simp)
  have hB4 := hB3.trans (hb4.mono hB3.size)
  have nA : w4.heap.size ∉ rowOf v3 := fun h => by have := (hS4.rows _ h).2; omega
  have nb : w.heap.size < w4.heap.size := by obtain ⟨M, h1, _⟩ := hS4; exact h1.blk.lt
  unfold k1 dv
  go_wp2_with fail
  generalize hw5 : w4.alloc _ = w5
  have hA5 : Blk w5 w4.heap.size #[.int .i64 1, .int .u32 0, .int .i64 3] 31 := by rw [← hw5]; exact Blk.new _ _ _
  have hS5 : HS w5 w.heap.size v3 [k1, k2, k5] := by rw [← hw5]; exact hS4.kept ((Kept.refl [] _).alloc _) (by simp) (by simp)
  have hB5 : Below w.heap.size w w5 := by rw [← hw5]; exact hB4.alloc hB4.size _
  obtain ⟨a, ha⟩ : ∃ a, a = w4.heap.size := ⟨_, rfl⟩
  rw [← ha] at nA nb hA5 ⊢
  have hal := hA5.lt
  clear hw5 hS4 hB4 ha hb4
  have hQ := spop w.heap.size v3 k1 [k2, k5] _ hS5
  refine hQ.mono ?_
  rintro e w6 ⟨rfl, v6, hS6, hK6, hr6⟩
  have hB6 := hB5.trans (s_below hS5 hK6 (Nat.le_refl _) hB5.size)
  have hA6 := hA5.kept hK6 (by simp; exact ⟨by omega, nA⟩)
  have nA6 : a ∉ rowOf v6 := fun h => by rcases hr6 _ h with h | h; exact nA h; omega
  clear hQ hK6 hr6 hA5 nA
  unfold k1 dv
  go_wp2_with fail
  generalize hw7 : w6.alloc _ = w7
  have hC7 : Blk w7 w6.heap.size #[.int .i64 1, .int .u32 0, .int .i64 3] 31 := by rw [← hw7]; exact Blk.new _ _ _
  have hA7 : Blk w7 a #[.int .i64 1, .int .u32 0, .int .i64 3] 31 := by rw [← hw7]; exact hA6.alloc _
  have hS7 : HS w7 w.heap.size v6 [k2, k5] := by rw [← hw7]; exact hS6.kept ((Kept.refl [] _).alloc _) (by simp) (by simp)
  have hB7 : Below w.heap.size w w7 := by rw [← hw7]; exact hB6.alloc hB6.size _
  have nC7 : w6.heap.size ∉ rowOf v6 := fun h => by have := (hS6.rows _ h).2; omega
  have hac : a < w6.heap.size := hA6.lt
  obtain ⟨c, hc⟩ : ∃ c, c = w6.heap.size := ⟨_, rfl⟩
  rw [← hc] at nC7 hac hC7 ⊢
  have hcl := hC7.lt
  clear hw7 hS6 hB6 hA6 hc hS5 hB5
  refine (slen w.heap.size v6 [k2, k5] 2 rfl _ hS7).mono ?_
  rintro e w' ⟨rfl, rfl⟩
  go_wp2_with fail
  refine (spop w.heap.size v6 k2 [k5] _ hS7).mono ?_
  rintro e w8 ⟨rfl, v8, hS8, hK8, hr8⟩
  have hB8 := hB7.trans (s_below hS7 hK8 (Nat.le_refl _) hB7.size)
  have hA8 := hA7.kept hK8 (by simp; exact ⟨by omega, nA6⟩)
  have hC8 := hC7.kept hK8 (by simp; exact ⟨by omega, nC7⟩)
  have nA8 : a ∉ rowOf v8 := fun h => by rcases hr8 _ h with h | h; exact nA6 h; omega
  have nC8 : c ∉ rowOf v8 := fun h => by rcases hr8 _ h with h | h; exact nC7 h; omega
  have hcl8 := hC8.lt
  clear hK8 hr8 hS7 hB7 hA7 hC7 nA6 nC7
  go_wp2_with fail
  refine (spop w.heap.size v8 k5 [] _ hS8).mono ?_
  rintro e w9 ⟨rfl, v9, hS9, hK9, hr9⟩
  have hB9 := hB8.trans (s_below hS8 hK9 (Nat.le_refl _) hB8.size)
  have hA9 := hA8.kept hK9 (by simp; exact ⟨by omega, nA8⟩)
  have hC9 := hC8.kept hK9 (by simp; exact ⟨by omega, nC8⟩)
  clear hK9 hr9 hS8 hB8 hA8 hC8 nA8 nC8
  unfold k5 dv
  go_wp2_with fail
  generalize hw10 : w9.alloc _ = w10
  have hE10 : Blk w10 w9.heap.size #[.int .i64 0, .int .u32 0, .int .i64 5] 31 := by rw [← hw10]; exact Blk.new _ _ _
  have hA10 : Blk w10 a #[.int .i64 1, .int .u32 0, .int .i64 3] 31 := by rw [← hw10]; exact hA9.alloc _
  have hC10 : Blk w10 c #[.int .i64 1, .int .u32 0, .int .i64 3] 31 := by rw [← hw10]; exact hC9.alloc _
  have hS10 : HS w10 w.heap.size v9 [] := by rw [← hw10]; exact hS9.kept ((Kept.refl [] _).alloc _) (by simp) (by simp)
  have hB10 : Below w.heap.size w w10 := by rw [← hw10]; exact hB9.alloc hB9.size _
  obtain ⟨m, hm⟩ : ∃ m, m = w9.heap.size := ⟨_, rfl⟩
  rw [← hm] at hE10 ⊢
  clear hw10 hS9 hB9 hA9 hC9 hm
  refine (spop_none w.heap.size v9 _ hS10).mono ?_
  rintro e w11 ⟨rfl, hb11⟩
  have hB11 := hB10.trans (hb11.mono hB10.size)
  have hA11 := hA10.below hb11 hA10.lt
  have hC11 := hC10.below hb11 hC10.lt
  have hE11 := hE10.below hb11 hE10.lt
  have la := hA11.lt
  have lc := hC11.lt
  have le := hE11.lt
  have x0 := hA11.cell 0
  have x1 := hA11.cell 1
  have x2 := hA11.cell 2
  have y0 := hC11.cell 0
  have y1 := hC11.cell 1
  have y2 := hC11.cell 2
  have t0 := hE11.cell 0
  have t1 := hE11.cell 1
  have t2 := hE11.cell 2
  simp at x0 x1 x2 y0 y1 y2 t0 t1 t2
  clear hA10 hC10 hE10 hA11 hC11 hE11 hS10 hB10 hb11
  unfold z3 dv
  go_wp2_with fail
  go_ret
  exact ⟨rfl, hB11.alloc hB11.size _⟩
end Go.Proofs.Ytijefclhcfdpgaa
