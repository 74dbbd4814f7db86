/- linear.along: its iterator, at any order. -/
import Derived.Test.YtpojophpbggkcaaLin4
import Derived.RangeFuncNested
import Derived.RangeFuncBound
import Derived.RangeFuncCalls
import Derived.RangeFuncLeaves
import Derived.RangeFuncBox
import Derived.Shelf.Abstract
import Derived.Shelf.RegionOpen
import Derived.OwnWalkIn
import Derived.TacticsInMore
import Derived.LoopNIn
import Derived.LoopIn
namespace Go.Proofs.Ytpojophpbggkcaa
open Go.ChangeShapes Go.WideShapes Go.ChangeAt Go.RowKit Go.Shelf
set_option linter.unusedVariables false
attribute [local go_sem] Oper.semAt_some

def uptoF {α : Type} (f : Nat → α) (k : Nat) : List α := (List.range k).map f
theorem uptoF_succ {α : Type} (f : Nat → α) (k : Nat) : uptoF f (k + 1) = uptoF f k ++ [f k] := by simp [uptoF, List.range_succ]
theorem uptoF_length {α : Type} (f : Nat → α) (k : Nat) : (uptoF f k).length = k := by simp [uptoF]
theorem uptoF_pre {α : Type} (f : Nat → α) (k n : Nat) (h : k ≤ n) : uptoF f k <+: uptoF f n := by
  induction n with
  | zero => obtain rfl : k = 0 := by omega
            exact List.prefix_rfl
  | succ n ih =>
    by_cases e : k = n + 1
    · subst e; exact List.prefix_rfl
    · rw [uptoF_succ]; exact (ih (by omega)).trans (List.prefix_append _ _)
/-- what a round that goes on keeps: all blocks below n₀ but r -/
structure KpE (n₀ : Nat) (r : List Nat) (W W' : World) : Prop where
  size : W.heap.size ≤ W'.heap.size
  block : ∀ k, k < n₀ → k ∉ r → W'.heap[k]? = W.heap[k]?
theorem KpE.refl (n₀ : Nat) (r : List Nat) (W : World) : KpE n₀ r W W := ⟨Nat.le_refl _, fun _ _ _ => rfl⟩
theorem KpE.trans {n₀ : Nat} {r : List Nat} {A B C : World} (h : KpE n₀ r A B) (k : KpE n₀ r B C) : KpE n₀ r A C := ⟨Nat.le_trans h.size k.size, fun i hi hr => (k.block i hi hr).trans (h.block i hi hr)⟩
theorem KpE.put {n₀ : Nat} {r : List Nat} {w : World} (hn : n₀ ≤ w.heap.size) (W : World) (l : Nat) (o o' : Obj) (hl : w.heap.size ≤ l) (h : W.heap[l]? = some o) (_ : o.isCells = false) (_ : o.isWalk = false) : KpE n₀ r W (W.putObj l o') :=
  ⟨by simp, fun k hk _ => World.putObj_heap_other (by omega)⟩
theorem KpE.cell {n₀ : Nat} {r : List Nat} {W W' : World} (h : KpE n₀ r W W') {k : Nat} (hk : k < n₀) (hr : k ∉ r) (o : Nat) : W'.cell? ⟨k, o, none⟩ = W.cell? ⟨k, o, none⟩ := World.cell?_of_block (a := ⟨k, o, none⟩) (h.block k hk hr)
theorem KpE.of_kept {n₀ : Nat} {r r' : List Nat} {W W' : World} (h : Kept r' W W') (hr : ∀ x ∈ r', x ∈ r) (hn : n₀ ≤ W.heap.size) : KpE n₀ r W W' := ⟨h.size, fun k hk hm => h.block k (by omega) (fun hm' => hm (hr k hm'))⟩
theorem along_is (p po : Option Addr) (n cap m oc : Nat) (w : World) : Calls Try.prog 23 #[.slice p n cap, .slice po m oc] w fun e w' => e = .returned (.func (.func 30) #[] #[.pointer (some ⟨w.heap.size + 1, 0, none⟩), .pointer (some ⟨w.heap.size, 0, none⟩)]) ∧ w' = (w.alloc (.cells #[.slice p n cap] 22)).alloc (.cells #[.slice po m oc] 23) := by
  go_enter Try.func23, Try.ntmps23
  go_wp2_with fail
  go_ret
  exact ⟨rfl, rfl⟩
set_option maxRecDepth 100000 in
set_option maxHeartbeats 4000000 in
theorem along1_in {α : Type} (encs : α → Array Value) (f : Nat → α) (F : Fence) (n : Nat) (hF : F.fn 30) (hro : F.round = none) (hn : 1 ≤ n) (l Bo Bl n₀ b off ln cap g oo m oc : Nat) (p po : Option Addr) (hp : 0 < ln → p = some ⟨b, off, none⟩) (hpo : 0 < m → po = some ⟨g, oo, none⟩) (A : Nat → Nat) (E : Nat → Ev) (hm : m ≤ 1000) (hf : ∀ k, k < m → encs (f k) = #[.agg (evV (E (A k)))])
    (hb0 : 0 < m → b < n₀) (hg0 : 0 < m → g < n₀) (hBo0 : Bo < n₀) (hBl0 : Bl < n₀) (r : List Nat) (hrb : 0 < m → b ∉ r) (hrg : 0 < m → g ∉ r) (hrBo : Bo ∉ r) (hrBl : Bl ∉ r) (hA : ∀ k, k < m → A k < ln) (J Jx : List α → World → Prop)
    (hY : ∀ pre x W, J pre W → pre.length < m → YieldAt F (n - 1) Try.prog l (encs x) W fun e W' =>
      (e = .returned (.bool true) ∧ J (pre ++ [x]) W' ∧ KpE n₀ r W W') ∨ (e = .returned (.bool false) ∧ Jx (pre ++ [x]) W'))
    (W : World) (hBo : W.cell? ⟨Bo, 0, none⟩ = some (.slice po m oc)) (hBl : W.cell? ⟨Bl, 0, none⟩ = some (.slice p ln cap)) (hc : ∀ j, j < m → W.cell? ⟨g, oo + j, none⟩ = some (.int .i64 ((A j : Nat) : Int))) (hes : ∀ i, i < ln → EvAt W b (off + i * 11) (E i)) (h0 : J [] W) :
    CallsIn F n Try.prog 30 #[.func (.yield l) #[] #[], .pointer (some ⟨Bo, 0, none⟩), .pointer (some ⟨Bl, 0, none⟩)] W fun e W' => (∃ v, e = .returned v) ∧
      ((∃ ys, ys = uptoF f m ∧ J ys W') ∨ (∃ pre, (∃ k, k ≤ m ∧ pre = uptoF f k) ∧ Jx pre W')) := by
  refine callsIn_of_wp Try.func30 rfl hF ?_ hro
  simp only [Try.ntmps30, List.size_toArray, List.length_cons, List.length_nil, Nat.reduceAdd, Nat.reduceSub, Array.replicate_succ, Array.replicate_zero, List.push_toArray, List.append_toArray, List.nil_append, List.cons_append]
  gi_wp2
  gi_loopw [8] (fun i wr => ∃ k : Nat, k ≤ m ∧ i = .int .i64 k ∧ J (uptoF f k) wr ∧ KpE n₀ r W wr)
    (fun i _ => m - (intOf i).toNat)
  case atStart => exact ⟨0, Nat.zero_le _, rfl, h0, KpE.refl _ _ _⟩
  case round =>
    obtain ⟨k, hk, rfl, hJs, hnx⟩ := hrel
    by_cases hlt : k < m
    · obtain ⟨fn, tmps, assign, body, hy, hR⟩ := hY _ (f k) wr hJs (by rw [uptoF_length]; exact hlt)
      rw [hf k hlt] at hy
      have hm0 : 0 < m := by omega
      have hak0 := hA k hlt
      obtain rfl := hpo hm0
      obtain rfl := hp (by omega)
      have hb0 := hb0 hm0
      have hg0 := hg0 hm0
      have hrb := hrb hm0
      have hrg := hrg hm0
      have cj := (hnx.cell hg0 hrg (oo + k)).trans (hc k hlt)
      have cl := (hnx.cell hBl0 hrBl 0).trans hBl
      have hak := hA k hlt
      obtain ⟨a0, a1, a2, a3, a4, a5, a6, a7, a8, a9, a10⟩ := hes _ hak
      have b0 := (hnx.cell hb0 hrb (off + A k * 11)).trans a0
      have b1 := (hnx.cell hb0 hrb (off + A k * 11 + 1)).trans a1
      have b2 := (hnx.cell hb0 hrb (off + A k * 11 + 2)).trans a2
      have b3 := (hnx.cell hb0 hrb (off + A k * 11 + 3)).trans a3
      have b4 := (hnx.cell hb0 hrb (off + A k * 11 + 4)).trans a4
      have b5 := (hnx.cell hb0 hrb (off + A k * 11 + 5)).trans a5
      have b6 := (hnx.cell hb0 hrb (off + A k * 11 + 6)).trans a6
      have b7 := (hnx.cell hb0 hrb (off + A k * 11 + 7)).trans a7
      have b8 := (hnx.cell hb0 hrb (off + A k * 11 + 8)).trans a8
      have b9 := (hnx.cell hb0 hrb (off + A k * 11 + 9)).trans a9
      have b10 := (hnx.cell hb0 hrb (off + A k * 11 + 10)).trans a10
      clear a0 a1 a2 a3 a4 a5 a6 a7 a8 a9 a10
      have q1 : (0 : Int) ≤ (k : Int) := by omega
      have q2 : (k : Int) < (m : Int) := by omega
      have q3 : (0 : Int) ≤ ((A k : Nat) : Int) := by omega
      have q4 : ((A k : Nat) : Int) < (ln : Int) := by omega
      unfold evV at hy
      gi_wp2
      refine hR.mono ?_
      rintro e W3 (⟨rfl, hJ3, hk3⟩ | ⟨rfl, hJx3⟩)
      · gi_wp2
        go_roundw
        case rel => exact ⟨k + 1, by omega, by simp, by rw [uptoF_succ]; exact hJ3, hnx.trans hk3⟩
        case measure => simp [intOf]; omega
      · gi_wp2
        refine bodyPost_ret (results_none rfl _ _ _) rfl ?_
        exact ⟨⟨_, rfl⟩, .inr ⟨_, ⟨k + 1, by omega, (uptoF_succ _ _).symm⟩, hJx3⟩⟩
    · obtain rfl : k = m := by omega
      gi_wp2
      go_end0
      exact ⟨⟨_, rfl⟩, .inl ⟨_, rfl, hJs⟩⟩
end Go.Proofs.Ytpojophpbggkcaa
