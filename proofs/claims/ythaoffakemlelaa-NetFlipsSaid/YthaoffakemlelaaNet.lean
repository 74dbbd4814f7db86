/- Contracts of package net: New, Len, at, Peek, Put. -/
import Derived.Test.YthaoffakemlelaaRowG
import Derived.Outline
import Derived.Handy
import Derived.BigRegion
import Derived.BigQuiet
import Derived.Deep.QuietTactic
import Derived.Deep.RegionHeld3
import Derived.Deep.RegionLaw
import Derived.Lib.SliceRun
import Derived.IntWalk
namespace Go.Proofs.Ythaoffakemlelaa
open Go.ChangeShapes Go.WideShapes Go.ChangeAt Go.RowKit
set_option linter.unusedVariables false

/-- texts as cells -/
def sv (l : List ByteArray) : List Value := l.map Value.string
theorem sv_len (l : List ByteArray) : (sv l).length = l.length := by simp [sv]
theorem sv_app (l m : List ByteArray) : sv (l ++ m) = sv l ++ sv m := by simp [sv]
theorem sv_at (l : List ByteArray) (j : Nat) (h : j < l.length) : (sv l)[j]? = some (.string l[j]) := by simp [sv, h]
theorem sv_one (l : List ByteArray) : ∀ u ∈ sv l, u.oneCell' = true := by
  intro u hu
  simp only [sv, List.mem_map] at hu
  obtain ⟨b, _, rfl⟩ := hu; rfl
theorem sv_set (l : List ByteArray) (j : Nat) (b : ByteArray) : sv (l.set j b) = (sv l).set j (.string b) := by simp [sv, List.map_set]
theorem s_info : (Try.prog.info? 9).map (fun i => (i.zero, i.size, i.bytes)) = some (some (.string ⟨#[]⟩), 1, 16) := by kernel_rfl
def bg (L : List ByteArray) (k : Nat) : ByteArray := L.getD k ⟨#[]⟩
theorem bg_at (L : List ByteArray) (k : Nat) (h : k < L.length) : bg L k = L[k] := by simp [bg, List.getD, h]
theorem sv_bg (L : List ByteArray) (k : Nat) (h : k < L.length) : (sv L)[k]? = some (.string (bg L k)) := by rw [sv_at L k h, bg_at L k h]
/-- a place among so many -/
def atN (i : Int) (n : Nat) : Nat := (max i 0).toNat % n
theorem atN_lt (i : Int) (n : Nat) (h : 0 < n) : atN i n < n := Nat.mod_lt _ h
theorem atN_int (i : Int) (n : Nat) : max i 0 % (n : Int) = (atN i n : Int) := by
  unfold atN
  rw [Int.natCast_emod, Int.toNat_of_nonneg (by omega)]

/-- a net in block b, its row v -/
structure NetAt (w : World) (b : Nat) (v : Value) (L : List ByteArray) (room : Nat) : Prop where
  blk : Blk w b #[v, .int .i64 (room : Int)] 42
  own : w.ownsRow (b + 1) 9 1 v L.length (sv L)
  len : L.length ≤ room
  rm : room ≤ 4096
theorem NetAt.form {w : World} {b : Nat} {v : Value} {L : List ByteArray} {room : Nat} (h : NetAt w b v L room) : ∃ (p : Option Addr) (cap : Nat), v = .slice p L.length cap := by
  rcases h.own.2 with ⟨h1, h2⟩ | ⟨g, cap, cur, h1, _⟩
  · exact ⟨none, 0, by rw [h1, h2]⟩
  · exact ⟨_, _, h1⟩
theorem NetAt.cells {w : World} {b : Nat} {v : Value} {L : List ByteArray} {room : Nat} (h : NetAt w b v L room) : w.cell? ⟨b, 0, none⟩ = some v ∧ w.cell? ⟨b, 1, none⟩ = some (.int .i64 (room : Int)) := ⟨h.blk.cell 0, h.blk.cell 1⟩
theorem NetAt.kept {w w' : World} {b : Nat} {v : Value} {L : List ByteArray} {room : Nat} {r : List Nat} (h : NetAt w b v L room) (hk : Kept r w w') (h1 : b ∉ r) (h2 : ∀ x ∈ rowOf v, x ∉ r) : NetAt w' b v L room :=
  ⟨h.blk.kept hk h1, own_kept h.own hk h2, h.len, h.rm⟩
theorem NetAt.drew {w : World} {b : Nat} {v : Value} {L : List ByteArray} {room : Nat} (h : NetAt w b v L room) : NetAt w.drew b v L room := h.kept ((Kept.refl [] w).drew) (by simp) (by simp)
theorem NetAt.drewN {w : World} {b : Nat} {v : Value} {L : List ByteArray} {room : Nat} (h : NetAt w b v L room) (n : Nat) : NetAt (w.drewN n) b v L room := h.kept ((Kept.refl [] w).drewN n) (by simp) (by simp)

theorem at_any (i : Int) (n : Nat) (h0 : 0 < n) (hn : n ≤ 1048576) (w : World) : Calls Try.prog 16 #[.int .i64 i, .int .i64 (n : Int)] w fun e w' => e = .returned (.int .i64 (atN i n : Int)) ∧ w = w' := by
  go_enter Try.func16, Try.ntmps16
  go_wp2
  go_ret
  exact ⟨ret_int (atN_int i n), rfl⟩
theorem nnew_bad (room : Int) (hb : room < 1 ∨ 4096 < room) (w : World) : Calls Try.prog 7 #[.int .i64 room] w fun e w' => e = .returned (.tuple #[.pointer none, .int .i64 1]) ∧ w = w' := by
  by_cases h1 : room < 1
  all_goals
    go_enter Try.func7, Try.ntmps7
    go_wp2
    go_ret2
    exact ⟨rfl, rfl⟩
def NNewPost (W : World) (room : Nat) (e : Ending) (w' : World) : Prop := e = .returned (.tuple #[.pointer (some ⟨W.heap.size, 0, none⟩), .int .i64 0]) ∧ NetAt w' W.heap.size (.slice none 0 0) [] room ∧ Below W.heap.size W w'
theorem nnew_good (room : Nat) (h1 : 1 ≤ room) (h2 : room ≤ 4096) (w : World) : Calls Try.prog 7 #[.int .i64 (room : Int)] w (NNewPost w room) := by
  go_enter Try.func7, Try.ntmps7
  go_wp2
  go_ret2
  exact ⟨rfl, ⟨Blk.new' rfl, World.ownsRow_nil _ _ _ _, Nat.zero_le _, h2⟩, by go_grown⟩
theorem nlen_any (b : Nat) (v : Value) (L : List ByteArray) (room : Nat) (w : World) (h : NetAt w b v L room) : Calls Try.prog 10 #[.pointer (some ⟨b, 0, none⟩)] w fun e w' => e = .returned (.int .i64 (L.length : Int)) ∧ w = w' := by
  obtain ⟨p, cap, rfl⟩ := h.form
  obtain ⟨c0, c1⟩ := h.cells
  go_enter Try.func10, Try.ntmps10
  go_wp2
  go_ret
  exact ⟨rfl, rfl⟩
theorem nlen_nil (w : World) : Calls Try.prog 10 #[.pointer none] w fun e w' => e = .returned (.int .i64 0) ∧ w = w' := by
  go_enter Try.func10, Try.ntmps10
  go_wp2
  go_ret
  exact ⟨rfl, rfl⟩
def NonePost (W : World) (e : Ending) (w' : World) : Prop := e = .returned (.tuple #[.string ⟨#[]⟩, .bool false]) ∧ W = w'
theorem npeek_nil (i : Int) (w : World) : Calls Try.prog 12 #[.pointer none, .int .i64 i] w (NonePost w) := by
  go_enter Try.func12, Try.ntmps12
  go_wp2_with (go_at_call 10; refine (nlen_nil _).mono ?_; rintro e w' ⟨rfl, rfl⟩)
  go_ret2
  exact ⟨rfl, rfl⟩
theorem npeek_none (b : Nat) (v : Value) (L : List ByteArray) (room : Nat) (i : Int) (h0 : L.length = 0) (w : World) (h : NetAt w b v L room) : Calls Try.prog 12 #[.pointer (some ⟨b, 0, none⟩), .int .i64 i] w (NonePost w) := by
  have b0 : ((L.length : Int) == 0) = true := by rw [beq_iff_eq]; omega
  have H := Lib.hid h
  clear h
  go_enter Try.func12, Try.ntmps12
  go_wp2_with (go_at_call 10; refine (nlen_any b v L room _ H.out).mono ?_; rintro e w' ⟨rfl, rfl⟩)
  go_ret2
  exact ⟨rfl, rfl⟩
def SomePost (W : World) (s : ByteArray) (e : Ending) (w' : World) : Prop := e = .returned (.tuple #[.string s, .bool true]) ∧ ∃ q, w' = W.drewN q
theorem npeek_some (b : Nat) (v : Value) (L : List ByteArray) (room : Nat) (i : Int) (h0 : 0 < L.length) (w : World) (h : NetAt w b v L room) : Calls Try.prog 12 #[.pointer (some ⟨b, 0, none⟩), .int .i64 i] w (SomePost w (bg L (atN i L.length))) := by
  obtain ⟨g, cap, rfl, hg1, hg2⟩ := h.own.form h0
  obtain ⟨c0, c1⟩ := h.cells
  have b0 : ((L.length : Int) == 0) = false := by rw [beq_eq_false_iff_ne]; omega
  have hk := atN_lt i L.length h0
  have ck : w.cell? ⟨g, atN i L.length, none⟩ = some (.string (bg L (atN i L.length))) := by rw [h.own.cellAt _ (by omega)]; exact sv_bg _ _ hk
  have hl : L.length ≤ 4096 := Nat.le_trans h.len h.rm
  have H := Lib.hid h
  have HA := Lib.hid (fun w => at_any i L.length h0 (by omega) w)
  generalize atN i L.length = k at *
  clear h
  go_enter Try.func12, Try.ntmps12
  go_wp2_with (go_at_call 10; refine (nlen_any b _ L room _ H.out).mono ?_; rintro e w' ⟨rfl, rfl⟩)
  go_quiet ((go_at_call 16; refine Calls.quiet_of_same ((HA.out _).mono fun e w1 h => ⟨h.1, h.2.symm⟩)))
  go_wp2
  go_ret2
  exact ⟨rfl, _, rfl⟩
theorem nput_nil (s : ByteArray) (w : World) : Calls Try.prog 8 #[.pointer none, .string s] w fun e w' => e = .returned (.bool false) ∧ ∃ q, w' = w.drewN q := by
  go_enter Try.func8, Try.ntmps8
  go_wp2
  go_quiet (fail)
  go_wp2
  go_ret
  exact ⟨rfl, _, rfl⟩
theorem nput_full (b : Nat) (v : Value) (L : List ByteArray) (room : Nat) (s : ByteArray) (h0 : room ≤ L.length) (w : World) (h : NetAt w b v L room) : Calls Try.prog 8 #[.pointer (some ⟨b, 0, none⟩), .string s] w fun e w' => e = .returned (.bool false) ∧ ∃ q, w' = w.drewN q := by
  obtain ⟨p, cap, rfl⟩ := h.form
  obtain ⟨c0, c1⟩ := h.cells
  have b0 : decide ((room : Int) ≤ (L.length : Int)) = true := by rw [decide_eq_true_iff]; omega
  go_enter Try.func8, Try.ntmps8
  go_wp2
  go_quiet (fail)
  go_wp2
  go_ret
  exact ⟨rfl, _, rfl⟩
def NActPost (W : World) (b : Nat) (v : Value) (L : List ByteArray) (room : Nat) (r : Value) (e : Ending) (w' : World) : Prop :=
  e = .returned r ∧ ∃ v', NetAt w' b v' L room ∧ Kept (b :: rowOf v) W w' ∧ ∀ x ∈ rowOf v', x ∈ rowOf v ∨ W.heap.size ≤ x
set_option maxRecDepth 100000 in
set_option maxHeartbeats 2000000 in
theorem nput_some (b : Nat) (v : Value) (L : List ByteArray) (room : Nat) (s : ByteArray) (h0 : L.length < room) (w : World) (h : NetAt w b v L room) : Calls Try.prog 8 #[.pointer (some ⟨b, 0, none⟩), .string s] w (NActPost w b v (L ++ [s]) room (.bool true)) := by
  obtain ⟨i0, hi, hz0, hz1, hz2⟩ := info_parts s_info
  obtain ⟨p, cap, rfl⟩ := h.form
  obtain ⟨c0, c1⟩ := h.cells
  have f0 := h.blk.free 0
  have hl : room ≤ 4096 := h.rm
  have hlt := h.blk.lt
  have b0 : decide ((room : Int) ≤ (L.length : Int)) = false := by rw [decide_eq_false_iff_not]; omega
  have H := Lib.hid h
  have hown := h.own
  clear h
  go_enter Try.func8, Try.ntmps8
  go_wp2_with fail
  go_quiet (fail)
  generalize hw2 : w.drewN _ = w2
  have hown2 : w2.ownsRow (b + 1) 9 1 (.slice p L.length cap) L.length (sv L) := by rw [← hw2]; exact hown
  have hB2 : Blk w2 b #[.slice p L.length cap, .int .i64 (room : Int)] 42 := by rw [← hw2]; exact H.out.blk
  have hK2 : Kept (b :: rowOf (.slice p L.length cap)) w w2 := by rw [← hw2]; exact (Kept.refl _ _).drewN _
  have hs2 : w2.heap.size = w.heap.size := by rw [← hw2]; rfl
  have HS2 := Lib.hid hs2
  clear c0 c1 f0 hown hw2 hs2
  have c0 := hB2.cell 0
  simp at c0
  go_wp2_with (at_builtin; refine wpList_append_own_at _ rfl _ _ 28 rfl (b + 1) 9 i0 (.string ⟨#[]⟩) 1 16 Try.underlying28 hi hz0 hz1 hz2 rfl (by decide) _ _ _ rfl (hown2.alloc _) ⟨w2.heap.size, 0, none⟩ 1 1 [.string s] rfl rfl ?c1 ?c2 ?c3 ?c4 ?c5 ?_)
  case c1 =>
    intro j u hj
    match j, hj with
    | 0, hj => simp at hj; subst hj; simp [Addr.add]
  case c2 => intro u hu; simp at hu; subst hu; rfl
  case c3 => unfold maxLen; omega
  case c4 => omega
  case c5 => have := hB2.lt; simp; omega
  intro v' w1 hown' hg _ hat
  have hB1 : Blk w1 b #[.slice p L.length cap, .int .i64 (room : Int)] 42 := Blk.grown (Blk.alloc hB2 _) hg (by intro e; have := hown2.lt b e.symm; omega)
  have d0 := hB1.cell 0
  have e0 := hB1.free 0
  simp at d0
  have HG := Lib.hid hg
  have HAT := Lib.hid hat
  clear hg hat c0
  obtain ⟨g, cap', hv, hge, hgl⟩ := hown'.form (by omega)
  subst hv
  go_wp2
  go_ret
  have hK1 : Kept (b :: rowOf (.slice p L.length cap)) w w1 := (hK2.alloc _).grown HG.out (fun x hx => .inl (List.mem_cons_of_mem _ (mem_rowOf hx)))
  refine ⟨rfl, .slice (some ⟨g, 0, none⟩) (L.length + 1) cap', ⟨hB1.set 0 _, ?_, by simp; omega, hl⟩, hK1.set _ (.inl (by simp)) _, ?_⟩
  · have h3 := own_kept (r := [b]) hown' ((Kept.refl [b] _).set ⟨b, 0, none⟩ (.inl (by simp)) (.slice (some ⟨g, 0, none⟩) (L.length + 1) cap')) (fun z hz => by have := (own_lt hown' z hz).1; simp; omega)
    rw [List.length_append, sv_app]
    exact h3
  · intro x hx
    have := rowOf_new HAT.out x hx
    rcases this with h | h
    · exact .inl h
    · right; have := HS2.out; first | omega | (simp at h; omega)
end Go.Proofs.Ythaoffakemlelaa
