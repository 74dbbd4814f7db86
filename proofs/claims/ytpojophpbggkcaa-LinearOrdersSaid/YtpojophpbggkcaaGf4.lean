/- Package fifo at large: Do. -/
import Derived.Test.YtpojophpbggkcaaGf3
namespace Go.Proofs.Ytpojophpbggkcaa
open Go.ChangeShapes Go.WideShapes Go.ChangeAt Go.RowKit
set_option linter.unusedVariables false

theorem gblk_ne {w : World} {a b : Nat} {c d : Array Value} {T U : TypeId} (h : Blk w a c T) (k : Blk w b d U) (hT : T ≠ U) : a ≠ b := by
  intro e
  subst e
  unfold Blk at h k
  rw [h] at k
  injection k with k
  injection k with _ k _
  exact hT k
theorem FG.qset {w w' : World} {B N b bq bb c q : Nat} {el : Nat → Nat → Option Nat} {m : Mq} (h : FG w B N b bq bb c el m) {a s : Nat} (ha : a < 2) (hs : s < 256) (he : el a s = some q) (v : ByteArray × Bool) (hb : Blk w' q #[.string v.1, .bool v.2] 73) (hk : Kept [q] w w') : FG w' B N b bq bb c el (m.put a s v) := by
  have hn := h.nq a s q ha hs he
  refine ⟨h.blk.kept hk (by simp; exact fun e => hn.2.1 e.symm), h.qm.kept hk (by simp; exact fun e => hn.2.2.1 e.symm), h.bm.kept hk (by simp; exact fun e => hn.2.2.2 e.symm), fun a' s' q' ha' hs' e => ?_, fun a' s' ha' hs' e => ?_, h.inj, h.ne, h.nq, h.B0⟩
  · by_cases hx : a' = a ∧ s' = s
    · obtain ⟨rfl, rfl⟩ := hx
      rw [he] at e; injection e with e; subst e
      have e2 : (m.put a' s' v).q a' s' = v := by simp [Mq.put]
      rw [e2]; exact hb
    · have e2 : (m.put a s v).q a' s' = m.q a' s' := by simp [Mq.put, hx]
      rw [e2]
      refine (h.qs a' s' q' ha' hs' e).kept hk (by simp; rintro rfl; exact hx (h.inj a s a' s' q' ha hs ha' hs' he e))
  · have hx : ¬ (a' = a ∧ s' = s) := by rintro ⟨rfl, rfl⟩; rw [he] at e; cases e
    have e2 : (m.put a s v).q a' s' = m.q a' s' := by simp [Mq.put, hx]
    rw [e2]; exact h.no a' s' ha' hs' e
theorem Mq.put_same (m : Mq) (a s : Nat) : m.put a s (m.q a s) = m := by
  unfold Mq.put
  congr 1
  funext b t
  split
  · rename_i h; obtain ⟨rfl, rfl⟩ := h; rfl
  · rfl
theorem FG.put_br {w w' : World} {B N b bq bb c : Nat} {el : Nat → Nat → Option Nat} {m : Mq} (h : FG w B N b bq bb c el m) {br' : Nat → Bool} {c' : Nat} (hc : c ≤ c') (hb : BrMap w' bb c' br') (hk : Kept [bb] w w') : FG w' B N b bq bb c' el ⟨m.q, br'⟩ :=
  ⟨h.blk.kept hk (by simp; exact h.ne.2.1), (h.qm.kept hk (by simp; exact h.ne.2.2)).mono hc, hb, fun a s q ha hs e => (h.qs a s q ha hs e).kept hk (by simp; exact (h.nq a s q ha hs e).2.2.2), h.no, h.inj, h.ne, h.nq, h.B0⟩
/-- what is no cells, and is none of two blocks, lies as it lay -/
def NC2 (bq bb : Nat) (W w' : World) : Prop := ∀ (k : Nat) (o : Obj), k ≠ bq → k ≠ bb → W.heap[k]? = some o → o.isCells = false → w'.heap[k]? = some o
def GDo (W : World) (B N b bq bb c : Nat) (m : Mq) (r : Int) (e : Ending) (w' : World) : Prop :=
  ∃ el', e = .returned (.int .i64 r) ∧ FG w' B N b bq bb (c + 1) el' m ∧ (∃ q, N ≤ q ∧ Kept [bq, bb, q] W w') ∧ NC2 bq bb W w'
theorem GDo.quiet {W w' : World} {B N b bq bb c : Nat} {el : Nat → Nat → Option Nat} {m : Mq} {r : Int} (h : FG W B N b bq bb c el m) (hk : Kept [] W w') : GDo W B N b bq bb c m r (.returned (.int .i64 r)) w' :=
  ⟨el, rfl, (h.kept hk).mono (by omega), ⟨N, Nat.le_refl _, hk.mono (by simp)⟩, fun k o h1 h2 h3 h4 => (hk.block k (Array.getElem?_eq_some_iff.1 h3).1 (by simp)).trans h3⟩
/-- boxes, 'at', a deed at the queue -/
theorem GDo.mk {W w1 w2 w3 : World} {B N b bq bb c q : Nat} {el' : Nat → Nat → Option Nat} {m : Mq} {a s : Nat} {v : ByteArray × Bool} {r : Int} (ha : a < 2) (hs : s < 256) (hk1 : Kept [] W w1) (hk2 : Kept [bq] w1 w2) (hF : FG w2 B N b bq bb (c + 1) el' m) (he : el' a s = some q) (hb : Blk w3 q #[.string v.1, .bool v.2] 73) (hk3 : Kept [q] w2 w3) : GDo W B N b bq bb c (m.put a s v) r (.returned (.int .i64 r)) w3 := by
  refine ⟨el', rfl, hF.qset ha hs he v hb hk3, ⟨q, (hF.nq a s q ha hs he).1, ((hk1.mono (r' := [bq, bb, q]) (by simp)).trans hk2 (by simp)).trans hk3 (by simp)⟩, fun k o hk _ ho hc => ?_⟩
  have l0 : k < W.heap.size := (Array.getElem?_eq_some_iff.1 ho).1
  have h1 : w1.heap[k]? = some o := (hk1.block k l0 (by simp)).trans ho
  have h2 : w2.heap[k]? = some o := (hk2.block k (Nat.lt_of_lt_of_le l0 hk1.size) (by simpa using hk)).trans h1
  have hq : k ≠ q := by
    rintro rfl
    have := hF.qs a s k ha hs he
    unfold Blk at this
    rw [this] at h2
    injection h2 with h2
    subst h2
    cases hc
  exact (hk3.block k (Nat.lt_of_lt_of_le l0 (Nat.le_trans hk1.size hk2.size)) (by simpa using hq)).trans h2
set_option maxRecDepth 100000 in
theorem gdo_bad (B N b bq bb c : Nat) (el : Nat → Nat → Option Nat) (m : Mq) (side kind stream n an err : Int) (body ab : ByteArray) (hbad : side < 0 ∨ 1 < side ∨ stream < 0 ∨ 255 < stream) (w : World) (h : FG w B N b bq bb c el m) :
    Calls Try.prog 24 #[.pointer (some ⟨b, 0, none⟩), .int .i64 side, .agg #[.int .i64 kind, .int .i64 stream, .int .i64 n, .string body], .agg #[.int .i64 an, .string ab, .int .i64 err]] w (GDo w B N b bq bb c m 1) := by
  have HBAD := Lib.hid (fun w => gbad_yes side stream hbad w)
  have H := Lib.hid h
  clear h hbad
  go_enter Try.func24, Try.ntmps24
  go_wp2_with (go_at_call 31; refine (HBAD.out _).mono ?_; rintro e w' ⟨rfl, rfl⟩)
  go_ret
  exact GDo.quiet H.out (((Kept.refl [] w).alloc _).alloc _)
set_option maxRecDepth 100000 in
set_option maxHeartbeats 4000000 in
theorem gdo_close (B N b bq bb c : Nat) (el : Nat → Nat → Option Nat) (m : Mq) (a s0 : Nat) (ha : a < 2) (hs0 : s0 < 256) (hc : c < 100000) (n an err : Int) (body ab : ByteArray) (w : World) (h : FG w B N b bq bb c el m) (hN : N ≤ w.heap.size) :
    Calls Try.prog 24 #[.pointer (some ⟨b, 0, none⟩), .int .i64 (a : Int), .agg #[.int .i64 4, .int .i64 (s0 : Int), .int .i64 n, .string body], .agg #[.int .i64 an, .string ab, .int .i64 err]] w (GDo w B N b bq bb c (if closesB err = true then m.put a s0 ((m.q a s0).1, true) else m) 0) := by
  have HBAD := Lib.hid (fun w => gbad_no a s0 ha hs0 w)
  have HCL := Lib.hid (fun w => gcloses err w)
  have HAT := Lib.hid (fun w h hN => gat_is B N b bq bb c el a s0 ha hs0 hc m w h hN)
  have H := Lib.hid h
  clear h
  cases hcl : closesB err with
  | false =>
    rw [hcl] at HCL
    clear hcl HAT
    rw [if_neg (by simp)]
    go_enter Try.func24, Try.ntmps24
    go_wp2_with (first | (go_at_call 31; refine (HBAD.out _).mono ?_; rintro e w' ⟨rfl, rfl⟩) | (go_at_call 32; refine (HCL.out _).mono ?_; rintro e w' ⟨rfl, rfl⟩))
    go_ret
    exact GDo.quiet H.out (((Kept.refl [] w).alloc _).alloc _)
  | true =>
    rw [hcl] at HCL
    clear hcl
    rw [if_pos rfl]
    go_enter Try.func24, Try.ntmps24
    go_wp2_with (first | (go_at_call 31; refine (HBAD.out _).mono ?_; rintro e w' ⟨rfl, rfl⟩) | (go_at_call 32; refine (HCL.out _).mono ?_; rintro e w' ⟨rfl, rfl⟩) | (go_at_call 33; refine (HAT.out _ (H.out.kept (((Kept.refl [] w).alloc _).alloc _)) (by simp; omega)).mono ?_; rintro e w2 ⟨q', el', rfl, hF2, hel, hk2⟩; have hQ2 := hF2.qs a s0 q' ha hs0 hel; have q0 : w2.cell? ⟨q', 0, none⟩ = some (.string (m.q a s0).1) := hQ2.cell 0; have q1 : w2.cell? ⟨q', 1, none⟩ = some (.bool (m.q a s0).2) := hQ2.cell 1; have f1 := hQ2.free 1))
    have HF2 := Lib.hid hF2
    have HK2 := Lib.hid hk2
    have HQ2 := Lib.hid hQ2
    have HEL := Lib.hid hel
    clear hF2 hk2 hQ2 hel
    go_ret
    exact GDo.mk ha hs0 (((Kept.refl [] w).alloc _).alloc _) HK2.out HF2.out HEL.out (v := ((m.q a s0).1, true)) (HQ2.out.set 1 (.bool true)) ((Kept.refl [q'] w2).set ⟨q', 1, none⟩ (.inl (by simp)) (.bool true))
set_option maxRecDepth 100000 in
set_option maxHeartbeats 4000000 in
theorem gdo_ign (B N b bq bb c : Nat) (el : Nat → Nat → Option Nat) (m : Mq) (a s0 : Nat) (ha : a < 2) (hs0 : s0 < 256) (kind n an err : Int) (body ab : ByteArray) (h4 : kind ≠ 4) (h0 : err ≠ 0) (h3 : kind ≠ 3 ∨ err ≠ 13) (w : World) (h : FG w B N b bq bb c el m) :
    Calls Try.prog 24 #[.pointer (some ⟨b, 0, none⟩), .int .i64 (a : Int), .agg #[.int .i64 kind, .int .i64 (s0 : Int), .int .i64 n, .string body], .agg #[.int .i64 an, .string ab, .int .i64 err]] w (GDo w B N b bq bb c m 0) := by
  have HBAD := Lib.hid (fun w => gbad_no a s0 ha hs0 w)
  have H := Lib.hid h
  have d4 : (kind == 4) = false := by simpa using h4
  have d0 : (err != 0) = true := by simpa using h0
  clear h h4 h0
  by_cases hk3 : kind = 3
  · subst hk3
    have h5 : (err != 13) = true := by
      rcases h3 with h | h
      · exact absurd rfl h
      · simpa using h
    clear h3 d4
    go_enter Try.func24, Try.ntmps24
    go_wp2_with (go_at_call 31; refine (HBAD.out _).mono ?_; rintro e w' ⟨rfl, rfl⟩)
    go_ret
    exact GDo.quiet H.out (((Kept.refl [] w).alloc _).alloc _)
  · have d3 : (kind != 3) = true := by simpa using hk3
    clear h3 hk3
    go_enter Try.func24, Try.ntmps24
    go_wp2_with (go_at_call 31; refine (HBAD.out _).mono ?_; rintro e w' ⟨rfl, rfl⟩)
    go_ret
    exact GDo.quiet H.out (((Kept.refl [] w).alloc _).alloc _)
set_option maxRecDepth 100000 in
set_option maxHeartbeats 4000000 in
theorem gdo_else (B N b bq bb c : Nat) (el : Nat → Nat → Option Nat) (m : Mq) (a s0 : Nat) (ha : a < 2) (hs0 : s0 < 256) (kind n an : Int) (body ab : ByteArray) (h2 : kind ≠ 2) (h3 : kind ≠ 3) (h4 : kind ≠ 4) (h5 : kind ≠ 5) (w : World) (h : FG w B N b bq bb c el m) :
    Calls Try.prog 24 #[.pointer (some ⟨b, 0, none⟩), .int .i64 (a : Int), .agg #[.int .i64 kind, .int .i64 (s0 : Int), .int .i64 n, .string body], .agg #[.int .i64 an, .string ab, .int .i64 0]] w (GDo w B N b bq bb c m 0) := by
  have HBAD := Lib.hid (fun w => gbad_no a s0 ha hs0 w)
  have H := Lib.hid h
  have d4 : (kind == 4) = false := by simpa using h4
  have d2 : (kind == 2) = false := by simpa using h2
  have d3 : (kind == 3) = false := by simpa using h3
  have d5 : (kind == 5) = false := by simpa using h5
  clear h h4 h2 h3 h5
  go_enter Try.func24, Try.ntmps24
  go_wp2_with (go_at_call 31; refine (HBAD.out _).mono ?_; rintro e w' ⟨rfl, rfl⟩)
  go_ret
  exact GDo.quiet H.out (((Kept.refl [] w).alloc _).alloc _)
set_option maxRecDepth 100000 in
set_option maxHeartbeats 4000000 in
theorem gdo_abort (B N b bq bb c : Nat) (el : Nat → Nat → Option Nat) (m : Mq) (a s0 : Nat) (ha : a < 2) (hs0 : s0 < 256) (hc : c < 100000) (n an : Int) (body ab : ByteArray) (w : World) (h : FG w B N b bq bb c el m) :
    Calls Try.prog 24 #[.pointer (some ⟨b, 0, none⟩), .int .i64 (a : Int), .agg #[.int .i64 5, .int .i64 (s0 : Int), .int .i64 n, .string body], .agg #[.int .i64 an, .string ab, .int .i64 0]] w (GDo w B N b bq bb c ⟨m.q, updB m.br s0⟩ 0) := by
  have HBAD := Lib.hid (fun w => gbad_no a s0 ha hs0 w)
  have H := Lib.hid h
  clear h
  go_enter Try.func24, Try.ntmps24
  go_wp2_with (go_at_call 31; refine (HBAD.out _).mono ?_; rintro e w' ⟨rfl, rfl⟩)
  generalize hw0 : (w.alloc _).alloc _ = w0
  have hk0 : Kept [] w w0 := by rw [← hw0]; exact ((Kept.refl _ _).alloc _).alloc _
  have hA0 : Blk w0 w.heap.size #[.int .i64 5, .int .i64 (s0 : Int), .int .i64 n, .string body] 36 := by rw [← hw0]; exact Blk.alloc (Blk.new _ _ _) _
  have hF0 := H.out.kept hk0
  obtain ⟨w5, hrun, hb5, hk5⟩ := BrMap.store (w := w0.drew) (hF0.bm.kept ((Kept.refl [] _).drew) (by simp)) hc s0 hs0
  have p1 := hA0.cell 1
  have c1 := hF0.blk.cell 1
  simp at p1 c1
  have HF5 := Lib.hid (FG.put_br (hF0.kept ((Kept.refl [] w0).drew)) (Nat.le_succ c) hb5 hk5)
  have HK5 := Lib.hid (((hk0.mono (r' := [bb]) (by simp)).drew).trans hk5 (by simp))
  clear hw0 hA0 hF0 hb5 hk5 hk0
  go_region
  go_wp2
  go_ret
  refine ⟨el, rfl, HF5.out, ⟨N, Nat.le_refl _, HK5.out.mono (by simp)⟩, fun k o h1 h2 h3 h4 => (HK5.out.block k (Array.getElem?_eq_some_iff.1 h3).1 (by simpa using h2)).trans h3⟩
end Go.Proofs.Ytpojophpbggkcaa
