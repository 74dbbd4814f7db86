/- Package fifo at large: New, at. -/
import Derived.Test.YtpojophpbggkcaaGf
namespace Go.Proofs.Ytpojophpbggkcaa
open Go.ChangeShapes Go.WideShapes Go.ChangeAt Go.RowKit
set_option linter.unusedVariables false

/-- queues by sides and streams, and which streams are broken -/
structure Mq where
  q : Nat → Nat → ByteArray × Bool
  br : Nat → Bool
def mq0 : Mq := ⟨fun _ _ => (⟨#[]⟩, false), fun _ => false⟩
def Mq.put (m : Mq) (a s : Nat) (v : ByteArray × Bool) : Mq := ⟨fun b t => if b = a ∧ t = s then v else m.q b t, m.br⟩
theorem GMap.mono {w : World} {bm c c' : Nat} {el : Nat → Nat → Option Nat} (h : GMap w bm c el) (hc : c ≤ c') : GMap w bm c' el := by obtain ⟨D, h1, h2⟩ := h; exact ⟨D, h1.mono hc, h2⟩
theorem BrMap.mono {w : World} {bb c c' : Nat} {br : Nat → Bool} (h : BrMap w bb c br) (hc : c ≤ c') : BrMap w bb c' br := by obtain ⟨D, h1, h2⟩ := h; exact ⟨D, h1.mono hc, h2⟩
structure FG (w : World) (B N b bq bb c : Nat) (el : Nat → Nat → Option Nat) (m : Mq) : Prop where
  blk : Blk w b #[.map (some bq), .map (some bb)] 68
  qm : GMap w bq c el
  bm : BrMap w bb c m.br
  qs : ∀ a s q, a < 2 → s < 256 → el a s = some q → Blk w q #[.string (m.q a s).1, .bool (m.q a s).2] 73
  no : ∀ a s, a < 2 → s < 256 → el a s = none → m.q a s = (⟨#[]⟩, false)
  inj : ∀ a s a' s' q, a < 2 → s < 256 → a' < 2 → s' < 256 → el a s = some q → el a' s' = some q → a' = a ∧ s' = s
  ne : b ≠ bq ∧ b ≠ bb ∧ bq ≠ bb
  nq : ∀ a s q, a < 2 → s < 256 → el a s = some q → N ≤ q ∧ q ≠ b ∧ q ≠ bq ∧ q ≠ bb
  B0 : B ≤ b ∧ B ≤ bq ∧ B ≤ bb
theorem FG.kept {w w' : World} {B N b bq bb c : Nat} {el : Nat → Nat → Option Nat} {m : Mq} (h : FG w B N b bq bb c el m) (hk : Kept [] w w') : FG w' B N b bq bb c el m :=
  ⟨h.blk.kept hk (by simp), h.qm.kept hk (by simp), h.bm.kept hk (by simp), fun a s q ha hs e => (h.qs a s q ha hs e).kept hk (by simp), h.no, h.inj, h.ne, h.nq, h.B0⟩
theorem FG.lt {w : World} {B N b bq bb c : Nat} {el : Nat → Nat → Option Nat} {m : Mq} (h : FG w B N b bq bb c el m) : b < w.heap.size ∧ bq < w.heap.size ∧ bb < w.heap.size := ⟨h.blk.lt, h.qm.lt, h.bm.lt⟩
theorem FG.mono {w : World} {B N b bq bb c c' : Nat} {el : Nat → Nat → Option Nat} {m : Mq} (h : FG w B N b bq bb c el m) (hc : c ≤ c') : FG w B N b bq bb c' el m :=
  ⟨h.blk, h.qm.mono hc, h.bm.mono hc, h.qs, h.no, h.inj, h.ne, h.nq, h.B0⟩
def GNewPost (W : World) (e : Ending) (w' : World) : Prop := ∃ b bq bb, e = .returned (.pointer (some ⟨b, 0, none⟩)) ∧ (∀ N, FG w' W.heap.size N b bq bb 0 (fun _ _ => none) mq0) ∧ Below W.heap.size W w'
theorem gnew (w : World) : Calls Try.prog 22 #[] w (GNewPost w) := by
  have hmm := @run_makeMap Try.prog
  go_enter Try.func22, Try.ntmps22
  go_wp2
  go_ret
  refine ⟨w.heap.size + 2, w.heap.size, w.heap.size + 1, rfl, fun N => ⟨Blk.new' (by simp), ((GMap.made w).kept ((Kept.refl [] _).alloc _) (by simp)).kept ((Kept.refl [] _).alloc _) (by simp), ?_, (fun a s q _ _ e => nomatch e), (fun _ _ _ _ _ => rfl), (fun a s a' s' q _ _ _ _ e => nomatch e), by omega, (fun a s q _ _ e => nomatch e), by omega⟩, ((((Kept.refl [] w).alloc _).alloc _).alloc _).below (Nat.le_refl _) (by simp)⟩
  have h := BrMap.made (w.alloc (.map #[] 0))
  simp only [World.size_alloc] at h
  exact h.kept ((Kept.refl [] _).alloc _) (by simp)
def GAtPost (W : World) (B N b bq bb c : Nat) (a s : Nat) (m : Mq) (e : Ending) (w' : World) : Prop :=
  ∃ q el', e = .returned (.pointer (some ⟨q, 0, none⟩)) ∧ FG w' B N b bq bb (c + 1) el' m ∧ el' a s = some q ∧ Kept [bq] W w'
set_option maxRecDepth 100000 in
set_option maxHeartbeats 2000000 in
theorem gat_there (B N b bq bb c q : Nat) (el : Nat → Nat → Option Nat) (a s0 : Nat) (ha : a < 2) (hs : s0 < 256) (m : Mq) (hq : el a s0 = some q) (w : World) (h : FG w B N b bq bb c el m) :
    Calls Try.prog 33 #[.pointer (some ⟨b, 0, none⟩), .int .i64 (a : Int), .int .i64 (s0 : Int)] w (GAtPost w B N b bq bb c a s0 m) := by
  have hlk : ∀ w', Kept [] w w' → (Instr.lookup 65 (.map (some bq)) (.agg #[.int .i64 (a : Int), .int .i64 (s0 : Int)]) false).run Try.prog w' = .ok (.pointer (some ⟨q, 0, none⟩)) w' := fun w' hk => by
    have := (h.qm.kept hk (by simp)).look a s0 ha hs
    rw [hq] at this; exact this
  have HLK := Lib.hid hlk
  have HQ := Lib.hid hq
  clear hlk hq
  go_enter Try.func33, Try.ntmps33
  go_wp2_with fail
  generalize hw0 : World.alloc w _ = w0
  have hk0 : Kept [] w w0 := by rw [← hw0]; exact (Kept.refl _ _).alloc _
  have hB0 : Blk w0 w.heap.size #[.int .i64 (a : Int), .int .i64 (s0 : Int)] 84 := by rw [← hw0]; exact Blk.new _ _ _
  have h0 := h.kept hk0
  have k0 := hB0.cell 0
  have k1 := hB0.cell 1
  simp at k0 k1
  have c0 := h0.blk.cell 0
  simp at c0
  have hsz0 : w.heap.size < w0.heap.size := hB0.lt
  have H0 := Lib.hid h0
  have HK0 := Lib.hid hk0
  have hl := fun n => HLK.out (w0.drewN n) (HK0.out.drewN n)
  clear h0 hB0 h hw0 hk0
  go_quiet (fail)
  go_wp2
  go_quiet (fail)
  go_wp2
  go_ret
  exact ⟨q, el, rfl, ((H0.out.kept ((Kept.refl [] _).drewN _)).kept ((Kept.refl [] _).drewN _)).mono (by omega), HQ.out, (((HK0.out.drewN _).drewN _).mono (fun x hx => by simp at hx))⟩
set_option maxRecDepth 100000 in
set_option maxHeartbeats 2000000 in
theorem gat_none (B N b bq bb c : Nat) (el : Nat → Nat → Option Nat) (a s0 : Nat) (ha : a < 2) (hs : s0 < 256) (hc : c < 100000) (m : Mq) (hq : el a s0 = none) (w : World) (h : FG w B N b bq bb c el m) (hN : N ≤ w.heap.size) :
    Calls Try.prog 33 #[.pointer (some ⟨b, 0, none⟩), .int .i64 (a : Int), .int .i64 (s0 : Int)] w (GAtPost w B N b bq bb c a s0 m) := by
  have hlk : ∀ w', Kept [] w w' → (Instr.lookup 65 (.map (some bq)) (.agg #[.int .i64 (a : Int), .int .i64 (s0 : Int)]) false).run Try.prog w' = .ok (.pointer none) w' := fun w' hk => by
    have := (h.qm.kept hk (by simp)).look a s0 ha hs
    rw [hq] at this; exact this
  have HLK := Lib.hid hlk
  have HQ := Lib.hid hq
  clear hlk hq
  go_enter Try.func33, Try.ntmps33
  go_wp2_with fail
  generalize hw0 : World.alloc w _ = w0
  have hk0 : Kept [] w w0 := by rw [← hw0]; exact (Kept.refl _ _).alloc _
  have hB0 : Blk w0 w.heap.size #[.int .i64 (a : Int), .int .i64 (s0 : Int)] 84 := by rw [← hw0]; exact Blk.new _ _ _
  have h0 := h.kept hk0
  have k0 := hB0.cell 0
  have k1 := hB0.cell 1
  simp at k0 k1
  have c0 := h0.blk.cell 0
  simp at c0
  have hsz0 : w.heap.size < w0.heap.size := hB0.lt
  have H0 := Lib.hid h0
  have HK0 := Lib.hid hk0
  have hl := fun n => HLK.out (w0.drewN n) (HK0.out.drewN n)
  have H := Lib.hid h
  have hB0' := Lib.hid hB0
  clear h0 hB0 h hw0 hk0
  go_quiet (fail)
  generalize hw1 : w0.drewN nq = w1
  have hk1 : Kept [] w w1 := by rw [← hw1]; exact HK0.out.drewN _
  have hB1 := hB0'.out.kept (r := []) (w' := w1) (by rw [← hw1]; exact (Kept.refl _ _).drewN _) (by simp)
  have h1 := H.out.kept hk1
  have hsz1 : w.heap.size < w1.heap.size := hB1.lt
  clear hl k0 k1 c0 hw1
  have k0 := hB1.cell 0
  have k1 := hB1.cell 1
  have c0 := h1.blk.cell 0
  simp at k0 k1 c0
  obtain ⟨w5, hrun, hq5, hk5⟩ := GMap.store (w := (w1.alloc (.cells #[.string ⟨#[]⟩, .bool false] 73)).drew) (h1.qm.kept ((Kept.refl [] _).alloc _).drew (by simp)) hc a s0 ha hs w1.heap.size
  have hsz5 : w1.heap.size < w5.heap.size := by have := hk5.size; simp at this; omega
  have hq1 : Blk w5 w1.heap.size #[.string ⟨#[]⟩, .bool false] 73 := (Blk.drew (Blk.new w1 _ _)).kept hk5 (by simp; have := h1.lt.2.1; omega)
  have hk15 : Kept [bq] w1 w5 := Kept.trans (w := (w1.alloc (.cells #[.string ⟨#[]⟩, .bool false] 73)).drew) (((Kept.refl _ _).alloc _).drew) hk5 (fun x hx => .inl hx)
  have hne := h1.ne
  have hB5 := hB1.kept hk15 (by have := H.out.lt.2.1; simp; omega)
  have hbl := h1.lt
  have hel : updE el a s0 w1.heap.size a s0 = some w1.heap.size := by unfold updE; rw [if_pos ⟨rfl, rfl⟩]
  have hqlt : ∀ b t q, b < 2 → t < 256 → el b t = some q → q < w1.heap.size := fun b t q hb ht e => (h1.qs b t q hb ht e).lt
  have hF : FG w5 B N b bq bb (c + 1) (updE el a s0 w1.heap.size) m := by
    refine ⟨h1.blk.kept hk15 (by simp; exact hne.1), hq5, (h1.bm.kept hk15 (by simp; exact fun e => hne.2.2 e.symm)).mono (by omega), fun a' s' q' ha' hs' e => ?_, fun a' s' ha' hs' e => ?_, fun a' s' a2 s2 q' ha' hs' ha2 hs2 e e2 => ?_, hne, fun a' s' q' ha' hs' e => ?_, h1.B0⟩
    · unfold updE at e
      split at e
      · rename_i hx; obtain ⟨rfl, rfl⟩ := hx
        injection e with e; subst e
        rw [h1.no _ _ ha' hs' HQ.out]; exact hq1
      · exact (h1.qs a' s' q' ha' hs' e).kept hk15 (by simp; exact (h1.nq a' s' q' ha' hs' e).2.2.1)
    · unfold updE at e
      split at e
      · cases e
      · exact h1.no a' s' ha' hs' e
    · unfold updE at e e2
      split at e
      · rename_i hx; obtain ⟨rfl, rfl⟩ := hx
        split at e2
        · rename_i hy; exact ⟨hy.1, hy.2⟩
        · injection e with e; subst e
          have := hqlt _ _ _ ha2 hs2 e2; omega
      · split at e2
        · injection e2 with e2; subst e2
          have := hqlt _ _ _ ha' hs' e; omega
        · exact h1.inj a' s' a2 s2 q' ha' hs' ha2 hs2 e e2
    · unfold updE at e
      split at e
      · injection e with e; subst e
        exact ⟨by omega, by omega, by omega, by omega⟩
      · exact h1.nq a' s' q' ha' hs' e
  have hl5 : ∀ n, (Instr.lookup 65 (.map (some bq)) (.agg #[.int .i64 (a : Int), .int .i64 (s0 : Int)]) false).run Try.prog (w5.drewN n) = .ok (.pointer (some ⟨w1.heap.size, 0, none⟩)) (w5.drewN n) := fun n => by
    have := (hq5.kept (r := []) ((Kept.refl _ _).drewN n) (by simp)).look a s0 ha hs
    rw [hel] at this; exact this
  have d0 := hB5.cell 0
  have d1 := hB5.cell 1
  have e0 := hF.blk.cell 0
  simp at d0 d1 e0
  have HF := Lib.hid hF
  have HK15 := Lib.hid hk15
  have HK1 := Lib.hid hk1
  have HEL := Lib.hid hel
  clear hB5 hF hk15 hk5 hq5 hq1 hB1 h1 hk1 H H0 HK0 hB0' hel hqlt
  go_wp2
  go_region
  go_wp2
  go_quiet (fail)
  go_wp2
  go_ret
  exact ⟨w1.heap.size, _, rfl, HF.out.kept ((Kept.refl [] _).drewN _), HEL.out, ((HK1.out.mono (fun x hx => by simp at hx)).trans HK15.out (fun x hx => .inl hx)).drewN _⟩
theorem gat_is (B N b bq bb c : Nat) (el : Nat → Nat → Option Nat) (a s0 : Nat) (ha : a < 2) (hs : s0 < 256) (hc : c < 100000) (m : Mq) (w : World) (h : FG w B N b bq bb c el m) (hN : N ≤ w.heap.size) :
    Calls Try.prog 33 #[.pointer (some ⟨b, 0, none⟩), .int .i64 (a : Int), .int .i64 (s0 : Int)] w (GAtPost w B N b bq bb c a s0 m) := by
  cases e : el a s0 with
  | none => exact gat_none B N b bq bb c el a s0 ha hs hc m e w h hN
  | some q => exact gat_there B N b bq bb c q el a s0 ha hs m e w h
end Go.Proofs.Ytpojophpbggkcaa
