/- lightshiplaw31: do. -/
import Derived.Test.YthaoffakemlelaaNetRef
namespace Go.Proofs.Ythaoffakemlelaa
open Go.ChangeShapes Go.WideShapes Go.ChangeAt Go.RowKit
set_option linter.unusedVariables false

/-- the net and the list beside it -/
structure Two (w : World) (B b : Nat) (v xv : Value) (L : List ByteArray) (room : Nat) : Prop where
  net : NetAt w b v L room
  own : w.ownsRow B 9 1 xv L.length (sv L)
  apart : ∀ x ∈ rowOf xv, x ≠ b ∧ x ∉ rowOf v
  small : ∀ s ∈ L, s.size ≤ 200
theorem Two.kept {w w' : World} {B b : Nat} {v xv : Value} {L : List ByteArray} {room : Nat} {r : List Nat} (h : Two w B b v xv L room) (hk : Kept r w w') (h1 : b ∉ r) (h2 : ∀ x ∈ rowOf v, x ∉ r) (h3 : ∀ x ∈ rowOf xv, x ∉ r) : Two w' B b v xv L room :=
  ⟨h.net.kept hk h1 h2, own_kept h.own hk h3, h.apart, h.small⟩
theorem Two.drewN {w : World} {B b : Nat} {v xv : Value} {L : List ByteArray} {room : Nat} (h : Two w B b v xv L room) (n : Nat) : Two (w.drewN n) B b v xv L room := h.kept ((Kept.refl [] w).drewN n) (by simp) (by simp) (by simp)
def DoPost (W : World) (B b : Nat) (v : Value) (L : List ByteArray) (room : Nat) (e : Ending) (w' : World) : Prop :=
  ∃ xv' v', e = .returned (.tuple #[xv', .bool true]) ∧ Two w' B b v' xv' L room ∧ Kept (b :: rowOf v) W w' ∧ ∀ x ∈ rowOf v', x ∈ rowOf v ∨ W.heap.size ≤ x
theorem bg_mem (L : List ByteArray) (k : Nat) (hk : k < L.length) : bg L k ∈ L := by rw [bg_at L k hk]; exact List.getElem_mem _
theorem flipS_size (s : ByteArray) (bit : Int) : (flipS s bit).size = s.size := sof_size _ _
theorem set_small {L : List ByteArray} (h : ∀ s ∈ L, s.size ≤ 200) (k : Nat) (hk : k < L.length) (bit : Int) : ∀ s ∈ L.set k (flipS (bg L k) bit), s.size ≤ 200 := by
  intro s hs
  rcases List.mem_or_eq_of_mem_set hs with h1 | h1
  · exact h s h1
  · rw [h1, flipS_size]; exact h _ (bg_mem L k hk)
/-- behind a deed of the reference's and one of the net's -/
theorem Two.join {w w2 w3 : World} {B b : Nat} {v v' xv xv' : Value} {L L' : List ByteArray} {room : Nat} (h : Two w B b v xv L room) (hB : B ≤ w.heap.size) (hb2 : Below w.heap.size w w2) (hown : w2.ownsRow w.heap.size 9 1 xv' L'.length (sv L')) (hn : NetAt w3 b v' L' room) (hk : Kept (b :: rowOf v) w2 w3) (hr : ∀ x ∈ rowOf v', x ∈ rowOf v ∨ w2.heap.size ≤ x) (hs : ∀ s ∈ L', s.size ≤ 200) :
    Two w3 B b v' xv' L' room ∧ Kept (b :: rowOf v) w w3 ∧ ∀ x ∈ rowOf v', x ∈ rowOf v ∨ w.heap.size ≤ x := by
  have hbl := h.net.blk.lt
  have hsz := hb2.size
  refine ⟨⟨hn, ?_, fun x hx => ⟨?_, fun hv => ?_⟩, hs⟩, ?_, fun x hx => ?_⟩
  · refine own_base (own_kept hown hk fun x hx hm => ?_) hB
    have h1 := (own_lt hown x hx).1
    rcases List.mem_cons.1 hm with h2 | h2
    · omega
    · have := (own_lt h.net.own x h2).2; omega
  · have h1 := (own_lt hown x hx).1; omega
  · have h1 := own_lt hown x hx
    rcases hr x hv with h2 | h2
    · have := (own_lt h.net.own x h2).2; omega
    · omega
  · exact (Kept.of_below hb2 _).trans hk (fun x hx => .inl hx)
  · rcases hr x hx with h2 | h2
    · exact .inl h2
    · right; omega
/-- what a deed leaves -/
def doL (L : List ByteArray) (K I Bit : Int) : List ByteArray := if K = 1 then L.eraseIdx (atN I L.length) else if K = 2 then L else if (bg L (atN I L.length)).size = 0 then L else L.set (atN I L.length) (flipS (bg L (atN I L.length)) Bit)
set_option maxRecDepth 100000 in
set_option maxHeartbeats 4000000 in
theorem do_any (B b : Nat) (v : Value) (p : Option Addr) (cap : Nat) (L : List ByteArray) (room : Nat) (K I Bit : Int) (S : ByteArray) (w : World) (hB : B ≤ w.heap.size) (h : Two w B b v (.slice p L.length cap) L room) (hs : Src w p L.length cap 1 (sv L)) :
    Calls Try.prog 9 #[.pointer (some ⟨b, 0, none⟩), .slice p L.length cap, .agg #[.int .i64 K, .int .i64 I, .int .i64 Bit, .string S]] w (DoPost w B b v (doL L K I Bit) room) := by
  have hL : L.length ≤ 4096 := Nat.le_trans h.net.len h.net.rm
  have hbx : b ≠ w.heap.size := by have := h.net.blk.lt; omega
  obtain ⟨O, hO⟩ : ∃ O : Obj, O = .cells #[.int .i64 K, .int .i64 I, .int .i64 Bit, .string S] 30 := ⟨_, rfl⟩
  have H : Hid (Two (w.alloc O) B b v (.slice p L.length cap) L room) := Lib.hid (h.kept ((Kept.refl [] w).alloc O) (by simp) (by simp) (by simp))
  have HS : Hid (Src (w.alloc O) p L.length cap 1 (sv L)) := Lib.hid (hs.kept ((Kept.refl [] w).alloc O) (by simp))
  have hcl : ∀ a, p = some a → a.block < w.heap.size := fun a ha => by
    have := (own_lt h.own a.block (by rw [ha]; simp [rowOf, Value.ownBlock])).2
    exact this
  have C1 : Hid ((w.alloc O).cell? ⟨w.heap.size, 1, none⟩ = some (.int .i64 I)) := Lib.hid (by rw [hO]; exact (Blk.new w _ _).cell 1)
  have C2 : Hid ((w.alloc O).cell? ⟨w.heap.size, 2, none⟩ = some (.int .i64 Bit)) := Lib.hid (by rw [hO]; exact (Blk.new w _ _).cell 2)
  have hsmall := h.small
  have HL := Lib.hid hsmall
  clear h hs hsmall
  subst hO
  have hlt : w.heap.size < (w.alloc (.cells #[.int .i64 K, .int .i64 I, .int .i64 Bit, .string S] 30)).heap.size := by simp
  by_cases h1 : K = 1
  · subst h1
    have hd : doL L 1 I Bit = L.eraseIdx (atN I L.length) := rfl
    rw [hd]
    clear hd
    by_cases h0 : L.length = 0
    · have hl0 : L.eraseIdx (atN I L.length) = L := by rw [List.eq_nil_of_length_eq_zero h0]; rfl
      rw [hl0]
      have HT := Lib.hid (ntake_none b v L room I h0 _ H.out.net)
      have HR := Lib.hid (fun w => rtake_none p L.length cap h0 I w)
      clear h0 hl0
      go_enter Try.func9, Try.ntmps9
      go_wp2_with (first | (go_at_call 14; refine (HR.out _).mono ?_; rintro e w' ⟨rfl, rfl⟩) | (go_at_call 11; refine (HT.out).mono ?_; rintro e w' ⟨rfl, rfl⟩))
      go_ret2
      exact ⟨_, v, rfl, (by first | exact H.out | exact H.out.drewN _), (by first | exact Kept.alloc (Kept.refl _ _) _ | exact Kept.drewN (Kept.alloc (Kept.refl _ _) _) _), fun x hx => .inl hx⟩
    ·
      go_enter Try.func9, Try.ntmps9
      go_wp2_with fail
      refine (rtake_some p cap L I (by omega) hL _ HS.out).mono ?_
      rintro e w2 ⟨xv', rfl, hown2, hb2⟩
      have c1 : w2.cell? ⟨w.heap.size, 1, none⟩ = some (.int .i64 I) := kbelow hb2 hlt C1.out
      have HN2 := Lib.hid (H.out.net.kept (Kept.of_below hb2 []) (by simp) (by simp))
      have HO2 := Lib.hid hown2
      have HB2 := Lib.hid hb2
      clear hown2 hb2
      generalize hbg : bg L (atN I L.length) = s at *
      go_wp2_with fail
      rw [← hbg]
      refine (ntake_some b v L room I (by omega) _ HN2.out).mono ?_
      rw [hbg]
      clear hbg
      rintro e w3 ⟨rfl, v', hn3, hk3, hr3⟩
      clear c1
      go_wp2_with fail
      go_ret2
      obtain ⟨j1, j2, j3⟩ := Two.join H.out (by simpa using Nat.le_succ_of_le hB) HB2.out HO2.out hn3 hk3 hr3 (fun s hs => HL.out s (List.mem_of_mem_eraseIdx hs))
      exact ⟨xv', v', rfl, j1, (Kept.alloc (Kept.refl _ _) _).trans j2 (fun x hx => .inl hx), fun x hx => by rcases j3 x hx with h | h; (exact .inl h); (right; simp at h; omega)⟩
  · have b1 : (K == 1) = false := by rw [beq_eq_false_iff_ne]; exact h1
    by_cases h2 : K = 2
    · subst h2
      have hd : doL L 2 I Bit = L := rfl
      rw [hd]
      clear hd h1
      by_cases h0 : L.length = 0
      · have HT := Lib.hid (npeek_none b v L room I h0 _ H.out.net)
        have HR := Lib.hid (fun w => rtake_none p L.length cap h0 I w)
        clear h0
        go_enter Try.func9, Try.ntmps9
        go_wp2_with (first | (go_at_call 14; refine (HR.out _).mono ?_; rintro e w' ⟨rfl, rfl⟩) | (go_at_call 12; refine (HT.out).mono ?_; rintro e w' ⟨rfl, rfl⟩))
        go_ret2
        exact ⟨_, v, rfl, (by first | exact H.out | exact H.out.drewN _), (by first | exact Kept.alloc (Kept.refl _ _) _ | exact Kept.drewN (Kept.alloc (Kept.refl _ _) _) _), fun x hx => .inl hx⟩
      ·
        go_enter Try.func9, Try.ntmps9
        go_wp2_with fail
        refine (rtake_some p cap L I (by omega) hL _ HS.out).mono ?_
        rintro e w2 ⟨xv', rfl, hown2, hb2⟩
        have c1 : w2.cell? ⟨w.heap.size, 1, none⟩ = some (.int .i64 I) := kbelow hb2 hlt C1.out
        have HN2 := Lib.hid (H.out.kept (Kept.of_below hb2 []) (by simp) (by simp) (by simp))
        have HB2 := Lib.hid hb2
        clear hown2 hb2
        generalize hbg : bg L (atN I L.length) = s at *
        go_wp2_with fail
        rw [← hbg]
        refine (npeek_some b v L room I (by omega) _ HN2.out.net).mono ?_
        rw [hbg]
        clear hbg
        rintro e w3 ⟨rfl, nq, rfl⟩
        clear c1
        go_wp2_with fail
        go_ret2
        exact ⟨_, v, rfl, HN2.out.drewN _, (((Kept.refl _ _).alloc _).trans (Kept.of_below HB2.out _) (fun x hx => .inl hx)).drewN _, fun x hx => .inl hx⟩
    · have b2 : (K == 2) = false := by rw [beq_eq_false_iff_ne]; exact h2
      by_cases h0 : L.length = 0
      · have hd : doL L K I Bit = L := by unfold doL; rw [if_neg h1, if_neg h2]; rw [List.eq_nil_of_length_eq_zero h0]; simp [bg]
        rw [hd]
        clear hd h1 h2
        have HT := Lib.hid (nflip_none b v L room I Bit h0 _ H.out.net)
        have HR := Lib.hid (fun w => rflip_none p L.length cap h0 I Bit w)
        clear h0
        obtain ⟨c1, c2⟩ := And.intro C1.out C2.out
        go_enter Try.func9, Try.ntmps9
        go_wp2_with (first | (go_at_call 15; refine (HR.out _).mono ?_; rintro e w' ⟨rfl, rfl⟩) | (go_at_call 13; refine (HT.out).mono ?_; rintro e w' ⟨rfl, rfl⟩))
        go_ret2
        exact ⟨_, v, rfl, (by first | exact H.out | exact H.out.drewN _), (by first | exact Kept.alloc (Kept.refl _ _) _ | exact Kept.drewN (Kept.alloc (Kept.refl _ _) _) _), fun x hx => .inl hx⟩
      · by_cases hz : (bg L (atN I L.length)).size = 0
        · have hd : doL L K I Bit = L := by unfold doL; rw [if_neg h1, if_neg h2, if_pos hz]
          rw [hd]
          clear hd h1 h2
          have HT := Lib.hid (nflip_blank b v L room I Bit (by omega) hz _ H.out.net)
          have HR := Lib.hid (rflip_blank p cap L I Bit (by omega) hL hz _ HS.out)
          clear hz
          obtain ⟨c1, c2⟩ := And.intro C1.out C2.out
          go_enter Try.func9, Try.ntmps9
          go_wp2_with (first | (go_at_call 15; refine (HR.out).mono ?_; rintro e w' ⟨rfl, rfl⟩) | (go_at_call 13; refine (HT.out).mono ?_; rintro e w' ⟨rfl, nq, rfl⟩))
          go_ret2
          exact ⟨_, v, rfl, (by first | exact H.out | exact H.out.drewN _), (by first | exact Kept.alloc (Kept.refl _ _) _ | exact Kept.drewN (Kept.alloc (Kept.refl _ _) _) _), fun x hx => .inl hx⟩
        · have hd : doL L K I Bit = L.set (atN I L.length) (flipS (bg L (atN I L.length)) Bit) := by unfold doL; rw [if_neg h1, if_neg h2, if_neg hz]
          rw [hd]
          clear hd h1 h2
          have hk := atN_lt I L.length (by omega)
          have hsz : (bg L (atN I L.length)).size ≤ 1000 := Nat.le_trans (HL.out _ (bg_mem L _ hk)) (by omega)
          have HT := Lib.hid (fun w h => nflip_some b v L room I Bit (by omega) hz hsz w h)
          have HR := Lib.hid (rflip_some p cap L I Bit (by omega) hL hz hsz _ HS.out)
          have HSET := Lib.hid (set_small HL.out (atN I L.length) hk Bit)
          generalize L.set (atN I L.length) (flipS (bg L (atN I L.length)) Bit) = L' at *
          clear hz hsz hk
          obtain ⟨c1, c2⟩ := And.intro C1.out C2.out
          go_enter Try.func9, Try.ntmps9
          go_wp2_with fail
          refine HR.out.mono ?_
          rintro e w2 ⟨xv', rfl, hown2, hb2⟩
          have d1 : w2.cell? ⟨w.heap.size, 1, none⟩ = some (.int .i64 I) := kbelow hb2 hlt C1.out
          have d2 : w2.cell? ⟨w.heap.size, 2, none⟩ = some (.int .i64 Bit) := kbelow hb2 hlt C2.out
          have HN2 := Lib.hid (H.out.net.kept (Kept.of_below hb2 []) (by simp) (by simp))
          have HO2 := Lib.hid hown2
          have HB2 := Lib.hid hb2
          clear hown2 hb2 c1 c2
          go_wp2_with fail
          refine (HT.out _ HN2.out).mono ?_
          rintro e w3 ⟨rfl, v', hn3, hk3, hr3⟩
          clear d1 d2
          go_wp2_with fail
          go_ret2
          obtain ⟨j1, j2, j3⟩ := Two.join H.out (by simpa using Nat.le_succ_of_le hB) HB2.out HO2.out hn3 hk3 hr3 HSET.out
          exact ⟨xv', v', rfl, j1, (Kept.alloc (Kept.refl _ _) _).trans j2 (fun x hx => .inl hx), fun x hx => by rcases j3 x hx with h | h; (exact .inl h); (right; simp at h; omega)⟩
end Go.Proofs.Ythaoffakemlelaa
