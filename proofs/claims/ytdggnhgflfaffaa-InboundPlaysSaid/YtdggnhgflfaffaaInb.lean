/- inbound: what lies in memory; behind, note, Ended, Ack, Held. -/
import Derived.Test.YtdggnhgflfaffaaOrderBoth
import Derived.Test.YtdggnhgflfaffaaRing4
import Derived.Test.YtdggnhgflfaffaaU32L
namespace Go.Proofs.Ytdggnhgflfaffaa
set_option maxRecDepth 20000
open Go.ChangeShapes Go.WideShapes Go.ChangeAt Go.RowKit
set_option linter.unusedVariables false

/-- what a stream takes: the base, the bodies that wait, the bytes that wait, the end, what was seen -/
structure Ist where
  base : Nat
  L : BL
  s : ByteArray
  fin : Nat
  known : Bool
  S : List Nat
def mx (S : List Nat) : Nat := S.foldl max 0
theorem mx_app (S : List Nat) (x : Nat) : mx (S ++ [x]) = max (mx S) x := by simp [mx, List.foldl_append]
def bodyLen (L : BL) : Nat := (L.map (·.2.size)).sum
def inC (C : Nat → Int) (ob rb : Nat) (x : Ist) (bd : Nat) : Array Value :=
  #[.int .i64 (C 0), .int .i64 (C 1), .int .i64 (C 2), .int .i64 (C 3), .int .i64 (C 4), .int .i64 (C 5), .int .i64 (C 6), .int .i64 (C 7), .int .i64 (C 8), .int .i64 (C 9), .int .i64 (C 10),
    .pointer (some ⟨ob, 0, none⟩), .pointer (some ⟨rb, 0, none⟩), .int .u32 (x.fin : Int), .bool x.known, .int .u32 (mx x.S : Int), .bool (!x.S.isEmpty), .int .i64 (bd : Int)]
structure InAt (w : World) (b ob g1 g2 rb rg win que : Nat) (C : Nat → Int) (x : Ist) (bd : Nat) : Prop where
  blk : Blk w b (inC C ob rb x bd) 65
  ord : Ord w ob g1 g2 x.base win x.L
  ring : Ring w rb rg que x.s
  hwin : C 3 = (win : Int)
  hque : C 5 = (que : Int)
  ne : b ≠ ob ∧ b ≠ g1 ∧ b ≠ g2 ∧ b ≠ rb ∧ b ≠ rg ∧ rb ≠ ob ∧ rb ≠ g1 ∧ rb ≠ g2 ∧ rg ≠ ob ∧ rg ≠ g1 ∧ rg ≠ g2
/-- with whatever number of bytes is noted -/
def InB (w : World) (b : Nat) (R : List Nat) (win que : Nat) (C : Nat → Int) (x : Ist) (bd : Nat) : Prop :=
  ∃ ob g1 g2 rb rg, R = [b, ob, g1, g2, rb, rg] ∧ InAt w b ob g1 g2 rb rg win que C x bd
def In (w : World) (b : Nat) (R : List Nat) (win que : Nat) (C : Nat → Int) (x : Ist) : Prop := InB w b R win que C x (bodyLen x.L)
theorem InAt.kept {w w' : World} {b ob g1 g2 rb rg win que : Nat} {C : Nat → Int} {x : Ist} {bd : Nat} {r : List Nat} (h : InAt w b ob g1 g2 rb rg win que C x bd) (hk : Kept r w w') (hr : ∀ y ∈ [b, ob, g1, g2, rb, rg], y ∉ r) : InAt w' b ob g1 g2 rb rg win que C x bd :=
  ⟨h.blk.kept hk (hr _ (by simp)), h.ord.kept hk (hr _ (by simp)) (hr _ (by simp)) (hr _ (by simp)), h.ring.kept hk (hr _ (by simp)) (hr _ (by simp)), h.hwin, h.hque, h.ne⟩
theorem InB.kept {w w' : World} {b : Nat} {R : List Nat} {win que : Nat} {C : Nat → Int} {x : Ist} {bd : Nat} {r : List Nat} (h : InB w b R win que C x bd) (hk : Kept r w w') (hr : ∀ y ∈ R, y ∉ r) : InB w' b R win que C x bd := by
  obtain ⟨ob, g1, g2, rb, rg, rfl, h⟩ := h
  exact ⟨ob, g1, g2, rb, rg, rfl, h.kept hk hr⟩
theorem In.kept {w w' : World} {b : Nat} {R : List Nat} {win que : Nat} {C : Nat → Int} {x : Ist} {r : List Nat} (h : In w b R win que C x) (hk : Kept r w w') (hr : ∀ y ∈ R, y ∉ r) : In w' b R win que C x := InB.kept h hk hr
theorem InAt.cells {w : World} {b ob g1 g2 rb rg win que : Nat} {C : Nat → Int} {x : Ist} {bd : Nat} (h : InAt w b ob g1 g2 rb rg win que C x bd) :
    w.cell? ⟨b, 3, none⟩ = some (.int .i64 (win : Int)) ∧ w.cell? ⟨b, 11, none⟩ = some (.pointer (some ⟨ob, 0, none⟩)) ∧ w.cell? ⟨b, 12, none⟩ = some (.pointer (some ⟨rb, 0, none⟩)) ∧ w.cell? ⟨b, 13, none⟩ = some (.int .u32 (x.fin : Int)) ∧ w.cell? ⟨b, 14, none⟩ = some (.bool x.known) ∧ w.cell? ⟨b, 15, none⟩ = some (.int .u32 (mx x.S : Int)) ∧ w.cell? ⟨b, 16, none⟩ = some (.bool (!x.S.isEmpty)) ∧ w.cell? ⟨b, 17, none⟩ = some (.int .i64 (bd : Int)) :=
  ⟨by rw [← h.hwin]; exact h.blk.cell 3, h.blk.cell 11, h.blk.cell 12, h.blk.cell 13, h.blk.cell 14, h.blk.cell 15, h.blk.cell 16, h.blk.cell 17⟩
theorem InB.lt {w : World} {b : Nat} {R : List Nat} {win que : Nat} {C : Nat → Int} {x : Ist} {bd : Nat} (h : InB w b R win que C x bd) : ∀ y ∈ R, y < w.heap.size := by
  obtain ⟨ob, g1, g2, rb, rg, rfl, h⟩ := h
  have h1 := h.blk.lt
  have h2 := h.ord.lt
  have h3 := h.ring.lt
  intro y hy
  simp at hy
  rcases hy with rfl | rfl | rfl | rfl | rfl | rfl <;> omega
theorem In.lt {w : World} {b : Nat} {R : List Nat} {win que : Nat} {C : Nat → Int} {x : Ist} (h : In w b R win que C x) : ∀ y ∈ R, y < w.heap.size := InB.lt h
/-- numbers are small -/
structure Fine (x : Ist) (win que k : Nat) : Prop where
  base : x.base + x.L.length ≤ k
  fin : x.fin < 4294967296
  seen : ∀ y ∈ x.S, y < k + win
  slen : x.S.length ≤ k
  small : k ≤ 1000
  w2 : win ≤ 64
  q2 : que ≤ 1048576
  bods : ∀ p ∈ x.L, p.2.size ≤ 1000
  len : x.L.length ≤ 64
theorem bodyLen_le : ∀ {L : BL}, (∀ p ∈ L, p.2.size ≤ 1000) → bodyLen L ≤ 1000 * L.length
  | [], _ => by simp [bodyLen]
  | p :: L, h => by
    have h1 := h p (by simp)
    have h2 := bodyLen_le (L := L) (fun q hq => h q (by simp [hq]))
    unfold bodyLen at h2 ⊢
    simp only [List.map_cons, List.sum_cons, List.length_cons]
    omega
theorem bodyLen_app (L : BL) (p : Nat × ByteArray) : bodyLen (L ++ [p]) = bodyLen L + p.2.size := by simp [bodyLen]
theorem Fine.bl {x : Ist} {win que k : Nat} (h : Fine x win que k) : bodyLen x.L ≤ 64000 := by have h1 := bodyLen_le h.bods; have h2 := h.len; omega
theorem mx_le {S : List Nat} {B : Nat} (h : ∀ y ∈ S, y < B) (hB : 0 < B) : mx S < B := by
  unfold mx
  have : ∀ (S : List Nat) (a : Nat), a < B → (∀ y ∈ S, y < B) → S.foldl max a < B := by
    intro S
    induction S with
    | nil => intro a ha _; exact ha
    | cons y S ih =>
      intro a ha hs
      exact ih _ (by have := hs y (by simp); omega) (fun z hz => hs z (by simp [hz]))
  exact this S 0 hB h
theorem mx_ge {S : List Nat} {y : Nat} (h : y ∈ S) : y ≤ mx S := by
  have : ∀ (S : List Nat) (a : Nat), a ≤ S.foldl max a ∧ ∀ y ∈ S, y ≤ S.foldl max a := by
    intro S
    induction S with
    | nil => intro a; exact ⟨Nat.le_refl _, fun y hy => nomatch hy⟩
    | cons y S ih =>
      intro a
      have h1 := ih (max a y)
      refine ⟨?_, fun z hz => ?_⟩
      · simp only [List.foldl_cons]; omega
      · simp only [List.foldl_cons]
        rcases List.mem_cons.1 hz with rfl | hz
        · omega
        · exact h1.2 z hz
  exact (this S 0).2 y h
theorem less_small {a b : Nat} (ha : a < 2147483648) (hb : b < 2147483648) : lessB (a : Int) (b : Int) = decide (a < b) := by
  unfold lessB
  rw [Bool.eq_iff_iff, decide_eq_true_iff, decide_eq_true_iff]
  unfold ahead; omega
theorem ahead_small {a b : Nat} (ha : a < 2147483648) (hb : b < 2147483648) : ahead (a : Int) (b : Int) = (b : Int) - (a : Int) := by unfold ahead; omega
def behB (x : Ist) (block : Nat) : Bool := x.known && !lessB (block : Int) (x.fin : Int)
theorem ibehind (b : Nat) (R : List Nat) (win que : Nat) (C : Nat → Int) (x : Ist) (bd block : Nat) (hx : block < 4294967296) (hfin : x.fin < 4294967296) (w : World) (h : InB w b R win que C x bd) :
    Calls Try.prog 45 #[.pointer (some ⟨b, 0, none⟩), .int .u32 (block : Int)] w fun e w' => e = .returned (.bool (behB x block)) ∧ w = w' := by
  obtain ⟨ob, g1, g2, rb, rg, rfl, h⟩ := h
  obtain ⟨c3, c11, c12, c13, c14, c15, c16, c17⟩ := h.cells
  have HL := Lib.hid (fun w => serialLess (block : Int) (x.fin : Int) (by omega) (by omega) (by omega) (by omega) w)
  unfold behB
  generalize lessB (block : Int) (x.fin : Int) = l at *
  clear h c3 c11 c12 c15 c16 c17
  cases hk : x.known with
  | false =>
    rw [hk] at c14
    go_enter Try.func45, Try.ntmps45
    go_wp2_with fail
    go_ret
    exact ⟨rfl, rfl⟩
  | true =>
    rw [hk] at c14
    go_enter Try.func45, Try.ntmps45
    go_wp2_with (go_at_call 38; refine (HL.out _).mono ?_; rintro e w' ⟨rfl, rfl⟩)
    go_ret
    exact ⟨rfl, rfl⟩
def IActB (W : World) (b : Nat) (R : List Nat) (win que : Nat) (C : Nat → Int) (x' : Ist) (bd : Nat) (v : Value) (e : Ending) (w' : World) : Prop :=
  e = .returned v ∧ ∃ R', InB w' b R' win que C x' bd ∧ Kept R W w' ∧ ∀ y ∈ R', y ∈ R ∨ W.heap.size ≤ y
def IAct (W : World) (b : Nat) (R : List Nat) (win que : Nat) (C : Nat → Int) (x' : Ist) (v : Value) (e : Ending) (w' : World) : Prop := IActB W b R win que C x' (bodyLen x'.L) v e w'
theorem IAct.same {W : World} {b : Nat} {R : List Nat} {win que : Nat} {C : Nat → Int} {x : Ist} {v : Value} {e : Ending} {w' : World} (hi : In W b R win que C x) (h : SameD W v e w') : IAct W b R win que C x v e w' := by
  obtain ⟨h1, q, rfl⟩ := h
  exact ⟨h1, R, hi.kept ((Kept.refl [] W).drewN q) (by simp), (Kept.refl _ _).drewN q, fun y hy => .inl hy⟩
def noteX (x : Ist) (block : Nat) : Ist := { x with S := x.S ++ [block] }
set_option maxHeartbeats 1000000 in
theorem inote (b : Nat) (R : List Nat) (win que : Nat) (C : Nat → Int) (x : Ist) (bd block : Nat) (hx : block < 2147483648) (hs : mx x.S < 2147483648) (w : World) (h : InB w b R win que C x bd) :
    Calls Try.prog 46 #[.pointer (some ⟨b, 0, none⟩), .int .u32 (block : Int)] w (IActB w b R win que C (noteX x block) bd (.tuple #[])) := by
  obtain ⟨ob, g1, g2, rb, rg, rfl, h⟩ := h
  obtain ⟨c3, c11, c12, c13, c14, c15, c16, c17⟩ := h.cells
  have HL := Lib.hid (fun w => serialLess (mx x.S : Int) (block : Int) (by omega) (by omega) (by omega) (by omega) w)
  rw [less_small hs hx] at HL
  have H := Lib.hid h
  have ff := h.blk.free
  have f15 := ff 15
  have f16 := ff 16
  have hbl := h.blk.lt
  have noted : mx x.S ≤ block → Hid (IActB w b [b, ob, g1, g2, rb, rg] win que C (noteX x block) bd (.tuple #[]) (.returned (.tuple #[])) ((w.setCell ⟨b, 15, none⟩ (.int .u32 (block : Int))).setCell ⟨b, 16, none⟩ (.bool true))) := fun hle => Lib.hid (by
    have hk : Kept [b] w ((w.setCell ⟨b, 15, none⟩ (.int .u32 (block : Int))).setCell ⟨b, 16, none⟩ (.bool true)) := ((Kept.refl _ _).set _ (.inl (by simp)) _).set _ (.inl (by simp)) _
    have n := H.out.ne
    refine ⟨rfl, _, ⟨ob, g1, g2, rb, rg, rfl, ?_, H.out.ord.kept hk (by simp; omega) (by simp; omega) (by simp; omega), H.out.ring.kept hk (by simp; omega) (by simp; omega), H.out.hwin, H.out.hque, H.out.ne⟩, hk.mono (fun y hy => .inl (by simp at hy; simp [hy])), fun y hy => .inl hy⟩
    have h2 := (H.out.blk.set 15 (.int .u32 (block : Int))).set 16 (.bool true)
    have e : ((inC C ob rb x bd).setIfInBounds 15 (.int .u32 (block : Int))).setIfInBounds 16 (.bool true) = inC C ob rb (noteX x block) bd := by
      unfold inC noteX
      simp [mx_app, Nat.max_eq_right hle]
    rw [e] at h2
    exact h2)
  clear ff c3 c11 c12 c13 c14 c17 h
  cases he : x.S.isEmpty with
  | true =>
    rw [he] at c16
    have hn := noted (by rw [List.isEmpty_iff.1 he]; exact Nat.zero_le _)
    clear noted
    go_enter Try.func46, Try.ntmps46
    go_wp2_with fail
    try go_quiet (fail)
    try go_wp2_with fail
    try rw [Exit.noGoto_ret]
    go_returns
    exact hn.out
  | false =>
    rw [he] at c16
    by_cases hlt : mx x.S < block
    · have hn := noted (by omega)
      clear noted
      go_enter Try.func46, Try.ntmps46
      go_wp2_with (go_at_call 38; refine (HL.out _).mono ?_; rintro e w' ⟨rfl, rfl⟩)
      try rw [Exit.noGoto_ret]
      go_returns
      exact hn.out
    · clear noted
      have hn : Hid (IActB w b [b, ob, g1, g2, rb, rg] win que C (noteX x block) bd (.tuple #[]) (.returned (.tuple #[])) w) := Lib.hid (by
        refine ⟨rfl, _, ⟨ob, g1, g2, rb, rg, rfl, ?_, H.out.ord, H.out.ring, H.out.hwin, H.out.hque, H.out.ne⟩, Kept.refl _ _, fun y hy => .inl hy⟩
        have h2 := H.out.blk
        have e : inC C ob rb x bd = inC C ob rb (noteX x block) bd := by
          unfold inC noteX
          rw [mx_app, Nat.max_eq_left (by omega)]
          simp [he]
        rw [e] at h2
        exact h2)
      go_enter Try.func46, Try.ntmps46
      go_wp2_with (go_at_call 38; refine (HL.out _).mono ?_; rintro e w' ⟨rfl, rfl⟩)
      try rw [Exit.noGoto_ret]
      go_returns
      exact hn.out
end Go.Proofs.Ytdggnhgflfaffaa
