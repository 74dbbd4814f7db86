/- Contracts of lightshipref23. -/
import Derived.Test.YtdggnhgflfaffaaOrderSim
import Derived.Test.YtdggnhgflfaffaaApp
import Derived.Deep.RegionLaw
import Derived.Lib.SliceRun
set_option maxRecDepth 20000
namespace Go.Proofs.Ytdggnhgflfaffaa
open Go.ChangeShapes Go.WideShapes Go.ChangeAt Go.RowKit
set_option linter.unusedVariables false

def xc (d : Nat × ByteArray) : List Value := [.int .u32 (d.1 : Int), .string d.2]
def xl (L : BL) : List Value := L.flatMap xc
theorem xl_nil : xl [] = [] := rfl
theorem xl_cons (d : Nat × ByteArray) (L : BL) : xl (d :: L) = xc d ++ xl L := by simp [xl]
theorem xl_app (L M : BL) : xl (L ++ M) = xl L ++ xl M := by simp [xl]
theorem xl_len (L : BL) : (xl L).length = L.length * 2 := by
  induction L with
  | nil => rfl
  | cons d L ih => rw [xl_cons, List.length_append, ih]; simp [xc]; omega
theorem xl_get (L : BL) (i j : Nat) (h : i < L.length) (hj : j < 2) : (xl L)[i * 2 + j]? = (xc L[i])[j]? := by
  induction L generalizing i with
  | nil => simp at h
  | cons d L ih =>
    rw [xl_cons]
    cases i with
    | zero =>
      rw [List.getElem?_append_left (by simp [xc]; omega), Nat.zero_mul, Nat.zero_add]; rfl
    | succ i =>
      rw [List.getElem?_append_right (by simp [xc]; omega), show (i + 1) * 2 + j - (xc d).length = i * 2 + j by simp [xc]; omega, ih i (by simpa using h)]
      rfl
theorem xl_take (L : BL) (k : Nat) : (xl L).take (k * 2) = xl (L.take k) := by
  induction L generalizing k with
  | nil => simp [xl]
  | cons d L ih =>
    cases k with
    | zero => simp [xl]
    | succ k =>
      rw [xl_cons, List.take_succ_cons, xl_cons, ← ih k, List.take_append, List.take_of_length_le (by simp [xc]; omega)]
      congr 2
      simp [xc]; omega
theorem xl_drop (L : BL) (k : Nat) : (xl L).drop (k * 2) = xl (L.drop k) := by
  induction L generalizing k with
  | nil => simp [xl]
  | cons d L ih =>
    cases k with
    | zero => simp
    | succ k =>
      rw [xl_cons, List.drop_succ_cons, ← ih k, List.drop_append, List.drop_of_length_le (by simp [xc]; omega), List.nil_append]
      congr 1
      simp [xc]; omega
theorem xl_one (L : BL) : ∀ u ∈ xl L, u.oneCell' = true := by
  intro u hu
  simp only [xl, List.mem_flatMap] at hu
  obtain ⟨d, _, hd⟩ := hu
  simp [xc] at hd
  rcases hd with rfl | rfl <;> rfl
theorem x_info : (Try.prog.info? 83).map (fun i => (i.zero, i.size, i.bytes)) = some (some (.agg #[.int .u32 0, .string ⟨#[]⟩]), 2, 24) := by kernel_rfl
/-- the list of an O, read -/
structure RO (w : World) (p : Option Addr) (cap : Nat) (L : BL) : Prop where
  src : Src w p L.length cap 2 (xl L)
  lt : ∀ a, p = some a → a.block < w.heap.size
theorem RO.below {w w' : World} {p : Option Addr} {cap : Nat} {L : BL} (h : RO w p cap L) (hb : Below w.heap.size w w') : RO w' p cap L :=
  ⟨h.src.below hb h.lt, fun a ha => Nat.lt_of_lt_of_le (h.lt a ha) hb.size⟩
theorem RO.kept {w w' : World} {p : Option Addr} {cap : Nat} {L : BL} {r : List Nat} (h : RO w p cap L) (hk : Kept r w w') (hr : ∀ a, p = some a → a.block ∉ r) : RO w' p cap L :=
  ⟨h.src.kept hk hr, fun a ha => Nat.lt_of_lt_of_le (h.lt a ha) hk.size⟩
theorem RO.of_own {w : World} {base : Nat} {v : Value} {L : BL} (h : w.ownsRow base 83 2 v L.length (xl L)) : ∃ p cap, v = .slice p L.length cap ∧ RO w p cap L := by
  obtain ⟨p, cap, hv, hs⟩ := Src.of_own h
  refine ⟨p, cap, hv, hs, fun a ha => ?_⟩
  subst hv ha
  obtain ⟨b, off, sp⟩ := a
  have h2 := hs.spot _ rfl
  simp at h2
  subst h2
  rcases h.2 with ⟨h3, _⟩ | ⟨g, cap', cur, h3, _, hg, _⟩
  · cases h3
  · injection h3 with h3 _ _
    injection h3 with h3; injection h3 with h3
    subst h3
    exact (Array.getElem?_eq_some_iff.1 hg).1
def oagg (base win : Nat) (v : Value) : Value := .agg #[.int .u32 (base : Int), .int .i64 (win : Int), v]
def atR (L : BL) (x : Nat) : Int := if ix L x < L.length then (ix L x : Int) else -1
set_option maxRecDepth 100000 in
theorem rat_any (base win : Nat) (p : Option Addr) (cap : Nat) (L : BL) (x : Nat) (hL : L.length ≤ 1000) (w : World) (hs : RO w p cap L) :
    Calls Try.prog 63 #[.agg #[.int .u32 (base : Int), .int .i64 (win : Int), .slice p L.length cap], .int .u32 (x : Int)] w fun e w' => e = .returned (.int .i64 (atR L x)) ∧ Below w.heap.size w w' := by
  obtain ⟨n, hn⟩ : ∃ n, n = L.length := ⟨_, rfl⟩
  have hlt := hs.lt
  have hs := hs.src
  rw [← hn] at hs hL ⊢
  have HN := Lib.hid hn
  clear hn
  go_enter Try.func63, Try.ntmps63
  go_wp2_with fail
  generalize hw2 : w.alloc _ = wb
  have hB2 : Blk wb w.heap.size #[.int .u32 (base : Int), .int .i64 (win : Int), .slice p n cap] 35 := by rw [← hw2]; exact Blk.new _ _ _
  have hk2 : Kept [] w wb := by rw [← hw2]; exact (Kept.refl _ _).alloc _
  have hS2 := hs.kept hk2 (by simp)
  have HS := Lib.hid hS2
  have HKW := Lib.hid hk2
  have c2 := hB2.cell 2
  simp at c2
  clear hw2 hs hS2 hB2 hk2
  go_loopw [5] (fun iv wr => ∃ i : Nat, iv = .int .i64 (i : Int) ∧ i ≤ n ∧ i ≤ ix L x ∧ wr = wb) (fun iv _ => n - (intOf iv).toNat)
  case atStart => exact ⟨0, rfl, Nat.zero_le _, Nat.zero_le _, rfl⟩
  case round =>
    obtain ⟨i, rfl, hin, hix, rfl⟩ := hrel
    have HIX := Lib.hid hix
    clear hix
    by_cases hlt2 : i < n
    · obtain ⟨lb, off, rfl⟩ := HS.out.of_pos (by have := HS.out.fits; omega)
      have hiL : i < L.length := by rw [← HN.out]; exact hlt2
      have y0 := HS.out.at_ (i * 2) _ (by have := xl_get L i 0 hiL (by omega); simpa [xc] using this)
      have HY : Hid ((L[i]'hiL).1 = (L[i]'hiL).1) := Lib.hid rfl
      generalize hki : (L[i]'hiL).1 = ki at *
      have HKI := Lib.hid hki
      clear hki HY
      by_cases he : ki = x
      · subst he
        have hfix : Hid (atR L ki = (i : Int)) := Lib.hid (by
          have h1 := ix_here hiL HKI.out HIX.out
          unfold atR; rw [if_pos (by omega), h1])
        go_wp2
        go_ret
        exact ⟨ret_int hfix.out.symm, HKW.out.below (Nat.le_refl _) (by simp)⟩
      · have b0 : ((ki : Int) == (x : Int)) = false := by rw [beq_eq_false_iff_ne]; omega
        go_wp2
        go_roundw
        case rel => exact ⟨i + 1, by go_num, by omega, by
          have h1 := HIX.out
          rcases Nat.lt_or_ge i (ix L x) with h | h
          · omega
          · have h2 : i = ix L x := by omega
            have h3 := ix_at (L := L) (x := x) (by omega)
            subst h2
            exact absurd (HKI.out.symm.trans h3) he, by first | rfl | trivial⟩
        case measure => simp [intOf]; omega
    · have hfix : Hid (atR L x = -1) := Lib.hid (by
        have h1 := HIX.out
        have h2 := HN.out
        unfold atR; rw [if_neg (by omega)])
      go_wp2
      go_ret
      exact ⟨ret_int hfix.out.symm, HKW.out.below (Nat.le_refl _) (by simp)⟩
def hasR (L : BL) (x : Nat) : Bool := decide (ix L x < L.length)
theorem rhas_any (base win : Nat) (p : Option Addr) (cap : Nat) (L : BL) (x : Nat) (hL : L.length ≤ 1000) (w : World) (hs : RO w p cap L) :
    Calls Try.prog 41 #[.agg #[.int .u32 (base : Int), .int .i64 (win : Int), .slice p L.length cap], .int .u32 (x : Int)] w fun e w' => e = .returned (.bool (hasR L x)) ∧ Below w.heap.size w w' := by
  have HA := Lib.hid (fun w hs => rat_any base win p cap L x hL w hs)
  have hr : hasR L x = decide (0 ≤ atR L x) := by
    unfold hasR atR
    split
    · rename_i h; simp [h]
    · rename_i h; simp [h]
  have hb1 : -1 ≤ atR L x ∧ atR L x ≤ 1000 := by unfold atR; split <;> omega
  have HR := Lib.hid hr
  have HS := Lib.hid (fun o => hs.kept ((Kept.refl [] w).alloc o) (by simp))
  clear hr hs
  generalize atR L x = k at *
  go_enter Try.func41, Try.ntmps41
  go_wp2_with (go_at_call 63; refine (HA.out _ (HS.out _)).mono ?_; rintro e w1 ⟨rfl, hb⟩)
  go_ret
  exact ⟨ret_bool (by rw [HR.out]), Below.trans (b := _) ((Below.refl _ _).alloc (Nat.le_refl _) _) (hb.mono (by simp))⟩
/-- what Put leaves where nothing turns -/
def RSame (W : World) (base win : Nat) (v : Value) (k : Int) (e : Ending) (w' : World) : Prop := e = .returned (.tuple #[.agg #[.int .u32 (base : Int), .int .i64 (win : Int), v], .int .i64 k]) ∧ Below W.heap.size W w'
set_option maxRecDepth 100000 in
theorem rput_less (base win : Nat) (p : Option Addr) (cap : Nat) (L : BL) (x : Nat) (body : ByteArray) (hL : L.length ≤ 1000) (hb : base < 4294967296) (hx : x < 4294967296) (k1 : lessB x base = true) (w : World) (hs : RO w p cap L) :
    Calls Try.prog 60 #[.agg #[.int .u32 (base : Int), .int .i64 (win : Int), .slice p L.length cap], .int .u32 (x : Int), .string body] w (RSame w base win (.slice p L.length cap) 0) := by
  have HL := Lib.hid (fun w => refLess (x : Int) (base : Int) (by omega) (by omega) (by omega) (by omega) w)
  have HW := Lib.hid (fun w => refWithin (x : Int) (base : Int) (win : Int) (by omega) (by omega) (by omega) (by omega) w)
  have HH := Lib.hid (fun w hs => rhas_any base win p cap L x hL w hs)
  rw [k1] at HL
  clear k1 hs
  go_enter Try.func60, Try.ntmps60
  go_wp2_with (go_at_call 56; refine (HL.out _).mono ?_; rintro e w' ⟨rfl, rfl⟩)
  go_returns
  exact ⟨rfl, by go_grown⟩
set_option maxRecDepth 100000 in
theorem rput_far (base win : Nat) (p : Option Addr) (cap : Nat) (L : BL) (x : Nat) (body : ByteArray) (hL : L.length ≤ 1000) (hb : base < 4294967296) (hx : x < 4294967296) (k1 : lessB x base = false) (k2 : keyIn base win x = false) (w : World) (hs : RO w p cap L) :
    Calls Try.prog 60 #[.agg #[.int .u32 (base : Int), .int .i64 (win : Int), .slice p L.length cap], .int .u32 (x : Int), .string body] w (RSame w base win (.slice p L.length cap) 1) := by
  have HL := Lib.hid (fun w => refLess (x : Int) (base : Int) (by omega) (by omega) (by omega) (by omega) w)
  have HW := Lib.hid (fun w => refWithin (x : Int) (base : Int) (win : Int) (by omega) (by omega) (by omega) (by omega) w)
  have HH := Lib.hid (fun w hs => rhas_any base win p cap L x hL w hs)
  unfold keyIn at k2
  rw [k1] at HL
  rw [k2] at HW
  clear k1 k2 hs
  go_enter Try.func60, Try.ntmps60
  go_wp2_with (first | (go_at_call 56; refine (HL.out _).mono ?_; rintro e w' ⟨rfl, rfl⟩) | (go_at_call 57; refine (HW.out _).mono ?_; rintro e w' ⟨rfl, rfl⟩))
  go_returns
  exact ⟨rfl, by go_grown⟩
end Go.Proofs.Ytdggnhgflfaffaa
