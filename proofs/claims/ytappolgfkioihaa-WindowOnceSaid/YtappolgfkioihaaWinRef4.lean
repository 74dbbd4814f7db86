/- Contracts of lightshipref15: Missing. -/
import Derived.Test.YtappolgfkioihaaWinRef3
namespace Go.Proofs.Ytappolgfkioihaa
open Go.ChangeShapes Go.WideShapes Go.ChangeAt Go.RowKit
set_option linter.unusedVariables false

def lat (base : Nat) (L : List Nat) (i k : Nat) : Bool := (List.range k).any (fun j => decide (i < j) && inL L ((base + j) % 4294967296))
theorem lat_start (base : Nat) (L : List Nat) (i : Nat) : lat base L i (i + 1) = false := by
  unfold lat
  rw [List.any_eq_false]
  intro j hj
  rw [List.mem_range] at hj
  simp; omega
theorem lat_succ (base : Nat) (L : List Nat) (i k : Nat) (h : i < k) : lat base L i (k + 1) = (lat base L i k || inL L ((base + k) % 4294967296)) := by
  unfold lat
  rw [List.range_succ, List.any_append]
  simp [h]
theorem lat_iff {base : Nat} {L : List Nat} {i k : Nat} : lat base L i k = true ↔ ∃ j, i < j ∧ j < k ∧ inL L ((base + j) % 4294967296) = true := by
  unfold lat
  rw [List.any_eq_true]
  constructor
  · rintro ⟨j, hj, h⟩
    rw [List.mem_range] at hj
    simp at h
    exact ⟨j, h.1, hj, h.2⟩
  · rintro ⟨j, h1, h2, h3⟩
    exact ⟨j, List.mem_range.2 h2, by simp [h1, h3]⟩
def rm (base N : Nat) (L : List Nat) : Nat → List Nat
  | 0 => []
  | i + 1 => rm base N L i ++ (if lat base L i N && !inL L ((base + i) % 4294967296) then [(base + i) % 4294967296] else [])
theorem rm_len (base N : Nat) (L : List Nat) (i : Nat) : (rm base N L i).length ≤ i := by
  induction i with
  | zero => simp [rm]
  | succ i ih =>
    rw [rm, List.length_append]
    split <;> simp <;> omega
theorem rm_is {base N : Nat} {L : List Nat} {last : Nat} (hb : base < 4294967296) (hN : N ≤ 64) (hw : ∀ x ∈ L, x < 4294967296 ∧ keyIn base N x = true) (hl : IsLast base L last) : rm base N L N = missL base L last := by
  have hlat : ∀ i, lat base L i N = decide (i < last) := by
    intro i
    rw [Bool.eq_iff_iff, lat_iff, decide_eq_true_iff]
    constructor
    · rintro ⟨j, h1, h2, h3⟩
      have h4 := hl.1 _ (inL_iff.1 h3)
      unfold ahead at h4
      omega
    · intro h
      rcases hl.2 with h0 | ⟨x, hx, he⟩
      · omega
      · have h1 := hw x hx
        have h2 := h1.2
        have h3 := h1.1
        rw [key_iff] at h2
        refine ⟨last, h, by omega, ?_⟩
        have : (base + last) % 4294967296 = x := by unfold ahead at he h2; omega
        rw [this]; exact inL_iff.2 hx
  have hlN : last ≤ N := by
    rcases hl.2 with h0 | ⟨x, hx, he⟩
    · omega
    · have h2 := (hw x hx).2
      rw [key_iff] at h2; omega
  have key : ∀ i, rm base N L i = missL base L (min i last) := by
    intro i
    induction i with
    | zero => simp [rm, missL]
    | succ i ih =>
      rw [rm, ih, hlat]
      by_cases h : i < last
      · rw [show min (i + 1) last = min i last + 1 by omega, missL_succ, show min i last = i by omega]
        congr 1
        simp only [h, decide_true, Bool.true_and]
        cases inL L ((base + i) % 4294967296) <;> rfl
      · rw [show min (i + 1) last = min i last by omega]
        simp [h]
  rw [key, Nat.min_eq_right hlN]
def RMissPost (W : World) (M : List Nat) (e : Ending) (w' : World) : Prop := ∃ p cap, e = .returned (.slice p M.length cap) ∧ RU w' p cap M ∧ Below W.heap.size W w'
set_option maxRecDepth 100000 in
set_option maxHeartbeats 4000000 in
theorem rmiss_any (base n : Nat) (p : Option Addr) (cap : Nat) (L : List Nat) (hn : n ≤ 64) (hL : L.length ≤ 1000) (hb : base < 4294967296) (w : World) (hs : RU w p cap L) :
    Calls Try.prog 17 #[.agg #[.int .u32 (base : Int), .int .i64 (n : Int), .slice p L.length cap]] w (RMissPost w (rm base n L n)) := by
  obtain ⟨i0, hi, hz0, hz1, hz2⟩ := info_parts u_info
  have HS := Lib.hid (hs.al (.cells #[.int .u32 (base : Int), .int .i64 (n : Int), .slice p L.length cap] 31))
  have HIN := Lib.hid (fun x hx w hs => rin_any p cap L x hx w hs)
  clear hs
  go_enter Try.func17, Try.ntmps17
  go_wp2_with fail
  generalize hw0 : w.alloc _ = w0 at *
  have hB0 : Blk w0 w.heap.size #[.int .u32 (base : Int), .int .i64 (n : Int), .slice p L.length cap] 31 := by rw [← hw0]; exact Blk.new _ _ _
  have hk0 : Kept [] w w0 := by rw [← hw0]; exact (Kept.refl _ _).alloc _
  have HB0 := Lib.hid hB0
  have HK0 := Lib.hid hk0
  have hsz0 := hB0.lt
  clear hw0 hB0 hk0
  go_loopw [3, 4] (fun ov iv wr => ∃ (i : Nat) (v : Value), iv = .int .i64 (i : Int) ∧ i ≤ n ∧ ov = v ∧ wr.ownsRow w0.heap.size 22 1 v (rm base n L i).length (ul (rm base n L i)) ∧ Kept [] w0 wr) (fun _ iv _ => n - (intOf iv).toNat)
  case atStart => exact ⟨0, _, rfl, Nat.zero_le _, rfl, World.ownsRow_nil _ _ _ _, Kept.refl _ _⟩
  case round =>
    obtain ⟨i, v, rfl, hik, rfl, hown, hkq⟩ := hrel
    obtain ⟨pv, capv, hv, hruv⟩ := RU.of_own hown
    subst hv
    have hml := rm_len base n L i
    have hBo := HB0.out.kept hkq (by simp)
    have x0 := hBo.cell 0
    have x1 := hBo.cell 1
    have x2 := hBo.cell 2
    simp at x0 x1 x2
    have HSR := Lib.hid (HS.out.kept hkq (by simp))
    have HOW := Lib.hid hown
    have HKQ := Lib.hid hkq
    have HRV := Lib.hid hruv
    have hszq := hkq.size
    clear hBo hown hkq hruv
    by_cases hlt : i < n
    · obtain ⟨wo, rfl⟩ : ∃ wo, wo = wr := ⟨_, rfl⟩
      have e1 : ((base : Int) + (i : Int)) % 4294967296 = (((base + i) % 4294967296 : Nat) : Int) := by omega
      have e2 : (i : Int) % 4294967296 = (i : Int) := by omega
      have hx : (base + i) % 4294967296 < 4294967296 := Nat.mod_lt _ (by omega)
      have dd : decide ((i : Int) < (n : Int)) = true := by rw [decide_eq_true_iff]; omega
      have hrm : Hid (rm base n L (i + 1) = rm base n L i ++ (if lat base L i n && !inL L ((base + i) % 4294967296) then [(base + i) % 4294967296] else [])) := Lib.hid rfl
      have HI := Lib.hid (HIN.out _ hx)
      generalize (base + i) % 4294967296 = x at *
      go_wp2_with fail
      rw [e1]
      clear e1
      go_loopw [6, 7] (fun lv kv wq => ∃ k : Nat, kv = .int .i64 (k : Int) ∧ i < k ∧ k ≤ n ∧ lv = .bool (lat base L i k) ∧ wq = wo) (fun _ kv _ => n - (intOf kv).toNat)
      case atStart => exact ⟨i + 1, by first | rfl | (congr 1; omega), by omega, by omega, by rw [lat_start], rfl⟩
      case round =>
        obtain ⟨k, rfl, hik2, hkn, rfl, rfl⟩ := hrel
        by_cases hkl : k < n
        · have e3 : ((base : Int) + (k : Int)) % 4294967296 = (((base + k) % 4294967296 : Nat) : Int) := by omega
          have e4 : (k : Int) % 4294967296 = (k : Int) := by omega
          have hy : (base + k) % 4294967296 < 4294967296 := Nat.mod_lt _ (by omega)
          have d2 : decide ((k : Int) < (n : Int)) = true := by rw [decide_eq_true_iff]; omega
          have hls := Lib.hid (lat_succ base L i k hik2)
          have HI2 := Lib.hid (HIN.out _ hy)
          generalize (base + k) % 4294967296 = y at *
          cases hlk : lat base L i k with
          | true =>
            rw [hlk] at hls
            have hls2 := Lib.hid hls.out
            go_wp2_with fail
            go_roundw
            case rel => exact ⟨k + 1, by go_num, by omega, by omega, by rw [hls2.out]; rfl, by first | rfl | trivial⟩
            case measure => simp [intOf]; omega
          | false =>
            rw [hlk] at hls
            generalize inL L y = r at *
            go_wp2_with (go_at_call 14; refine (HI2.out _ HSR.out).mono ?_; rintro e w' ⟨rfl, rfl⟩)
            go_roundw
            case rel => exact ⟨k + 1, by go_num, by omega, by omega, by rw [hls.out]; rfl, by first | rfl | trivial⟩
            case measure => simp [intOf]; omega
        · have hkn2 : k = n := by omega
          subst hkn2
          have d2 : decide ((k : Int) < (k : Int)) = false := by rw [decide_eq_false_iff_not]; omega
          cases hlk : lat base L i k with
          | false =>
            rw [hlk] at hrm
            simp only [Bool.false_and, Bool.false_eq_true, if_false, List.append_nil] at hrm
            go_wp2_with fail
            go_roundw
            case rel => exact ⟨i + 1, _, by go_num, by omega, rfl, by rw [hrm.out]; exact HOW.out, HKQ.out⟩
            case measure => simp [intOf]; omega
          | true =>
            rw [hlk] at hrm
            simp only [Bool.true_and] at hrm
            cases hinx : inL L x with
            | true =>
              rw [hinx] at hrm HI
              simp only [Bool.not_true, Bool.false_eq_true, if_false, List.append_nil] at hrm
              go_wp2_with (go_at_call 14; refine (HI.out _ HSR.out).mono ?_; rintro e w' ⟨rfl, rfl⟩)
              go_roundw
              case rel => exact ⟨i + 1, _, by go_num, by omega, rfl, by rw [hrm.out]; exact HOW.out, HKQ.out⟩
              case measure => simp [intOf]; omega
            | false =>
              rw [hinx] at hrm HI
              simp only [Bool.not_false, if_true] at hrm
              go_wp2_with (first | (go_at_call 14; refine (HI.out _ HSR.out).mono ?_; rintro e w' ⟨rfl, rfl⟩) | (at_builtin; refine wpList_append_src _ rfl (.tmp 46) (.tmp 48) 29 rfl w0.heap.size 22 i0 (.int .u32 0) 1 4 Try.underlying29 hi hz0 hz1 hz2 rfl (by decide) _ _ _ rfl (HOW.out.alloc _) _ 1 1 rfl _ (src_u wr _ _) (fun u hu => by simp at hu; subst hu; rfl) (by unfold maxLen; omega) (by omega) (by simp; omega) ?_))
              intro v3 w3 hown3 hg3 hat3
              have hk3 : Kept [] w0 w3 := (HKQ.out.alloc _).grown hg3 (fun z hz => .inr (own_lt HOW.out z (mem_rowOf hz)).1)
              have HO3 := Lib.hid hown3
              have HK3 := Lib.hid hk3
              clear hown3 hk3 hg3 hat3 x0 x1 x2
              go_wp2_with fail
              go_roundw
              case rel => exact ⟨i + 1, _, by go_num, by omega, rfl, by rw [hrm.out, ul_app, List.length_append]; exact HO3.out, HK3.out⟩
              case measure => simp [intOf]; omega
    · have hie : i = n := by omega
      subst hie
      have dd : decide ((i : Int) < (i : Int)) = false := by rw [decide_eq_false_iff_not]; omega
      go_wp2_with fail
      go_ret
      exact ⟨pv, capv, rfl, HRV.out, (HK0.out.trans HKQ.out (fun x hx => .inl hx)).below (Nat.le_refl _) (by simp)⟩
end Go.Proofs.Ytappolgfkioihaa
