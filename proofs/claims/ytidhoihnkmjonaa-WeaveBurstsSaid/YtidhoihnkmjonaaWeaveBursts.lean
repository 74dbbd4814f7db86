/- The walk of WeaveBursts. -/
import Derived.Test.YtidhoihnkmjonaaWeavePlaces
import Derived.Deep.RegionHeld3
import Derived.Deep.Light
namespace Go.Proofs.Ytidhoihnkmjonaa
open Go.ChangeShapes Go.WideShapes Go.ChangeAt Go.RowKit
set_option linter.unusedVariables false

/-- how often x comes among at, at + 1, .. (n of them), by their rests -/
def cnt (r at0 x : Nat) : Nat → Nat
  | 0 => 0
  | n + 1 => cnt r at0 x n + if (at0 + n) % r = x then 1 else 0
theorem cnt_eq (r at0 x : Nat) (hr : 0 < r) (hx : x < r) (n : Nat) : cnt r at0 x n + (at0 + r - 1 - x) / r = (at0 + n + r - 1 - x) / r := by
  induction n with
  | zero => simp [cnt]
  | succ n ih =>
    rw [cnt]
    have e : at0 + (n + 1) + r - 1 - x = (at0 + n + r - 1 - x) + 1 := by omega
    rw [e, Nat.succ_div, ← ih]
    have hd : r ∣ at0 + n + r - 1 - x + 1 ↔ (at0 + n) % r = x := by
      have e2 : at0 + n + r - 1 - x + 1 = at0 + n + (r - x) := by omega
      rw [e2]
      constructor
      · intro h
        have h2 := Nat.mod_eq_zero_of_dvd h
        have h3 := Nat.mod_lt (at0 + n) hr
        have h4 : ((at0 + n) % r + (r - x)) % r = 0 := by rw [Nat.mod_add_mod]; exact h2
        rcases Nat.lt_trichotomy ((at0 + n) % r) x with h5 | h5 | h5
        · rw [Nat.mod_eq_of_lt (by omega)] at h4; omega
        · exact h5
        · rw [Nat.mod_eq_sub_mod (by omega), Nat.mod_eq_of_lt (by omega)] at h4; omega
      · intro h
        apply Nat.dvd_of_mod_eq_zero
        rw [Nat.add_mod, h]
        rcases Nat.eq_zero_or_pos x with h6 | h6
        · subst h6; simp
        · rw [Nat.mod_eq_of_lt (a := r - x) (by omega), show x + (r - x) = r by omega, Nat.mod_self]
    by_cases h : (at0 + n) % r = x
    · rw [if_pos h, if_pos (hd.2 h)]; omega
    · rw [if_neg h, if_neg (fun k => h (hd.1 k))]; omega
theorem cnt_le (r at0 x n : Nat) (hr : 0 < r) (hx : x < r) (hn : 0 < n) : cnt r at0 x n ≤ (n - 1) / r + 1 := by
  have h := cnt_eq r at0 x hr hx n
  have h1 : (at0 + n + r - 1 - x) / r ≤ ((n - 1) + (at0 + r - 1 - x) / r * r + r) / r := by
    apply Nat.div_le_div_right
    have := Nat.mod_lt (at0 + r - 1 - x) hr
    have := Nat.div_add_mod (at0 + r - 1 - x) r
    rw [Nat.mul_comm] at this
    omega
  have h2 : ((n - 1) + (at0 + r - 1 - x) / r * r + r) / r = (n - 1) / r + (at0 + r - 1 - x) / r + 1 := by
    rw [Nat.add_div_right _ hr, Nat.add_mul_div_right _ _ hr]
  omega
theorem cnt_mono (r at0 x n m : Nat) (h : n ≤ m) : cnt r at0 x n ≤ cnt r at0 x m := by
  induction m with
  | zero => have : n = 0 := by omega
            subst this; exact Nat.le_refl _
  | succ m ih =>
    rcases Nat.lt_or_ge n (m + 1) with h1 | h1
    · have := ih (by omega); rw [cnt]; omega
    · have : n = m + 1 := by omega
      subst this; exact Nat.le_refl _
theorem cnt_small (r at0 x n : Nat) : cnt r at0 x n ≤ n := by
  induction n with
  | zero => simp [cnt]
  | succ n ih => rw [cnt]; split <;> omega

/-- the rows' numbers -/
def rowsL (c n : Nat) : List UInt8 := (List.range n).map fun i => UInt8.ofNat (i / c)
theorem rowsL_succ (c n : Nat) : rowsL c (n + 1) = rowsL c n ++ [UInt8.ofNat (n / c)] := by simp [rowsL, List.range_succ]
theorem rowsL_len (c n : Nat) : (rowsL c n).length = n := by simp [rowsL]
theorem woven_at (r c n k : Nat) (hn : n = r * c) (hr : r ≤ 40) (hc : c ≤ 40) (h : k < (weaveB (ofL (rowsL c n)) r c).size) :
    ((weaveB (ofL (rowsL c n)) r c)[k]).toNat = k % r := by
  subst hn
  have hk : k < r * c := by rw [weaveB_size] at h; exact h
  have hr0 : 0 < r := by rcases Nat.eq_zero_or_pos r with h0 | h0; (rw [h0] at hk; omega); exact h0
  have hc0 : 0 < c := by rcases Nat.eq_zero_or_pos c with h0 | h0; (rw [h0] at hk; omega); exact h0
  have hm := Nat.mod_lt k hr0
  have hd : k / r < c := by rw [Nat.div_lt_iff_lt_mul hr0, Nat.mul_comm]; exact hk
  have hlt : k % r * c + k / r < r * c := mul_step _ _ _ _ hm hd
  rw [weaveB_at _ r c k h (by rw [ofL_size, rowsL_len]; exact hlt)]
  rw [ofL_get]
  simp only [rowsL, List.getElem_map, List.getElem_range]
  have e : (k % r * c + k / r) / c = k % r := by
    rw [Nat.mul_comm, Nat.mul_add_div hc0, Nat.div_eq_of_lt hd]; rfl
  rw [e]
  simp only [UInt8.toNat_ofNat']
  omega

def zeros256 : Array Value := Array.replicate 256 (.int .i64 0)
theorem zero256 (w : World) : (zeroValue 32).run Try.prog w = .ok (.agg zeros256) w := by kernel_rfl
def haveA (f : Nat → Nat) : Array Value := Array.ofFn fun x : Fin 256 => .int .i64 (f x.val : Int)
theorem haveA_zero : zeros256 = haveA (fun _ => 0) := by
  unfold zeros256 haveA
  apply Array.ext
  · simp
  · intro i h1 h2; simp
theorem haveA_at (f : Nat → Nat) (x : Nat) (h : x < 256) : (haveA f)[x]? = some (.int .i64 (f x : Int)) := by simp [haveA, h]
theorem haveA_size (f : Nat → Nat) : (haveA f).size = 256 := by simp [haveA]
theorem set_self (c : Array Value) (x : Nat) (v : Value) (h : x < c.size) : (c.setIfInBounds x v)[x]? = some v := by
  rw [Array.getElem?_setIfInBounds]; simp [h]
theorem haveA_set (f g : Nat → Nat) (x : Nat) (v : Int) (hx : x < 256) (h1 : v = (g x : Int)) (h2 : ∀ y, y ≠ x → g y = f y) : (haveA f).setIfInBounds x (.int .i64 v) = haveA g := by
  apply Array.ext
  · simp [haveA]
  · intro i k1 k2
    rw [Array.getElem_setIfInBounds]
    · split
      · rename_i h; subst h; simp [haveA, h1]
      · rename_i h; simp only [haveA, Array.getElem_ofFn]; rw [h2 i (fun e => h e.symm)]
    · simpa using k1
set_option maxRecDepth 100000 in
set_option maxHeartbeats 4000000 in
theorem bursts (a b f m : Int) (ha : 0 ≤ a ∧ a ≤ 255) (hb : 0 ≤ b ∧ b ≤ 255) (hf : 0 ≤ f ∧ f ≤ 65535) (hm : 0 ≤ m ∧ m ≤ 65535) (w : World) :
    Calls Try.prog 4 #[.agg #[.int .u8 a, .int .u8 b, .int .u16 f, .int .u16 m]] w (TruePost w) := by
  obtain ⟨i0, hi, hz0, hz1, hz2⟩ := info_parts u8_info
  obtain ⟨r, hr⟩ : ∃ r : Nat, a % 40 + 1 = (r : Int) := ⟨(a % 40 + 1).toNat, by omega⟩
  obtain ⟨c, hc⟩ : ∃ c : Nat, b % 40 + 1 = (c : Int) := ⟨(b % 40 + 1).toNat, by omega⟩
  have r1 : 1 ≤ r := by omega
  have r2 : r ≤ 40 := by omega
  have c1 : 1 ≤ c := by omega
  have c2 : c ≤ 40 := by omega
  obtain ⟨n, hn⟩ : ∃ n : Nat, n = r * c := ⟨_, rfl⟩
  have hmul : (r : Int) * (c : Int) = (n : Int) := by rw [hn]; simp
  have n1 : 1 ≤ n := by rw [hn]; exact Nat.mul_pos r1 c1
  have n2 : n ≤ 1600 := by rw [hn]; exact Nat.mul_le_mul r2 c2
  have HN := Lib.hid hn
  clear hn
  have k1 : IntKind.i64.wrap (a % 40 + 1) = (r : Int) := by rw [IntWalk.i64_in _ (by omega)]; exact hr
  have k2 : IntKind.i64.wrap (b % 40 + 1) = (c : Int) := by rw [IntWalk.i64_in _ (by omega)]; exact hc
  go_enter Try.func4, Try.ntmps4
  go_wp2
  go_quiet (fail)
  go_wp2
  clear hr hc k1 k2
  go_loopw [5, 6] (fun v iv wr => ∃ i : Nat, i ≤ n ∧ iv = .int .i64 i ∧ wr.ownsRow (w.heap.size + 1) 5 1 v i (bv (rowsL c i)) ∧ Blk wr w.heap.size #[.int .u8 a, .int .u8 b, .int .u16 f, .int .u16 m] 30 ∧ Below w.heap.size w wr) (fun _ iv _ => n - (intOf iv).toNat)
  case atStart => exact ⟨0, Nat.zero_le _, rfl, World.ownsRow_nil _ _ _ _, Blk.drewN (Blk.new _ _ _) _, bdrewN (by go_grown) _⟩
  case round =>
    obtain ⟨i, hin, rfl, hown, hbox, hbel⟩ := hrel
    by_cases hlt : i < n
    · obtain ⟨q, hq, hq2⟩ : ∃ q : Nat, (i : Int) / (c : Int) = (q : Int) ∧ i / c = q := ⟨i / c, rfl, rfl⟩
      have hq3 : q < r := by
        rw [← hq2, Nat.div_lt_iff_lt_mul (by omega)]
        have := HN.out; omega
      have HQ := Lib.hid hq2
      clear hq2
      go_wp2_with (at_builtin; refine wpList_append_own _ rfl _ _ 31 rfl (w.heap.size + 1) 5 i0 (.int .u8 0) 1 1 Try.underlying31 hi hz0 hz1 hz2 rfl (by decide) _ _ _ rfl (hown.alloc _) ⟨wr.heap.size, 0, none⟩ 1 1 [.int .u8 (q : Int)] rfl rfl ?c1 ?c2 ?c3 ?c4 ?c5 ?_)
      case c1 =>
        intro j u hj
        match j, hj with
        | 0, hj => simp at hj; subst hj; simp [Addr.add]
      case c2 => intro u hu; simp at hu; subst hu; rfl
      case c3 => unfold maxLen; omega
      case c4 => omega
      case c5 => have := hbel.size; have := hbox.lt; simp; omega
      intro v' w1 hown' hgrow _
      have hlo := hown.lt
      go_wp2
      go_roundw
      case rel =>
        refine ⟨i + 1, by omega, by go_num, ?_, Blk.grown (Blk.alloc hbox _) hgrow ?_, (hbel.alloc hbel.size _).grown hgrow (by simp; have := hbel.size; omega) (fun k hk => by have := hlo k hk; omega)⟩
        · rw [rowsL_succ, bv_app, HQ.out]
          have e : bv [UInt8.ofNat q] = [Value.int .u8 (q : Int)] := by
            simp only [bv, List.map_cons, List.map_nil, UInt8.toNat_ofNat', List.cons.injEq, Value.int.injEq, true_and, and_true]
            omega
          rw [e]; exact hown'
        · intro h
          have := hlo _ h.symm
          omega
      case measure => simp [intOf]; omega
    · have hie : i = n := by omega
      subst hie
      have hlen : (ofL (rowsL c i)).size = i := by rw [ofL_size, rowsL_len]
      have hstr := own_string hown
      go_wp2_with fail
      refine (weave_good (ofL (rowsL c i)) r r c rfl (by omega) (by omega) (by rw [hlen]; exact HN.out.symm) (by omega) (weaveB (ofL (rowsL c i)) r c) rfl _).mono ?_
      rintro e w2 ⟨rfl, hb2⟩
      have wz := weaveB_size (ofL (rowsL c i)) r c
      have HW := Lib.hid (fun k (h : k < (weaveB (ofL (rowsL c i)) r c).size) => woven_at r c i k HN.out r2 c2 h)
      have hts : (weaveB (ofL (rowsL c i)) r c).size = i := by rw [wz]; exact HN.out.symm
      clear wz
      generalize weaveB (ofL (rowsL c i)) r c = t at *
      obtain ⟨p, hp⟩ : ∃ p : Nat, f % (i : Int) = (p : Int) := ⟨(f % (i : Int)).toNat, by have := Int.emod_nonneg f (show (i : Int) ≠ 0 by omega); omega⟩
      have hpi : p < i := by have := Int.emod_lt_of_pos f (show (0 : Int) < (i : Int) by omega); omega
      have hz := zero256
      have f2 : w2.cell? ⟨w.heap.size, 2, none⟩ = some (.int .u16 f) := by rw [hb2.cell (by exact hbox.lt)]; exact hbox.cell 2
      have f3 : w2.cell? ⟨w.heap.size, 3, none⟩ = some (.int .u16 m) := by rw [hb2.cell (by exact hbox.lt)]; exact hbox.cell 3
      have hsz2 := hb2.size
      have hbx := hbox.lt
      have hbx2 : w.heap.size < w2.heap.size := by omega
      obtain ⟨many, hmany, hcase⟩ : ∃ many : Nat, many ≤ i - p ∧ ((m ≤ (i : Int) - (p : Int) ∧ m = (many : Int)) ∨ ((i : Int) - (p : Int) < m ∧ many = i - p)) := by
        by_cases hc : m ≤ (i : Int) - (p : Int)
        · exact ⟨m.toNat, by omega, .inl ⟨hc, by omega⟩⟩
        · exact ⟨i - p, Nat.le_refl _, .inr ⟨by omega, rfl⟩⟩
      have hB2 : Below w.heap.size w w2 := hbel.trans (hb2.mono hbel.size)
      rcases hcase with ⟨hc1, rfl⟩ | ⟨hc1, hc2⟩
      · go_wp2_with fail
        simp only [hp]
        go_loopw [12] (fun jv wx => ∃ d : Nat, d ≤ many ∧ jv = .int .i64 ((p : Int) + (d : Int)) ∧ Blk wx w2.heap.size (haveA fun x => cnt r p x d) 32 ∧ Below w.heap.size w wx) (fun jv _ => p + many - (intOf jv).toNat)
        case atStart => exact ⟨0, Nat.zero_le _, by simp, by have h := Blk.new w2 zeros256 32; rw [haveA_zero] at h ⊢; exact h, hB2.alloc hB2.size _⟩
        case round =>
          obtain ⟨d, hd, rfl, hH, hBx⟩ := hrel
          by_cases hdm : d < many
          · have hj : p + d < t.size := by rw [hts]; omega
            have e := HW.out (p + d) hj
            have hx : (p + d) % r < r := Nat.mod_lt _ (by omega)
            have hcn : cnt r p ((p + d) % r) (d + 1) = cnt r p ((p + d) % r) d + 1 := by rw [cnt, if_pos rfl]
            have hle : cnt r p ((p + d) % r) d + 1 ≤ (many - 1) / r + 1 := by
              rw [← hcn]; exact Nat.le_trans (cnt_mono _ _ _ _ _ (by omega)) (cnt_le r p _ many (by omega) hx (by omega))
            have hbu : burstI (many : Int) (r : Int) = (((many - 1) / r + 1 : Nat) : Int) := by
              unfold burstI; rw [if_neg (by omega)]
              have : (many : Int) - 1 = ((many - 1 : Nat) : Int) := by omega
              rw [this]; rfl
            have hsm := cnt_small r p ((p + d) % r) d
            have hbd : decide (burstI (many : Int) (r : Int) < (cnt r p ((p + d) % r) d : Int) + 1) = false := by rw [hbu]; simp only [decide_eq_false_iff_not]; omega
            clear hcn hbu hle
            have c0 : wr.cell? ⟨w2.heap.size, (p + d) % r, none⟩ = some (.int .i64 (cnt r p ((p + d) % r) d : Int)) := by rw [hH.cell]; exact haveA_at _ _ (by omega)
            have f0 := hH.free ((p + d) % r)
            obtain ⟨x, hxd⟩ : ∃ x, (p + d) % r = x := ⟨_, rfl⟩
            obtain ⟨q, hqd⟩ : ∃ q, cnt r p ((p + d) % r) d = q := ⟨_, rfl⟩
            simp only [hqd] at hsm hbd c0
            simp only [hxd] at hx c0 f0 e
            have HX := Lib.hid hxd
            have HQ := Lib.hid hqd
            clear hxd hqd
            have HB := Lib.hid hbd
            have HH := Lib.hid hH
            clear hH hbd
            go_wp2_with fail
            have hbd := HB.out
            have c1 : (wr.setCell ⟨w2.heap.size, x, none⟩ (.int .i64 ((q : Int) + 1))).cell? ⟨w2.heap.size, x, none⟩ = some (.int .i64 ((q : Int) + 1)) := by
              rw [(HH.out.set x _).cell]; exact set_self _ _ _ (by rw [haveA_size]; omega)
            go_quiet ((go_at_call 9; exact Calls.quiet_of_same ((burst_any _ _ (by omega) _).mono fun e w' h => ⟨h.1, h.2.symm⟩)))
            go_wp2_with fail
            go_roundw
            case rel =>
              refine ⟨d + 1, by omega, by go_num, ?_, bdrewN (hBx.setCell (by exact hB2.size) _) _⟩
              have hxe := HX.out
              have hqe := HQ.out
              have h3 := HH.out.set x (.int .i64 ((q : Int) + 1))
              rw [haveA_set (fun x => cnt r p x d) (fun x => cnt r p x (d + 1)) x ((q : Int) + 1) (by omega) (by simp only [cnt]; rw [if_pos hxe, ← hqe, hxe]; rfl) (fun y hy => by simp only [cnt]; rw [if_neg (fun h => hy (h.symm.trans hxe))]; rfl)] at h3
              exact h3
            case measure => simp [intOf]; omega
          · have hde : d = many := by omega
            go_wp2_with (go_at_call 5; refine (awake_true _).mono ?_; rintro e w6 ⟨rfl, hb6⟩)
            go_ret
            exact ⟨rfl, hBx.trans (hb6.mono hBx.size)⟩
      · have he : (i : Int) - (p : Int) = (many : Int) := by omega
        clear hc2
        go_wp2_with fail
        simp only [hp]
        go_loopw [12] (fun jv wx => ∃ d : Nat, d ≤ many ∧ jv = .int .i64 ((p : Int) + (d : Int)) ∧ Blk wx w2.heap.size (haveA fun x => cnt r p x d) 32 ∧ Below w.heap.size w wx) (fun jv _ => p + many - (intOf jv).toNat)
        case atStart => exact ⟨0, Nat.zero_le _, by simp, by have h := Blk.new w2 zeros256 32; rw [haveA_zero] at h ⊢; exact h, hB2.alloc hB2.size _⟩
        case round =>
          obtain ⟨d, hd, rfl, hH, hBx⟩ := hrel
          by_cases hdm : d < many
          · have hj : p + d < t.size := by rw [hts]; omega
            have e := HW.out (p + d) hj
            have hx : (p + d) % r < r := Nat.mod_lt _ (by omega)
            have hcn : cnt r p ((p + d) % r) (d + 1) = cnt r p ((p + d) % r) d + 1 := by rw [cnt, if_pos rfl]
            have hle : cnt r p ((p + d) % r) d + 1 ≤ (many - 1) / r + 1 := by
              rw [← hcn]; exact Nat.le_trans (cnt_mono _ _ _ _ _ (by omega)) (cnt_le r p _ many (by omega) hx (by omega))
            have hbu : burstI (many : Int) (r : Int) = (((many - 1) / r + 1 : Nat) : Int) := by
              unfold burstI; rw [if_neg (by omega)]
              have : (many : Int) - 1 = ((many - 1 : Nat) : Int) := by omega
              rw [this]; rfl
            have hsm := cnt_small r p ((p + d) % r) d
            have hbd : decide (burstI (many : Int) (r : Int) < (cnt r p ((p + d) % r) d : Int) + 1) = false := by rw [hbu]; simp only [decide_eq_false_iff_not]; omega
            clear hcn hbu hle
            have c0 : wr.cell? ⟨w2.heap.size, (p + d) % r, none⟩ = some (.int .i64 (cnt r p ((p + d) % r) d : Int)) := by rw [hH.cell]; exact haveA_at _ _ (by omega)
            have f0 := hH.free ((p + d) % r)
            obtain ⟨x, hxd⟩ : ∃ x, (p + d) % r = x := ⟨_, rfl⟩
            obtain ⟨q, hqd⟩ : ∃ q, cnt r p ((p + d) % r) d = q := ⟨_, rfl⟩
            simp only [hqd] at hsm hbd c0
            simp only [hxd] at hx c0 f0 e
            have HX := Lib.hid hxd
            have HQ := Lib.hid hqd
            clear hxd hqd
            have HB := Lib.hid hbd
            have HH := Lib.hid hH
            clear hH hbd
            go_wp2_with fail
            have hbd := HB.out
            have c1 : (wr.setCell ⟨w2.heap.size, x, none⟩ (.int .i64 ((q : Int) + 1))).cell? ⟨w2.heap.size, x, none⟩ = some (.int .i64 ((q : Int) + 1)) := by
              rw [(HH.out.set x _).cell]; exact set_self _ _ _ (by rw [haveA_size]; omega)
            go_quiet ((go_at_call 9; exact Calls.quiet_of_same ((burst_any _ _ (by omega) _).mono fun e w' h => ⟨h.1, h.2.symm⟩)))
            go_wp2_with fail
            go_roundw
            case rel =>
              refine ⟨d + 1, by omega, by go_num, ?_, bdrewN (hBx.setCell (by exact hB2.size) _) _⟩
              have hxe := HX.out
              have hqe := HQ.out
              have h3 := HH.out.set x (.int .i64 ((q : Int) + 1))
              rw [haveA_set (fun x => cnt r p x d) (fun x => cnt r p x (d + 1)) x ((q : Int) + 1) (by omega) (by simp only [cnt]; rw [if_pos hxe, ← hqe, hxe]; rfl) (fun y hy => by simp only [cnt]; rw [if_neg (fun h => hy (h.symm.trans hxe))]; rfl)] at h3
              exact h3
            case measure => simp [intOf]; omega
          · have hde : d = many := by omega
            go_wp2_with (go_at_call 5; refine (awake_true _).mono ?_; rintro e w6 ⟨rfl, hb6⟩)
            go_ret
            exact ⟨rfl, hBx.trans (hb6.mono hBx.size)⟩
end Go.Proofs.Ytidhoihnkmjonaa
