/- The walk of OrderSorts. -/
import Derived.Test.YtbfmnnjjhmmljaaOrderLaw
namespace Go.Proofs.Ytbfmnnjjhmmljaa
open Go.ChangeShapes Go.WideShapes Go.ChangeAt Go.RowKit
set_option linter.unusedVariables false

def bd (m : Nat) : ByteArray := ⟨#[UInt8.ofNat m, 120]⟩
def Good (base : Nat) (L : BL) : Prop := ∀ p ∈ L, ∃ m, m < 64 ∧ p.1 = (base + m) % 4294967296 ∧ p.2 = bd m
theorem Good.put {base b win : Nat} {L : BL} (h : Good base L) (m : Nat) (hm : m < 64) : Good base (putLx b win L ((base + m) % 4294967296) (bd m)) := by
  unfold putLx
  split
  · intro p hp
    rcases List.mem_append.1 hp with h1 | h1
    · exact h p h1
    · simp at h1; subst h1; exact ⟨m, hm, rfl, rfl⟩
  · exact h
theorem Good.next {base at_ : Nat} {L : BL} {room : Int} (h : Good base L) (hat : at_ ≤ 64) (hn : nextB ((base + at_) % 4294967296) L room = true) : at_ < 64 ∧ nxBody ((base + at_) % 4294967296) L room = bd at_ ∧ nxBase ((base + at_) % 4294967296) L room = (base + (at_ + 1)) % 4294967296 ∧ Good base (nxL ((base + at_) % 4294967296) L room) := by
  unfold nxBody nxBase nxL
  simp only [hn, if_true]
  unfold nextB at hn
  rw [decide_eq_true_iff] at hn
  obtain ⟨m, hm, h1, h2⟩ := h _ (List.getElem_mem hn.1)
  rw [ix_at hn.1] at h1
  have e : m = at_ := by omega
  subst e
  refine ⟨hm, by rw [bodyAt_get _ _ hn.1, h2], by omega, fun p hp => h p ((List.eraseIdx_sublist L _).subset hp)⟩
theorem Good.stay {base b : Nat} {L : BL} {room : Int} (h : Good base L) (hn : nextB b L room = false) : nxBase b L room = b ∧ Good base (nxL b L room) := by
  unfold nxBase nxL
  simp only [hn]
  exact ⟨rfl, h⟩
theorem next_rel {w3 : World} {b g1 g2 base at_ : Nat} {L2 : BL} (hat : at_ ≤ 64) (hG : Good base L2) (hO3 : Ord w3 b g1 g2 (nxBase ((base + at_) % 4294967296) L2 2) 32 (nxL ((base + at_) % 4294967296) L2 2)) :
    ∃ (a2 : Nat) (ok : Bool) (body : ByteArray) (L3 : BL), a2 + ok.toNat ≤ 64 ∧ a2 = at_ ∧ ok = nextB ((base + at_) % 4294967296) L2 2 ∧ body = nxBody ((base + at_) % 4294967296) L2 2 ∧ Good base L3 ∧ Ord w3 b g1 g2 ((base + (a2 + ok.toNat)) % 4294967296) 32 L3 ∧ (ok = true → body = bd a2) := by
  cases hn : nextB ((base + at_) % 4294967296) L2 2 with
  | true =>
    obtain ⟨j1, j2, j3, j4⟩ := hG.next hat hn
    refine ⟨at_, true, _, nxL ((base + at_) % 4294967296) L2 2, by simp; omega, rfl, rfl, rfl, j4, ?_, fun _ => j2⟩
    rw [j3] at hO3
    exact hO3
  | false =>
    obtain ⟨j1, j2⟩ := hG.stay hn
    refine ⟨at_, false, _, nxL ((base + at_) % 4294967296) L2 2, by simp; omega, rfl, rfl, rfl, j2, ?_, fun h => by cases h⟩
    rw [j1] at hO3
    exact hO3
theorem conv_bd (m : Nat) (hm : m < 64) (v : Int) (hv : v = (m : Int)) (w : World) : (convert 46 9 (.slice (some ⟨w.heap.size, 0, none⟩) 2 2)).run Try.prog (w.alloc (.cells #[.int .u8 v, .int .u8 120] 5)) = .ok (.string (bd m)) (w.alloc (.cells #[.int .u8 v, .int .u8 120] 5)) := by
  subst hv
  have := run_convert_bytes_back (P := Try.prog) (w.alloc (.cells #[.int .u8 (m : Int), .int .u8 120] 5)) 46 9 5 ⟨w.heap.size, 0, none⟩ 2 [UInt8.ofNat m, 120] Try.underlying46 Try.underlying5 Try.underlying9 (fun j hj => by
    rw [add_plain, Nat.zero_add, (Blk.new w _ _).cell]
    match j, hj with
    | 0, _ => simp; omega
    | 1, _ => rfl)
  exact this
theorem bd_size (m : Nat) : (bd m).size = 2 := rfl
theorem bd_at (m : Nat) (hm : m < 64) (h : 0 < (bd m).size) : (((bd m)[0]'h).toNat : Int) = (m : Int) := by
  show ((UInt8.ofNat m).toNat : Int) = _
  simp; omega
theorem sorts_many (base : Int) (a : Option Addr) (len cap : Nat) (hc : cap ≤ maxLen) (hlc : len ≤ cap) (c1 : 200 < len) (W : World) : Calls Try.prog 4 #[.int .u32 base, .slice a len cap] W (TruePost W) := by
  unfold maxLen at hc
  go_enter Try.func4, Try.ntmps4
  go_wp2_with (go_at_call 6; refine (awake_true _).mono ?_; rintro e w6 ⟨rfl, hb6⟩)
  go_ret
  exact ⟨rfl, hb6⟩
set_option maxRecDepth 100000 in
set_option maxHeartbeats 8000000 in
theorem sorts_few (base : Nat) (hbb : base < 4294967296) (a : Option Addr) (len cap bl off : Nat) (X : Nat → Nat) (hl : len ≤ 200) (W : World)
    (ha : 0 < len → a = some ⟨bl, off, none⟩) (hlt : len = 0 ∨ bl < W.heap.size) (hX : ∀ i, i < len → W.cell? ⟨bl, off + i, none⟩ = some (.int .u8 (X i : Int))) (hX0 : ∀ i, i < len → X i < 256) :
    Calls Try.prog 4 #[.int .u32 (base : Int), .slice a len cap] W (TruePost W) := by
  go_enter Try.func4, Try.ntmps4
  go_wp2_with fail
  refine (onew_good base 32 hbb (by omega) (by omega) _).mono ?_
  rintro e w1 ⟨b, g1, g2, rfl, hO, hl0, hB0⟩
  have l1 := hl0 b (by simp)
  have l2 := hl0 g1 (by simp)
  have l3 := hl0 g2 (by simp)
  have hO0 := NewO hbb (by omega) (by omega) hO
  clear hO hl0
  go_wp2_with fail
  go_loopw [7, 8] (fun av iv wr => ∃ (k at_ : Nat) (L : BL), k ≤ len ∧ iv = .int .i64 k ∧ av = .int .i64 at_ ∧ at_ ≤ 64 ∧ Good base L ∧ Ord wr b g1 g2 ((base + at_) % 4294967296) 32 L ∧ Below W.heap.size W wr) (fun _ iv _ => len - (intOf iv).toNat)
  case atStart => exact ⟨0, 0, [], Nat.zero_le _, rfl, rfl, Nat.zero_le _, fun p hp => by simp at hp, by rw [show (base + 0) % 4294967296 = base by omega]; exact hO0, hB0⟩
  case round =>
    obtain ⟨k, at_, L, hk, rfl, rfl, hat, hG, hO, hb⟩ := hrel
    by_cases hlk : k < len
    · have hbl : bl < W.heap.size := by omega
      have ha' := ha (by omega)
      subst ha'
      have cX : wr.cell? ⟨bl, off + k, none⟩ = some (.int .u8 (X k : Int)) := kbelow hb hbl (hX k hlk)
      have hXk := hX0 k hlk
      clear hX hX0
      generalize X k = x at *
      have HO := Lib.hid hO
      have HG := Lib.hid hG
      have hm64 : x % 64 < 64 := Nat.mod_lt _ (by omega)
      have HP := Lib.hid (fun w o => oput_any b g1 g2 ((base + at_) % 4294967296) 32 L ((base + x % 64) % 4294967296) (bd (x % 64)) (Nat.mod_lt _ (by omega)) w o)
      have HGP := Lib.hid (hG.put (b := (base + at_) % 4294967296) (win := 32) (x % 64) hm64)
      generalize putK ((base + at_) % 4294967296) 32 L ((base + x % 64) % 4294967296) (bd (x % 64)) = pk at *
      generalize putLx ((base + at_) % 4294967296) 32 L ((base + x % 64) % 4294967296) (bd (x % 64)) = L2 at *
      have hWs := hb.size
      clear hO hG
      have hcv := conv_bd (x % 64) hm64 ((x : Int) % 64) (by omega)
      have e1 : Hid ((((base : Int) + (x : Int) % 64) % 4294967296) = (((base + x % 64) % 4294967296 : Nat) : Int)) := Lib.hid (by omega)
      go_wp2_with fail
      rw [e1.out]
      refine (HP.out _ (HO.out.kept ((Kept.refl [] _).alloc _) (by simp) (by simp) (by simp))).mono ?_
      rintro e w2 ⟨rfl, hO2, hK2⟩
      have hb2 : Below W.heap.size W w2 := hb.trans (Below.trans (b := _) ((Below.refl _ _).alloc (by exact hWs) _) (oact_below hK2 (by simp; omega) l1 l2 l3))
      have HO2 := Lib.hid hO2
      clear hO2 hK2 hcv HP HO HG e1
      go_wp2_with fail
      refine (onext_any b g1 g2 _ 32 L2 2 _ HO2.out).mono ?_
      rintro e w3 ⟨rfl, hO3, hK3⟩
      have hb3 := hb2.trans (oact_below hK3 hb2.size l1 l2 l3)
      have HR : Hid (∃ (a2 : Nat) (ok : Bool) (body : ByteArray) (L3 : BL), a2 + ok.toNat ≤ 64 ∧ a2 = at_ ∧ ok = nextB ((base + at_) % 4294967296) L2 2 ∧ body = nxBody ((base + at_) % 4294967296) L2 2 ∧ Good base L3 ∧ Ord w3 b g1 g2 ((base + (a2 + ok.toNat)) % 4294967296) 32 L3 ∧ (ok = true → body = bd a2)) := Lib.hid (next_rel hat HGP.out hO3)
      obtain ⟨a2, ok, body, L3, r1, r2, r3, r4, r5, r6, r7⟩ := HR.out
      rw [← r3, ← r4]
      subst r2
      clear r3 r4 hO3 hK3 HR HO2 HGP hb hb2 cX
      go_wp2_with fail
      go_loopw [7, 10, 11] (fun av bv ov wr => ∃ (a2 : Nat) (ok : Bool) (body : ByteArray) (L3 : BL), av = .int .i64 (a2 : Int) ∧ bv = .string body ∧ ov = .bool ok ∧ a2 + ok.toNat ≤ 64 ∧ Good base L3 ∧ Ord wr b g1 g2 ((base + (a2 + ok.toNat)) % 4294967296) 32 L3 ∧ (ok = true → body = bd a2) ∧ Below W.heap.size W wr) (fun av _ _ _ => 64 - (intOf av).toNat)
      case atStart => exact ⟨a2, ok, body, L3, rfl, rfl, rfl, r1, r5, r6, r7, hb3⟩
      case round =>
        clear r1 r5 r6 r7 hb3
        obtain ⟨a3, ok, body, L4, rfl, rfl, rfl, r1, r5, r6, r7, hb4⟩ := hrel
        cases ok with
        | false =>
          go_wp2_with fail
          go_roundw
          case rel => exact ⟨k + 1, a3, L4, by omega, by go_num, rfl, by simpa using r1, r5, by simpa using r6, hb4⟩
          case measure => simp [intOf]; omega
        | true =>
          have hbody := r7 rfl
          subst hbody
          simp only [Bool.toNat_true] at r1 r6
          have ha3 : a3 < 64 := by omega
          have z1 := bd_size a3
          have z2 := bd_at a3 ha3
          have HG4 := Lib.hid r5
          have HO4 := Lib.hid r6
          clear r5 r6 r7
          generalize bd a3 = body at *
          go_wp2_with fail
          refine (onext_any b g1 g2 _ 32 L4 2 _ HO4.out).mono ?_
          rintro e w5 ⟨rfl, hO5, hK5⟩
          have hb5 := hb4.trans (oact_below hK5 hb4.size l1 l2 l3)
          have HR : Hid (∃ (a2 : Nat) (ok : Bool) (body : ByteArray) (L3 : BL), a2 + ok.toNat ≤ 64 ∧ a2 = a3 + 1 ∧ ok = nextB ((base + (a3 + 1)) % 4294967296) L4 2 ∧ body = nxBody ((base + (a3 + 1)) % 4294967296) L4 2 ∧ Good base L3 ∧ Ord w5 b g1 g2 ((base + (a2 + ok.toNat)) % 4294967296) 32 L3 ∧ (ok = true → body = bd a2)) := Lib.hid (next_rel r1 HG4.out hO5)
          obtain ⟨a2, ok, body, L3, s1, s2, s3, s4, s5, s6, s7⟩ := HR.out
          rw [← s3, ← s4]
          have S5 := Lib.hid s5
          have S6 := Lib.hid s6
          have S7 := Lib.hid s7
          clear s3 s4 s5 s6 s7 hO5 hK5 HR HO4 HG4
          go_wp2_with fail
          go_roundw
          case rel => exact ⟨a2, ok, body, L3, by rw [s2]; go_num, rfl, rfl, s1, S5.out, S6.out, S7.out, hb5⟩
          case measure => simp [intOf]; omega
    · have hkl : k = len := by omega
      have hlen := hO.len
      have e1 : (((base : Int) + (at_ : Int)) % 4294967296) = (((base + at_) % 4294967296 : Nat) : Int) := by omega
      have e2 : (at_ : Int) % 4294967296 = at_ := by omega
      have hL32 : (L.length : Int) ≤ 32 := by omega
      have hO2 := hO
      clear hG hO hlen
      generalize (base + at_) % 4294967296 = B at *
      have HO := Lib.hid hO2
      clear hO2
      go_wp2_with fail
      refine (obase_is b g1 g2 _ 32 L _ HO.out).mono ?_
      rintro e w' ⟨rfl, rfl⟩
      go_wp2_with fail
      refine (olen_is b g1 g2 _ 32 L _ HO.out).mono ?_
      rintro e w' ⟨rfl, rfl⟩
      go_wp2_with (go_at_call 6; refine (awake_true _).mono ?_; rintro e w6 ⟨rfl, hb6⟩)
      go_ret
      exact ⟨rfl, hb.trans (hb6.mono hb.size)⟩
end Go.Proofs.Ytbfmnnjjhmmljaa
