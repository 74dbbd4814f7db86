/- The walk of BitioBack. -/
import Derived.Test.YtgkbmpphodabnaaBitio8
namespace Go.Proofs.Ytgkbmpphodabnaa
open Go.ChangeShapes Go.WideShapes Go.ChangeAt Go.RowKit
set_option linter.unusedVariables false

theorem isw_kept {w w' : World} {b : Nat} {v : Value} {L : List Bool} {r : List Nat} (h : IsW w b v L) (hk : Kept r w w') (h1 : b ∉ r) (h2 : ∀ x ∈ rowOf v, x ∉ r) : IsW w' b v L :=
  ⟨h.1.kept hk h1, own_kept h.2.1 hk h2, h.2.2⟩
theorem kept_row {w w' : World} {v : Value} (h : w.grownBy w' v.ownBlock) : Kept (rowOf v) w w' :=
  (Kept.refl _ _).grown h (fun x hx => .inl (mem_rowOf hx))
theorem bitsP_le (P : List (Nat × Nat)) (h : GoodP P) : (bitsP P).length ≤ P.length * 64 := by
  induction P with
  | nil => simp [bitsP]
  | cons x P ih =>
    have h1 := h x (by simp)
    have h2 := ih (fun y hy => h y (by simp [hy]))
    simp only [bitsP, List.length_append, bitsOf_len, List.length_cons]
    omega
set_option maxRecDepth 100000 in
set_option maxHeartbeats 4000000 in
theorem back_few (a : Option Addr) (len cap bl off : Nat) (N B : Nat → Int) (hl : len ≤ 40) (W : World)
    (ha : 0 < len → a = some ⟨bl, off, none⟩) (hlt : len = 0 ∨ bl < W.heap.size) (hN : ∀ i, i < len → W.cell? ⟨bl, off + i * 2, none⟩ = some (.int .u64 (N i))) (hB : ∀ i, i < len → W.cell? ⟨bl, off + i * 2 + 1, none⟩ = some (.int .i64 (B i)))
    (hN0 : ∀ i, i < len → ∃ n : Nat, N i = (n : Int) ∧ n < 2 ^ 64) :
    Calls Try.prog 5 #[.slice a len cap] W (TruePost W) := by
  obtain ⟨i0, hi, hz0, hz1, hz2⟩ := info_parts part_info
  go_enter Try.func5, Try.ntmps5
  go_wp2_with (go_at_call 7; refine (new_any _).mono ?_; rintro e w1 ⟨rfl, hW1, hB1⟩)
  go_loopw [4, 5] (fun vi iv wr => ∃ (k : Nat) (v : Value) (P : List (Nat × Nat)), k ≤ len ∧ iv = .int .i64 k ∧ GoodP P ∧ P.length ≤ k ∧ IsW wr W.heap.size v (bitsP P) ∧ wr.ownsRow (W.heap.size + 1) 29 2 vi P.length (pv P) ∧ Below W.heap.size W wr) (fun _ iv _ => len - (intOf iv).toNat)
  case atStart => exact ⟨0, _, [], Nat.zero_le _, rfl, (fun x hx => by cases hx), Nat.zero_le _, hW1, World.ownsRow_nil _ _ _ _, hB1⟩
  case round =>
    obtain ⟨k, v, P, hk, rfl, hG, hPk, hW, hown, hb⟩ := hrel
    have hPl := bitsP_le P hG
    by_cases hlk : k < len
    · have hbl : bl < W.heap.size := by omega
      have ha' := ha (by omega)
      subst ha'
      have hcN : wr.cell? ⟨bl, off + k * 2, none⟩ = some (.int .u64 (N k)) := by rw [(bcell hb).1 _ _ hbl]; exact hN k hlk
      have hcB : wr.cell? ⟨bl, off + k * 2 + 1, none⟩ = some (.int .i64 (B k)) := by rw [(bcell hb).1 _ _ hbl]; exact hB k hlk
      obtain ⟨n, hn, hn64⟩ := hN0 k hlk
      rw [hn] at hcN
      have HW := Lib.hid hW
      clear hW hn
      by_cases h1 : B k < 1
      ·
        go_wp2_with fail
        go_region_held3 (fun w' => w'.cell? ⟨bl, off + k * 2, none⟩ = some (.int .u64 ((n : Int))) ∧ w'.cell? ⟨bl, off + k * 2 + 1, none⟩ = some (.int .i64 (B k))) (first | exact ⟨hcN, hcB⟩ | exact ⟨kbelow hbk hbl hcN, kbelow hbk hbl hcB⟩) ((go_at_call 10; (refine (put_arg _ _ _ _ (.inl h1)).mono ?_; rintro e w2 ⟨rfl, rfl⟩; have hbk := Below.refl W.heap.size wr)))
        go_wp2_with fail
        go_roundw
        case rel => exact ⟨k + 1, v, P, by omega, by go_num, hG, by omega, (by exact HW.out), (by exact hown.drew), (by exact hb.drew)⟩
        case measure => simp [intOf]; omega
      · by_cases h2 : 64 < B k
        ·
          go_wp2_with fail
          go_region_held3 (fun w' => w'.cell? ⟨bl, off + k * 2, none⟩ = some (.int .u64 ((n : Int))) ∧ w'.cell? ⟨bl, off + k * 2 + 1, none⟩ = some (.int .i64 (B k))) (first | exact ⟨hcN, hcB⟩ | exact ⟨kbelow hbk hbl hcN, kbelow hbk hbl hcB⟩) ((go_at_call 10; (refine (put_arg _ _ _ _ (.inr h2)).mono ?_; rintro e w2 ⟨rfl, rfl⟩; have hbk := Below.refl W.heap.size wr)))
          go_wp2_with fail
          go_roundw
          case rel => exact ⟨k + 1, v, P, by omega, by go_num, hG, by omega, (by exact HW.out), (by exact hown.drew), (by exact hb.drew)⟩
          case measure => simp [intOf]; omega
        · obtain ⟨kb, hkb⟩ : ∃ kb : Nat, B k = (kb : Int) := ⟨(B k).toNat, by omega⟩
          rw [hkb] at hcB h1 h2
          have hg2 : W.heap.size < wr.heap.size := HW.out.1.lt
          clear hkb
          by_cases hf : n < 2 ^ kb
          · have HF := Lib.hid hf
            have hdis := own_disjoint hown HW.out.2.1 (by decide)
            have hlo := own_lt hown
            have HD := Lib.hid hdis
            clear hf hdis
            go_wp2_with fail
            go_region_held3 (fun w' => w'.cell? ⟨bl, off + k * 2, none⟩ = some (.int .u64 ((n : Int))) ∧ w'.cell? ⟨bl, off + k * 2 + 1, none⟩ = some (.int .i64 ((kb : Int)))) (first | exact ⟨hcN, hcB⟩ | exact ⟨kbelow hbk hbl hcN, kbelow hbk hbl hcB⟩) ((go_at_call 10; (refine (put_good _ v (bitsP P) n kb _ (by exact HW.out) (by omega) (by omega) (by omega) HF.out).mono ?_; rintro e w5 ⟨rfl, v5, hW5, hK5, hr5⟩; have hbk := kept_below (B := W.heap.size) (by exact HW.out) hK5 (Nat.le_refl _) (by exact hb.size))))
            have hb5 : Below W.heap.size W w5 := Below.trans (b := _) (by exact hb.drew) hbk
            have hown5 : w5.ownsRow (W.heap.size + 1) 29 2 u4 P.length (pv P) := own_kept (w := _) (by exact hown) hK5 (fun x hx hm => by rcases List.mem_cons.1 hm with h3 | h3; have := (hlo x hx).1; omega; exact HD.out x hx h3)
            have hcN5 := kbelow hbk hbl hcN
            have hcB5 := kbelow hbk hbl hcB
            have HW5 := Lib.hid hW5
            clear hcN hcB hK5 hr5 hW5 hown hlo HD hbk
            go_wp2_with (at_builtin; refine wpList_append_own _ rfl _ _ 22 rfl (W.heap.size + 1) 29 i0 _ 2 16 Try.underlying22 hi hz0 hz1 hz2 rfl (by decide) _ _ _ rfl (hown5.alloc _) ⟨w5.heap.size, 0, none⟩ 1 1 [.int .u64 (n : Int), .int .i64 (kb : Int)] rfl rfl ?c1 ?c2 ?c3 ?c4 ?c5 ?_)
            case c1 =>
              intro j u hj
              match j, hj with
              | 0, hj => simp at hj; subst hj; simp [Addr.add]
              | 1, hj => simp at hj; subst hj; simp [Addr.add]
            case c2 => intro u hu; simp at hu; rcases hu with rfl | rfl <;> rfl
            case c3 => unfold maxLen; omega
            case c4 => omega
            case c5 => have := hb5.size; have := HW5.out.1.lt; simp; omega
            intro v6 w6 hown6 hg6 _
            have hdis := own_disjoint HW5.out.2.1 hown5 (by decide)
            have hlo := own_lt hown5
            have hW6 : IsW w6 W.heap.size v5 (bitsP P ++ bitsOf n kb) := by
              have h7 : IsW (w5.alloc _) W.heap.size v5 (bitsP P ++ bitsOf n kb) := isw_kept (r := []) HW5.out ((Kept.refl [] _).alloc (.cells #[.int .u64 (n : Int), .int .i64 (kb : Int)] 29)) (by simp) (by simp)
              exact isw_kept h7 (kept_row hg6) (fun hm => by have := (hlo _ hm).1; omega) hdis
            have hb6 : Below W.heap.size W w6 := (hb5.alloc hb5.size _).grown hg6 (by have := hb5.size; simp; omega) (fun x hx => by have := (hlo x (mem_rowOf hx)).1; omega)
            clear hdis hlo hcN5 hcB5
            go_wp2_with fail
            go_roundw
            case rel =>
              refine ⟨k + 1, v5, P ++ [(n, kb)], by omega, by go_num, ?_, by simp; omega, ?_, ?_, (by exact hb6)⟩
              · intro x hx
                rcases List.mem_append.1 hx with h3 | h3
                · exact hG x h3
                · simp at h3; subst h3; exact ⟨by omega, by omega, HF.out⟩
              · rw [bitsP_app]; simpa [bitsP] using hW6
              · rw [pv_app, List.length_append]; exact hown6
            case measure => simp [intOf]; omega
          · have hkb64 : kb < 64 := by
              rcases Nat.lt_or_ge kb 64 with h | h
              · exact h
              · have : kb = 64 := by omega
                subst this; exact absurd hn64 hf
            have HF := Lib.hid hf
            clear hf
            go_wp2_with fail
            go_region_held3 (fun w' => w'.cell? ⟨bl, off + k * 2, none⟩ = some (.int .u64 ((n : Int))) ∧ w'.cell? ⟨bl, off + k * 2 + 1, none⟩ = some (.int .i64 ((kb : Int)))) (first | exact ⟨hcN, hcB⟩ | exact ⟨kbelow hbk hbl hcN, kbelow hbk hbl hcB⟩) ((go_at_call 10; (refine (put_range _ n kb _ (by omega) hkb64 (by have := HF.out; omega)).mono ?_; rintro e w2 ⟨rfl, rfl⟩; have hbk := Below.refl W.heap.size wr)))
            go_wp2_with fail
            go_roundw
            case rel => exact ⟨k + 1, v, P, by omega, by go_num, hG, by omega, (by exact HW.out), (by exact hown.drew), (by exact hb.drew)⟩
            case measure => simp [intOf]; omega
    · have hkl : k = len := by omega
      have HW := Lib.hid hW
      clear hW
      have hts : (ofL (bytesL (bitsP P))).size = ((bitsP P).length + 7) / 8 := by rw [ofL_size, bytesL_len]
      have hread : ∀ i (h : i < P.length), numOf (ofL (bytesL (bitsP P))) (bitsP (P.take i)).length P[i].2 = P[i].1 ∧ (bitsP (P.take i)).length + P[i].2 = (bitsP (P.take (i + 1))).length ∧ (bitsP (P.take (i + 1))).length ≤ (bitsP P).length := by
        intro i h
        refine ⟨?_, (take_len P i h).symm, ?_⟩
        · have h3 := num_whole (bitsP (P.take i)) (bitsP (P.drop (i + 1))) P[i].1 P[i].2 (hG _ (List.getElem_mem h)).2.2
          rw [← split_at P i h] at h3
          exact h3
        · have h4 := congrArg List.length (split_at P i h)
          rw [List.length_append, List.length_append, bitsOf_len] at h4
          rw [take_len P i h]; omega
      have HREAD := Lib.hid hread
      clear hread
      go_wp2_with (go_at_call 12; refine (bytes_any _ _ _ _ HW.out).mono ?_; rintro e w' ⟨rfl, rfl⟩)
      generalize ofL (bytesL (bitsP P)) = t at *
      go_wp2_with (go_at_call 14; refine (from_any t (by omega) _).mono ?_; rintro e w7 ⟨rfl, hR7, hB7⟩)
      have hlo := own_lt hown
      have hown7 : w7.ownsRow (W.heap.size + 1) 29 2 u4 P.length (pv P) := own_kept hown (Kept.of_below hB7 []) (by simp)
      have hb7 : Below W.heap.size W w7 := hb.trans (hB7.mono hb.size)
      have HLO := Lib.hid hlo
      have hgw : W.heap.size ≤ wr.heap.size := hb.size
      clear hown hlo
      obtain ⟨pi, ci, hvi⟩ : ∃ (pi : Option Addr) (ci : Nat), u4 = .slice pi P.length ci := by
        rcases hown7.2 with ⟨h3, h4⟩ | ⟨g, cap, cur, h3, _⟩
        · exact ⟨none, 0, by rw [h3, h4]⟩
        · exact ⟨_, _, h3⟩
      subst hvi
      obtain ⟨wo, hwo⟩ : ∃ wo : World, wo = wr := ⟨_, rfl⟩
      subst hwo
      go_loopw [7] (fun iv wr => ∃ i : Nat, i ≤ P.length ∧ iv = .int .i64 i ∧ IsR wr wo.heap.size t (bitsP (P.take i)).length ∧ wr.ownsRow (W.heap.size + 1) 29 2 (.slice pi P.length ci) P.length (pv P) ∧ Below W.heap.size W wr) (fun iv _ => P.length - (intOf iv).toNat)
      case atStart => exact ⟨0, Nat.zero_le _, rfl, hR7, hown7, hb7⟩
      case round =>
        obtain ⟨i, hi2, rfl, hR, hown, hbr⟩ := hrel
        by_cases hip : i < P.length
        · obtain ⟨g', cap', hv, hge, hgl⟩ := hown.form (by omega)
          obtain ⟨rfl, rfl⟩ : pi = some ⟨g', 0, none⟩ ∧ ci = cap' := by injection hv with e1 _ e2; exact ⟨e1, e2⟩
          clear hv
          obtain ⟨e1, e2⟩ := pv_at P i hip
          have c0 : wr.cell? ⟨g', i * 2, none⟩ = some (.int .u64 (P[i].1 : Int)) := by rw [hown.cellAt _ (by omega)]; exact e1
          have c1 : wr.cell? ⟨g', i * 2 + 1, none⟩ = some (.int .i64 (P[i].2 : Int)) := by rw [hown.cellAt _ (by omega)]; exact e2
          obtain ⟨r1, r2, r3⟩ := HREAD.out i hip
          obtain ⟨q1, q2, q3⟩ := hG _ (List.getElem_mem hip)
          have hgx : g' ≠ wo.heap.size := by
            have := (HLO.out g' (by simp [rowOf, Value.ownBlock])).2
            omega
          have HR := Lib.hid hR
          have R1 := Lib.hid r1
          have R2 := Lib.hid r2
          clear e1 e2 hR r1 r2 q3
          generalize P[i].1 = n at *
          generalize P[i].2 = kb at *
          go_wp2_with fail
          refine (num_lit _ t _ (kb : Int) kb n _ rfl _ HR.out (by omega) (by omega) (by have := R2.out; omega) R1.out R2.out).mono ?_
          rintro e w8 ⟨rfl, hR8, hG8⟩
          have hbr8 := hbr.trans (below_g hG8 hgw (by exact hbr.size))
          have hk8 : Kept [wo.heap.size] wr w8 := ⟨hG8.os, hG8.tape, hG8.output, hG8.size, fun k hk hne => hG8.block k hk (by simpa using hne)⟩
          have hown8 : w8.ownsRow (W.heap.size + 1) 29 2 (.slice (some ⟨g', 0, none⟩) P.length ci) P.length (pv P) := own_kept hown hk8 (fun x hx => by simp [rowOf, Value.ownBlock] at hx; subst hx; simpa using hgx)
          have d0 : w8.cell? ⟨g', i * 2, none⟩ = some (.int .u64 (n : Int)) := hk8.cell c0 (by simpa using hgx)
          have HR8 := Lib.hid hR8
          clear hR8 hk8 c0 c1 hG8
          go_wp2_with fail
          go_roundw
          case rel => exact ⟨i + 1, by omega, by go_num, HR8.out, hown8, hbr8⟩
          case measure => simp [intOf]; omega
        · have hie : i = P.length := by omega
          have HR := Lib.hid hR
          have hlen : (bitsP (P.take i)).length = (bitsP P).length := by rw [hie, List.take_of_length_le (Nat.le_refl _)]
          clear hR
          have hlt8 : decide (8 * (t.size : Int) - ((bitsP (P.take i)).length : Int) < 8) = true := by rw [decide_eq_true_eq, hlen]; omega
          clear hlen
          go_wp2_with (go_at_call 15; refine (num_nil _ _).mono ?_; rintro e w' ⟨rfl, rfl⟩)
          refine (left_any _ t _ _ HR.out).mono ?_
          rintro e w9 ⟨rfl, n9, rfl⟩
          go_wp2_with (first | (go_at_call 15; refine (num_nil _ _).mono ?_; rintro e w' ⟨rfl, rfl⟩) | (go_at_call 10; refine (put_nil _ _ _).mono ?_; rintro e w' ⟨rfl, rfl⟩) | (go_at_call 12; refine (bytes_nil _).mono ?_; rintro e w' ⟨rfl, rfl⟩) | (go_at_call 11; refine (wlen_nil _).mono ?_; rintro e w' ⟨rfl, rfl⟩))
          refine (left_nil _).mono ?_
          rintro e w9 ⟨rfl, n10, rfl⟩
          go_wp2_with (go_at_call 6; refine (awake_true _).mono ?_; rintro e w6 ⟨rfl, hb6⟩)
          go_ret
          exact ⟨rfl, Below.trans (b := _) (by first | exact bdrewN (bdrewN hbr _) _ | exact bdrewN hbr _) (hb6.mono (by exact hbr.size))⟩
theorem back_many (a : Option Addr) (len cap : Nat) (hc : cap ≤ maxLen) (hlc : len ≤ cap) (c1 : 40 < len) (W : World) :
    Calls Try.prog 5 #[.slice a len cap] W (TruePost W) := by
  unfold maxLen at hc
  go_enter Try.func5, Try.ntmps5
  go_wp2_with (go_at_call 6; refine (awake_true _).mono ?_; rintro e w6 ⟨rfl, hb6⟩)
  go_ret
  exact ⟨rfl, hb6⟩
end Go.Proofs.Ytgkbmpphodabnaa
