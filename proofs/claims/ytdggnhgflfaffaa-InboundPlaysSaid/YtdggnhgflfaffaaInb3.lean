/- inbound: Put, ahead, Fin. -/
import Derived.Test.YtdggnhgflfaffaaInb2
namespace Go.Proofs.Ytdggnhgflfaffaa
set_option maxRecDepth 20000
open Go.ChangeShapes Go.WideShapes Go.ChangeAt Go.RowKit
set_option linter.unusedVariables false

theorem InAt.ordered {w w' : World} {b ob g1 g2 rb rg win que : Nat} {C : Nat → Int} {x : Ist} {bd base' : Nat} {L' : BL} (h : InAt w b ob g1 g2 rb rg win que C x bd) (o : Ord w' ob g1 g2 base' win L') (hk : Kept [ob, g1, g2] w w') :
    InAt w' b ob g1 g2 rb rg win que C { x with base := base', L := L' } bd := by
  have n := h.ne
  exact ⟨h.blk.kept hk (by simp; omega), o, h.ring.kept hk (by simp; omega) (by simp; omega), h.hwin, h.hque, h.ne⟩
theorem InAt.setbd {w : World} {b ob g1 g2 rb rg win que : Nat} {C : Nat → Int} {x : Ist} {bd : Nat} (h : InAt w b ob g1 g2 rb rg win que C x bd) (bd' : Nat) : InAt (w.setCell ⟨b, 17, none⟩ (.int .i64 (bd' : Int))) b ob g1 g2 rb rg win que C x bd' := by
  have n := h.ne
  have hk : Kept [b] w (w.setCell ⟨b, 17, none⟩ (.int .i64 (bd' : Int))) := (Kept.refl _ _).set _ (.inl (by simp)) _
  have h2 := h.blk.set 17 (.int .i64 (bd' : Int))
  have e : (inC C ob rb x bd).setIfInBounds 17 (.int .i64 (bd' : Int)) = inC C ob rb x bd' := by unfold inC; simp
  rw [e] at h2
  exact ⟨h2, h.ord.kept hk (by simp; omega) (by simp; omega) (by simp; omega), h.ring.kept hk (by simp; omega) (by simp; omega), h.hwin, h.hque, h.ne⟩
def iputK (x : Ist) (win block : Nat) (body : ByteArray) : Int := if (behB x block && !lessB (block : Int) (x.base : Int)) = true then 1 else putK x.base win x.L block body
def iputX (x : Ist) (win block : Nat) (body : ByteArray) : Ist := if iputK x win block body = 3 then { x with L := x.L ++ [(block, body)], S := x.S ++ [block] } else x
theorem putK_key {base win : Nat} {L : BL} {x : Nat} {body : ByteArray} (h : putK base win L x body = 3) : keyIn base win x = true := by
  unfold putK at h
  cases hk : keyIn base win x with
  | true => rfl
  | false =>
    rw [hk] at h
    split at h
    · omega
    · simp at h
set_option maxHeartbeats 4000000 in
theorem iput (b : Nat) (R : List Nat) (win que k : Nat) (C : Nat → Int) (x : Ist) (block : Nat) (body : ByteArray) (hx : block < 4294967296) (hbody : body.size ≤ 1000) (hf : Fine x win que k) (w : World) (h : In w b R win que C x) :
    Calls Try.prog 23 #[.pointer (some ⟨b, 0, none⟩), .int .u32 (block : Int), .string body] w (IAct w b R win que C (iputX x win block body) (.int .i64 (iputK x win block body))) := by
  have HI := Lib.hid h
  have HBH := Lib.hid (ibehind b R win que C x _ block hx hf.fin w h)
  have hmx : mx x.S < 2147483648 := by have := hf.small; have := hf.w2; exact mx_le (fun y hy => by have := hf.seen y hy; omega) (by omega)
  obtain ⟨ob, g1, g2, rb, rg, rfl, h⟩ := h
  obtain ⟨c3, c11, c12, c13, c14, c15, c16, c17⟩ := h.cells
  have HA := Lib.hid h
  have HB := Lib.hid (obase_is ob g1 g2 x.base win x.L w h.ord)
  have hbase : x.base ≤ 1000 := by have := hf.base; have := hf.small; omega
  have HLS := Lib.hid (fun w => serialLess (block : Int) (x.base : Int) (by omega) (by omega) (by omega) (by omega) w)
  have HP := Lib.hid (oput_any ob g1 g2 x.base win x.L block body hx w h.ord)
  have HF := Lib.hid hf
  unfold iputX
  clear h c3 c12 c13 c14 c15 c16 c17 hf
  cases h1 : behB x block with
  | true =>
    rw [h1] at HBH
    cases h2 : lessB (block : Int) (x.base : Int) with
    | false =>
      have e : iputK x win block body = 1 := by unfold iputK; rw [h1, h2]; rfl
      rw [e, if_neg (by decide)]
      rw [h2] at HLS
      have HS := Lib.hid (IAct.same (e := .returned (.int .i64 1)) HI.out ⟨rfl, 0, rfl⟩)
      clear h1 h2 e HP
      generalize x.base = base at *
      go_enter Try.func23, Try.ntmps23
      go_wp2_with fail
      refine HBH.out.mono ?_
      rintro e w1 ⟨rfl, rfl⟩
      go_wp2_with fail
      refine HB.out.mono ?_
      rintro e w1 ⟨rfl, rfl⟩
      go_wp2_with fail
      refine (HLS.out _).mono ?_
      rintro e w1 ⟨rfl, rfl⟩
      go_wp2_with fail
      go_ret
      exact HS.out
    | true =>
      have e0 : putK x.base win x.L block body = 0 := by unfold putK; rw [if_pos h2]
      have e : iputK x win block body = 0 := by unfold iputK; rw [h1, h2, e0]; rfl
      have e3 : putLx x.base win x.L block body = x.L := by unfold putLx; rw [if_neg (by rw [e0]; decide)]
      rw [e, if_neg (by decide)]
      rw [h2] at HLS
      rw [e0, e3] at HP
      clear h1 h2 e e0 e3
      obtain ⟨base, hb⟩ : ∃ n, n = x.base := ⟨_, rfl⟩
      rw [← hb] at HB HLS HP hbase
      have HBE := Lib.hid hb
      clear hb
      go_enter Try.func23, Try.ntmps23
      go_wp2_with fail
      refine HBH.out.mono ?_
      rintro e w1 ⟨rfl, rfl⟩
      go_wp2_with fail
      refine HB.out.mono ?_
      rintro e w1 ⟨rfl, rfl⟩
      go_wp2_with fail
      refine (HLS.out _).mono ?_
      rintro e w1 ⟨rfl, rfl⟩
      go_wp2_with fail
      refine HP.out.mono ?_
      rintro e w2 ⟨rfl, ho, hk⟩
      have HO := Lib.hid ho
      have HK := Lib.hid hk
      clear ho hk HP
      go_wp2_with fail
      go_ret
      refine ⟨rfl, _, ⟨ob, g1, g2, rb, rg, rfl, ?_⟩, HK.out.mono (fun y hy => .inl (by simp at hy ⊢; omega)), fun y hy => .inl hy⟩
      have := HA.out.ordered HO.out HK.out
      rw [HBE.out] at this
      exact this
  | false =>
    rw [h1] at HBH
    have e : iputK x win block body = putK x.base win x.L block body := by unfold iputK; rw [h1]; rfl
    rw [e]
    by_cases h3 : putK x.base win x.L block body = 3
    · rw [h3, if_pos rfl]
      have hkey := putK_key h3
      have hsm := key_small hbase HF.out.w2 hx hkey
      have hw2 := HF.out.w2
      have hbs : block < 2147483648 := by omega
      have hbl := HF.out.bl
      have e3 : putLx x.base win x.L block body = x.L ++ [(block, body)] := by unfold putLx; rw [if_pos h3]
      rw [h3, e3] at HP
      have HN := Lib.hid (fun w' R' (x' : Ist) (hs : x'.S = x.S) hi => inote b R' win que C x' (bodyLen x.L) block hbs (by rw [hs]; exact hmx) w' hi)
      clear h1 h3 e e3 hkey
      obtain ⟨bd, hbd⟩ : ∃ n, n = bodyLen x.L := ⟨_, rfl⟩
      rw [← hbd] at HN HA hbl
      have HBD := Lib.hid hbd
      clear hbd hmx HB HLS hsm
      obtain ⟨sz, hsz⟩ : ∃ n, n = body.size := ⟨_, rfl⟩
      have HSZ := Lib.hid hsz
      have hwr : IntKind.i64.wrap ((bd : Int) + (body.size : Int)) = (bd : Int) + (body.size : Int) := IntWalk.i64_in _ (by omega)
      go_enter Try.func23, Try.ntmps23
      go_wp2_with fail
      refine HBH.out.mono ?_
      rintro e w1 ⟨rfl, rfl⟩
      go_wp2_with fail
      refine HP.out.mono ?_
      rintro e w2 ⟨rfl, ho, hk⟩
      have HA2 := Lib.hid (HA.out.ordered ho hk)
      have HK := Lib.hid hk
      clear ho hk HP
      go_wp2_with fail
      refine (HN.out w2 [b, ob, g1, g2, rb, rg] { x with base := x.base, L := x.L ++ [(block, body)] } rfl ⟨ob, g1, g2, rb, rg, rfl, HA2.out⟩).mono ?_
      rintro e w3 ⟨rfl, R3, ⟨ob3, g13, g23, rb3, rg3, rfl, h3⟩, hk3, hr3⟩
      have HA3 := Lib.hid h3
      have HK3 := Lib.hid (HK.out.mono (r' := [b, ob, g1, g2, rb, rg]) (fun y hy => .inl (by simp at hy ⊢; omega)) |>.trans hk3 (fun y hy => .inl hy))
      have hr3' : ∀ y ∈ [b, ob3, g13, g23, rb3, rg3], y ∈ [b, ob, g1, g2, rb, rg] ∨ w.heap.size ≤ y := fun y hy => (hr3 y hy).imp id (fun h => Nat.le_trans HK.out.size h)
      have HR3 := Lib.hid hr3'
      have f17 := h3.blk.free 17
      have hb3 := h3.blk.lt
      have c17 : w3.cell? ⟨b, 17, none⟩ = some (.int .i64 (bd : Int)) := h3.blk.cell 17
      clear h3 hk3 hr3 hr3' HN HA2 HA HK
      go_wp2_with fail
      go_ret
      have hset := HA3.out.setbd (bd + body.size)
      push_cast at hset
      refine ⟨rfl, _, ⟨ob3, g13, g23, rb3, rg3, rfl, ?_⟩, HK3.out.set _ (.inl (by simp)) _, HR3.out⟩
      have e9 : bodyLen (x.L ++ [(block, body)]) = bd + body.size := by rw [bodyLen_app, HBD.out]
      show InAt _ b ob3 g13 g23 rb3 rg3 win que C _ (bodyLen (x.L ++ [(block, body)]))
      rw [e9]
      exact hset
    · rw [if_neg h3]
      have e3 : putLx x.base win x.L block body = x.L := by unfold putLx; rw [if_neg h3]
      rw [e3] at HP
      have b0 : (putK x.base win x.L block body == 3) = false := by rw [beq_eq_false_iff_ne]; exact h3
      generalize putK x.base win x.L block body = kk at *
      clear h1 e e3 HB HLS
      go_enter Try.func23, Try.ntmps23
      go_wp2_with fail
      refine HBH.out.mono ?_
      rintro e w1 ⟨rfl, rfl⟩
      go_wp2_with fail
      refine HP.out.mono ?_
      rintro e w2 ⟨rfl, ho, hk⟩
      have HO := Lib.hid ho
      have HK := Lib.hid hk
      clear ho hk HP
      go_wp2_with fail
      go_ret
      exact ⟨rfl, _, ⟨ob, g1, g2, rb, rg, rfl, HA.out.ordered HO.out HK.out⟩, HK.out.mono (fun y hy => .inl (by simp at hy ⊢; omega)), fun y hy => .inl hy⟩
end Go.Proofs.Ytdggnhgflfaffaa
