/- Contracts of package bitio: the writer. -/
import Derived.Test.YtgkbmpphodabnaaOwn
import Derived.Test.YtgkbmpphodabnaaRowF
import Derived.Outline
import Derived.Handy
import Derived.BigRegion
import Derived.BigQuiet
import Derived.Deep.QuietTactic
import Derived.IntWalk
namespace Go.Proofs.Ytgkbmpphodabnaa
open Go.ChangeShapes Go.WideShapes Go.ChangeAt Go.RowKit
set_option linter.unusedVariables false

/-- byte j of the first n bits -/
def byteOf (L : List Bool) (j : Nat) : Nat → Nat
  | 0 => 0
  | n + 1 => if n / 8 = j ∧ L.getD n false = true then byteOf L j n ||| 2 ^ (7 - n % 8) else byteOf L j n
theorem byteOf_lt (L : List Bool) (j n : Nat) : byteOf L j n < 256 := by
  induction n with
  | zero => simp [byteOf]
  | succ n ih =>
    rw [byteOf]
    split
    · have : 2 ^ (7 - n % 8) < 2 ^ 8 := Nat.pow_lt_pow_right (by omega) (by omega)
      exact Nat.or_lt_two_pow (n := 8) ih this
    · exact ih
theorem byteOf_app (L M : List Bool) (j n : Nat) (h : n ≤ L.length) : byteOf (L ++ M) j n = byteOf L j n := by
  induction n with
  | zero => rfl
  | succ n ih =>
    have e : (L ++ M).getD n false = L.getD n false := by
      simp only [List.getD]
      rw [List.getElem?_append_left (by omega)]
    rw [byteOf, byteOf, ih (by omega), e]
theorem byteOf_high (L : List Bool) (j n : Nat) (h : n ≤ 8 * j) : byteOf L j n = 0 := by
  induction n with
  | zero => rfl
  | succ n ih =>
    rw [byteOf, if_neg (by intro h2; have := h2.1; omega)]
    exact ih (by omega)
/-- the bytes of bits -/
def bytesL (L : List Bool) : List UInt8 := (List.range ((L.length + 7) / 8)).map fun j => UInt8.ofNat (byteOf L j L.length)
theorem bytesL_len (L : List Bool) : (bytesL L).length = (L.length + 7) / 8 := by simp [bytesL]
theorem byteOf_snoc (L : List Bool) (x : Bool) (j : Nat) : byteOf (L ++ [x]) j (L.length + 1) = if L.length / 8 = j ∧ x = true then byteOf L j L.length ||| 2 ^ (7 - L.length % 8) else byteOf L j L.length := by
  rw [byteOf, byteOf_app _ _ _ _ (Nat.le_refl _)]
  have e : (L ++ [x]).getD L.length false = x := by simp [List.getD]
  rw [e]

def bitI (x : Bool) : Int := if x then 1 else 0
/-- the byte that a bit more turns -/
def nb (L : List Bool) (x : Bool) : Nat := if x = true then byteOf L (L.length / 8) L.length ||| 2 ^ (7 - L.length % 8) else byteOf L (L.length / 8) L.length
theorem nb_lt (L : List Bool) (x : Bool) : nb L x < 256 := by
  unfold nb
  split
  · have : 2 ^ (7 - L.length % 8) < 2 ^ 8 := Nat.pow_lt_pow_right (by omega) (by omega)
    exact Nat.or_lt_two_pow (n := 8) (byteOf_lt _ _ _) this
  · exact byteOf_lt _ _ _
theorem bytesL_at (L : List Bool) (j : Nat) (h : j < (bytesL L).length) : (bytesL L)[j] = UInt8.ofNat (byteOf L j L.length) := by simp [bytesL]
theorem byte_ne (L : List Bool) (x : Bool) (j : Nat) (h : L.length / 8 ≠ j) : byteOf (L ++ [x]) j (L ++ [x]).length = byteOf L j L.length := by
  rw [List.length_append, List.length_singleton, byteOf_snoc, if_neg (fun h2 => h h2.1)]
theorem byte_eq (L : List Bool) (x : Bool) : byteOf (L ++ [x]) (L.length / 8) (L ++ [x]).length = nb L x := by
  rw [List.length_append, List.length_singleton, byteOf_snoc, nb]
  cases x <;> simp
theorem bytesL_snoc (L : List Bool) (x : Bool) (h : L.length % 8 ≠ 0) : bytesL (L ++ [x]) = (bytesL L).set (L.length / 8) (UInt8.ofNat (nb L x)) := by
  apply List.ext_getElem
  · rw [List.length_set, bytesL_len, bytesL_len, List.length_append, List.length_singleton]; omega
  · intro j h1 h2
    rw [bytesL_at, List.getElem_set]
    split
    · rename_i e; subst e; rw [byte_eq]
    · rename_i e; rw [byte_ne L x j e, bytesL_at]
theorem bytesL_snoc0 (L : List Bool) (x : Bool) (h : L.length % 8 = 0) : bytesL (L ++ [x]) = (bytesL L ++ [0]).set (L.length / 8) (UInt8.ofNat (nb L x)) := by
  apply List.ext_getElem
  · rw [List.length_set, List.length_append, bytesL_len, bytesL_len, List.length_append, List.length_singleton, List.length_singleton]; omega
  · intro j h1 h2
    rw [bytesL_at, List.getElem_set]
    split
    · rename_i e; subst e; rw [byte_eq]
    · rename_i e
      rw [bytesL_len, List.length_append, List.length_singleton] at h1
      rw [byte_ne L x j e, List.getElem_append_left (by rw [bytesL_len]; omega), bytesL_at]
theorem bv_set (l : List UInt8) (j : Nat) (b : UInt8) : bv (l.set j b) = (bv l).set j (.int .u8 (b.toNat : Int)) := by simp [bv, List.map_set]
theorem or_val (y : Nat) (L : List Bool) (x : Bool) (hy : y = byteOf L (L.length / 8) L.length) : (Value.int .u8 (bits .or .u8 (y : Int) (bitI x * 2 ^ (7 - L.length % 8) % 256))) = .int .u8 ((UInt8.ofNat (nb L x)).toNat : Int) := by
  have h1 : (UInt8.ofNat (nb L x)).toNat = nb L x := by simp only [UInt8.toNat_ofNat']; exact Nat.mod_eq_of_lt (nb_lt L x)
  have hy2 : y < 256 := by rw [hy]; exact byteOf_lt _ _ _
  rw [h1]
  congr 1
  have hp : 2 ^ (7 - L.length % 8) < 256 := by
    have : 2 ^ (7 - L.length % 8) < 2 ^ 8 := Nat.pow_lt_pow_right (by omega) (by omega)
    exact this
  cases x with
  | false =>
    have e : bitI false * 2 ^ (7 - L.length % 8) % 256 = ((0 : Nat) : Int) := by simp [bitI]
    rw [e, u8_or_nat y 0 hy2 (by omega)]
    simp [nb, hy]
  | true =>
    have e : bitI true * 2 ^ (7 - L.length % 8) % 256 = ((2 ^ (7 - L.length % 8) : Nat) : Int) := by
      have : bitI true * 2 ^ (7 - L.length % 8) = ((2 ^ (7 - L.length % 8) : Nat) : Int) := by simp [bitI]
      rw [this]
      generalize 2 ^ (7 - L.length % 8) = q at *
      omega
    rw [e, u8_or_nat y _ hy2 hp]
    simp [nb, hy]
/-- a writer in block b: its bits L, its row v -/
def IsW (w : World) (b : Nat) (v : Value) (L : List Bool) : Prop :=
  Blk w b #[v, .int .i64 (L.length : Int)] 46 ∧ w.ownsRow (b + 1) 5 1 v (bytesL L).length (bv (bytesL L)) ∧ L.length ≤ 1048576
theorem IsW.form {w : World} {b : Nat} {v : Value} {L : List Bool} (h : IsW w b v L) : ∃ (p : Option Addr) (cap : Nat), v = .slice p (bytesL L).length cap := by
  rcases h.2.1.2 with ⟨h1, h2⟩ | ⟨g, cap, cur, h1, _⟩
  · exact ⟨none, 0, by rw [h1, h2]⟩
  · exact ⟨_, _, h1⟩
def OnePost (W : World) (b : Nat) (v : Value) (L : List Bool) (e : Ending) (w' : World) : Prop :=
  e = .returned (.tuple #[]) ∧ ∃ v', IsW w' b v' L ∧ Kept (b :: rowOf v) W w' ∧ ∀ x ∈ rowOf v', x ∈ rowOf v ∨ W.heap.size ≤ x
set_option maxRecDepth 100000 in
set_option maxHeartbeats 2000000 in
theorem one_any (b : Nat) (v : Value) (L : List Bool) (x : Bool) (w : World) (h : IsW w b v L) (hn : L.length < 1048576) :
    Calls Try.prog 18 #[.pointer (some ⟨b, 0, none⟩), .int .u8 (bitI x)] w (OnePost w b v (L ++ [x])) := by
  obtain ⟨i0, hi, hz0, hz1, hz2⟩ := info_parts u8_info
  obtain ⟨p, cap, hv⟩ := h.form
  obtain ⟨hB, hown, hle⟩ := h
  have c0 := hB.cell 0
  have c1 := hB.cell 1
  have f0 := hB.free 0
  have f1 := hB.free 1
  simp at c0 c1
  subst hv
  by_cases hm : L.length % 8 = 0
  · have hmI : ((L.length : Int) % 8 == 0) = true := by simp; omega
    have HM := Lib.hid hm
    clear hm
    go_enter Try.func18, Try.ntmps18
    go_wp2_with (at_builtin; refine wpList_append_own_at _ rfl _ _ 44 rfl (b + 1) 5 i0 (.int .u8 0) 1 1 Try.underlying44 hi hz0 hz1 hz2 rfl (by decide) _ _ _ rfl (hown.alloc _) ⟨w.heap.size, 0, none⟩ 1 1 [.int .u8 0] rfl rfl ?c1 ?c2 ?c3 ?c4 ?c5 ?_)
    case c1 =>
      intro j u hj
      match j, hj with
      | 0, hj => simp at hj; subst hj; simp [Addr.add]
    case c2 => intro u hu; simp at hu; subst hu; rfl
    case c3 => rw [bytesL_len]; unfold maxLen; omega
    case c4 => rw [bytesL_len]; omega
    case c5 => have := hB.lt; simp; omega
    intro v' w1 hown' hg _ hat
    have hB1 : Blk w1 b #[.slice p (bytesL L).length cap, .int .i64 (L.length : Int)] 46 := Blk.grown (Blk.alloc hB _) hg (by intro e; have := hown.lt b e.symm; omega)
    obtain ⟨g, cap', hv, hge, hgl⟩ := hown'.form (by omega)
    subst hv
    have hj : L.length / 8 = (bytesL L).length := by rw [bytesL_len]; have := HM.out; omega
    have cj : w1.cell? ⟨g, L.length / 8, none⟩ = some (.int .u8 0) := by rw [hown'.cellAt _ (by omega), hj, List.getElem?_append_right (by rw [bv_len]; exact Nat.le_refl _), bv_len, Nat.sub_self]; rfl
    have fj := hown'.frozenAt (L.length / 8)
    have d0 := hB1.cell 0
    have d1 := hB1.cell 1
    have e0 := hB1.free 0
    have e1 := hB1.free 1
    simp at d0 d1
    have hne : g ≠ b := by omega
    have hne2 : b ≠ g := by omega
    have hx1 : 0 ≤ bitI x := by unfold bitI; split <;> omega
    have hx2 : bitI x ≤ 1 := by unfold bitI; split <;> omega
    have q1 : (0 : Int) ≤ (L.length : Int) / 8 := by omega
    have q2 : (L.length : Int) / 8 < ((bytesL L).length + 1 : Nat) := by omega
    have hK : Kept (b :: rowOf (.slice p (bytesL L).length cap)) w w1 := ((Kept.refl _ _).alloc _).grown hg (fun x hx => .inl (List.mem_cons_of_mem _ (mem_rowOf hx)))
    have hnew : g ∈ rowOf (.slice p (bytesL L).length cap) ∨ w.heap.size ≤ g := by
      have := rowOf_new hat g (by simp [rowOf, Value.ownBlock])
      rcases this with h | h
      · exact .inl h
      · right; first | omega | (simp at h; omega)
    have HJ := Lib.hid hj
    clear hj c0 c1 f0 f1 hg hat hB
    go_wp2
    go_region
    go_wp2
    go_returns
    refine ⟨rfl, .slice (some ⟨g, 0, none⟩) ((bytesL L).length + 1) cap', ⟨?_, ?_, ?_⟩, ?_, ?_⟩
    · have h1 := ((hB1.set 0 (.slice (some ⟨g, 0, none⟩) ((bytesL L).length + 1) cap')).other ⟨g, L.length / 8, none⟩ hne2 (Value.int IntKind.u8 (bits BinOp.or IntKind.u8 0 (bitI x * 2 ^ (7 - L.length % 8) % 256)))).set 1 (.int .i64 ((L.length : Int) + 1))
      have e : ((#[Value.slice p (bytesL L).length cap, .int .i64 (L.length : Int)].setIfInBounds 0 (.slice (some ⟨g, 0, none⟩) ((bytesL L).length + 1) cap')).setIfInBounds 1 (.int .i64 ((L.length : Int) + 1))) = #[Value.slice (some ⟨g, 0, none⟩) ((bytesL L).length + 1) cap', .int .i64 ((L ++ [x]).length : Int)] := by simp
      rw [e] at h1
      exact h1
    · have HLEN : (bytesL (L ++ [x])).length = (bytesL L).length + 1 := by rw [bytesL_snoc0 L x HM.out, List.length_set]; simp
      have ho := or_val 0 L x (by rw [byteOf_high]; have := HM.out; omega)
      rw [HLEN, bytesL_snoc0 L x HM.out, bv_set, bv_app, ← ho]
      have h0 := own_kept (r := [b]) hown' ((Kept.refl [b] _).set ⟨b, 0, none⟩ (.inl (by simp)) (.slice (some ⟨g, 0, none⟩) ((bytesL L).length + 1) cap')) (fun z hz => by have := (own_lt hown' z hz).1; simp; omega)
      have h1 := (h0.stored (L.length / 8) (Value.int IntKind.u8 (bits BinOp.or IntKind.u8 0 (bitI x * 2 ^ (7 - L.length % 8) % 256)))).1
      exact own_kept (r := [b]) h1 ((Kept.refl [b] _).set ⟨b, 1, none⟩ (.inl (by simp)) _).drew (fun z hz => by have := (own_lt hown' z hz).1; simp; omega)
    · simp; omega
    · have hgm : g ∈ b :: rowOf (.slice p (bytesL L).length cap) ∨ w.heap.size ≤ g := by rcases hnew with h | h; exact .inl (List.mem_cons_of_mem _ h); exact .inr h
      exact (((hK.set _ (.inl (by simp)) _).set _ hgm _).set _ (.inl (by simp)) _).drew
    · intro z hz
      simp [rowOf, Value.ownBlock] at hz
      subst hz
      exact hnew
  · have hmI : ((L.length : Int) % 8 == 0) = false := by simp; omega
    have HM := Lib.hid hm
    clear hm
    go_enter Try.func18, Try.ntmps18
    have hpos : 0 < (bytesL L).length := by rw [bytesL_len]; have := HM.out; omega
    obtain ⟨g, cap', hv, hge, hgl⟩ := hown.form hpos
    obtain ⟨rfl, rfl⟩ : p = some ⟨g, 0, none⟩ ∧ cap = cap' := by injection hv with e1 _ e2; exact ⟨e1, e2⟩
    clear hv
    have hj : L.length / 8 < (bytesL L).length := by rw [bytesL_len]; have := HM.out; omega
    have cj : w.cell? ⟨g, L.length / 8, none⟩ = some (.int .u8 ((bytesL L)[L.length / 8].toNat : Int)) := by rw [hown.cellAt _ (by omega)]; exact bv_at _ _ hj
    have fj := hown.frozenAt (L.length / 8)
    have hbl : (bytesL L)[L.length / 8].toNat < 256 := UInt8.toNat_lt _
    have HY := Lib.hid (show (bytesL L)[L.length / 8].toNat = byteOf L (L.length / 8) L.length by rw [bytesL_at]; simp only [UInt8.toNat_ofNat']; exact Nat.mod_eq_of_lt (byteOf_lt _ _ _))
    generalize (bytesL L)[L.length / 8].toNat = y at *
    have hx1 : 0 ≤ bitI x := by unfold bitI; split <;> omega
    have hx2 : bitI x ≤ 1 := by unfold bitI; split <;> omega
    have q1 : (0 : Int) ≤ (L.length : Int) / 8 := by omega
    have q2 : (L.length : Int) / 8 < ((bytesL L).length : Int) := by omega
    go_wp2
    go_region
    go_wp2
    go_returns
    have HLEN : (bytesL (L ++ [x])).length = (bytesL L).length := by rw [bytesL_snoc L x HM.out, List.length_set]
    refine ⟨rfl, .slice (some ⟨g, 0, none⟩) (bytesL L).length cap, ⟨?_, ?_, ?_⟩, ?_, ?_⟩
    · have h1 := ((Blk.other hB ⟨g, L.length / 8, none⟩ (by simp; omega) (Value.int IntKind.u8 (bits BinOp.or IntKind.u8 (↑y) (bitI x * 2 ^ (7 - L.length % 8) % 256)))).set 1 (.int .i64 ((L.length : Int) + 1)))
      have e : (#[Value.slice (some ⟨g, 0, none⟩) (bytesL L).length cap, .int .i64 (L.length : Int)].setIfInBounds 1 (.int .i64 ((L.length : Int) + 1))) = #[Value.slice (some ⟨g, 0, none⟩) (bytesL L).length cap, .int .i64 ((L ++ [x]).length : Int)] := by simp
      rw [e] at h1
      exact h1
    · rw [HLEN, bytesL_snoc L x HM.out, bv_set, ← or_val y L x HY.out]
      have h1 := (hown.stored (L.length / 8) (Value.int IntKind.u8 (bits BinOp.or IntKind.u8 (↑y) (bitI x * 2 ^ (7 - L.length % 8) % 256)))).1
      exact own_kept (r := [b]) h1 ((Kept.refl [b] _).set ⟨b, 1, none⟩ (.inl (by simp)) _).drew (fun z hz => by have := (own_lt hown z hz).1; simp; omega)
    · simp; omega
    · exact (((Kept.refl _ _).set _ (.inl (by simp [rowOf, Value.ownBlock])) _).set _ (.inl (by simp)) _).drew
    · exact fun z hz => .inl hz
end Go.Proofs.Ytgkbmpphodabnaa
