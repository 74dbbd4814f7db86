/- Slices that are read: cut, and appended to a row of the call's own. No function of the program in sight. -/
import Derived.Test.YtpojophpbggkcaaOwn
import Derived.Laws.AppendOwnNone
import Derived.Deep.RegionLaw
set_option maxRecDepth 20000
namespace Go.Proofs.Ytpojophpbggkcaa
open Go.ChangeShapes Go.WideShapes Go.ChangeAt Go.RowKit
set_option linter.unusedVariables false

/-- the cells of a slice that is read: 'p' is nil only where nothing is there -/
structure Src (w : World) (p : Option Addr) (n cap size : Nat) (xs : List Value) : Prop where
  len : xs.length = n * size
  fits : n ≤ cap
  big : cap ≤ maxLen
  nil : p = none → cap = 0
  spot : ∀ a, p = some a → a.spot = none
  cell : ∀ a, p = some a → ∀ j u, xs[j]? = some u → w.cell? (a.add j) = some u
theorem Src.kept {w w' : World} {p : Option Addr} {n cap size : Nat} {xs : List Value} {r : List Nat} (h : Src w p n cap size xs) (hk : Kept r w w') (hr : ∀ a, p = some a → a.block ∉ r) : Src w' p n cap size xs :=
  ⟨h.len, h.fits, h.big, h.nil, h.spot, fun a ha j u hu => hk.cell (h.cell a ha j u hu) (by
    have : (a.add j).block = a.block := by unfold Addr.add; split <;> rfl
    rw [this]; exact hr a ha)⟩
theorem Src.below {w w' : World} {p : Option Addr} {n cap size : Nat} {xs : List Value} {B : Nat} (h : Src w p n cap size xs) (hb : Below B w w') (hr : ∀ a, p = some a → a.block < B) : Src w' p n cap size xs :=
  ⟨h.len, h.fits, h.big, h.nil, h.spot, fun a ha j u hu => by
    have : (a.add j).block = a.block := by unfold Addr.add; split <;> rfl
    exact kbelow hb (by rw [this]; exact hr a ha) (h.cell a ha j u hu)⟩
theorem Src.of_own {w : World} {base : Nat} {e : TypeId} {size n : Nat} {v : Value} {xs : List Value} (h : w.ownsRow base e size v n xs) : ∃ p cap, v = .slice p n cap ∧ Src w p n cap size xs := by
  have hc := fun g => h.cells (g := g)
  rcases h.2 with ⟨rfl, rfl⟩ | ⟨g, cap, cur, rfl, hb, hg, hnc, hcm, hcs, ht⟩
  · exact ⟨none, 0, rfl, h.1, Nat.le_refl _, Nat.zero_le _, fun _ => rfl, (fun a ha => nomatch ha), (fun a ha => nomatch ha)⟩
  · refine ⟨some ⟨g, 0, none⟩, cap, rfl, h.1, hnc, hcm, (fun h => nomatch h), (fun a ha => by injection ha with ha; subst ha; rfl), fun a ha j u hu => ?_⟩
    injection ha with ha; subst ha
    exact hc g rfl j u hu
theorem Src.empty (w : World) (size : Nat) : Src w none 0 0 size [] := ⟨by simp, Nat.le_refl _, Nat.zero_le _, fun _ => rfl, (fun a ha => nomatch ha), (fun a ha => nomatch ha)⟩
theorem Src.of_pos {w : World} {p : Option Addr} {n cap size : Nat} {xs : List Value} (h : Src w p n cap size xs) (hn : 0 < cap) : ∃ b off, p = some ⟨b, off, none⟩ := by
  cases p with
  | none => have := h.nil rfl; omega
  | some a =>
    obtain ⟨b, off, sp⟩ := a
    have := h.spot _ rfl
    simp at this
    subst this
    exact ⟨b, off, rfl⟩
theorem Src.at_ {w : World} {b off n cap size : Nat} {xs : List Value} (h : Src w (some ⟨b, off, none⟩) n cap size xs) (j : Nat) (u : Value) (hu : xs[j]? = some u) : w.cell? ⟨b, off + j, none⟩ = some u := by
  have := h.cell _ rfl j u hu
  rwa [add_plain] at this
theorem Src.lt {w : World} {b off n cap size : Nat} {xs : List Value} (h : Src w (some ⟨b, off, none⟩) n cap size xs) (hn : 0 < n) (hs : 0 < size) : b < w.heap.size := by
  have h1 : 0 < xs.length := by rw [h.len]; exact Nat.mul_pos hn hs
  have := h.at_ 0 (xs[0]) (List.getElem?_eq_getElem h1)
  exact World.block_lt_of_cell? _ _ this
/-- the first k elements -/
theorem Src.head {w : World} {p : Option Addr} {n cap size : Nat} {xs : List Value} (h : Src w p n cap size xs) (k : Nat) (hk : k ≤ n) : Src w p k cap size (xs.take (k * size)) :=
  ⟨by rw [List.length_take, h.len]; exact Nat.min_eq_left (Nat.mul_le_mul_right _ hk), Nat.le_trans hk h.fits, h.big, h.nil, h.spot, fun a ha j u hu => h.cell a ha j u (by
    rw [List.getElem?_take] at hu
    split at hu
    · exact hu
    · cases hu)⟩
/-- all but the first k elements -/
theorem Src.tail {w : World} {b off n cap size : Nat} {xs : List Value} (h : Src w (some ⟨b, off, none⟩) n cap size xs) (k : Nat) (hk : k ≤ n) (ao : Option Addr) (hao : ao = if cap = k then some ⟨b, off, none⟩ else some ⟨b, off + k * size, none⟩) : Src w ao (n - k) (cap - k) size (xs.drop (k * size)) := by
  have hl : (xs.drop (k * size)).length = (n - k) * size := by rw [List.length_drop, h.len, Nat.sub_mul]
  refine ⟨hl, by have := h.fits; omega, by have := h.big; omega, fun h0 => ?_, fun a ha => ?_, fun a ha j u hu => ?_⟩
  · rw [hao] at h0; split at h0 <;> cases h0
  · rw [hao] at ha
    split at ha
    · injection ha with ha; subst ha; rfl
    · injection ha with ha; subst ha; rfl
  · have hj : j < (xs.drop (k * size)).length := (List.getElem?_eq_some_iff.1 hu).1
    rw [hl] at hj
    have hnk : n - k ≠ 0 := by intro e; rw [e, Nat.zero_mul] at hj; omega
    rw [hao, if_neg (by have := h.fits; omega)] at ha
    injection ha with ha; subst ha
    rw [List.getElem?_drop] at hu
    rw [add_plain, Nat.add_assoc]
    exact h.at_ _ _ hu

/-- 'x[k:]': the walk takes the equation, the address stays a letter -/
theorem Src.cut {w : World} {b off n cap size : Nat} {xs : List Value} (h : Src w (some ⟨b, off, none⟩) n cap size xs) (T : TypeId) (ht : Try.prog.underlying T = some (.slice (Try.prog.elem T))) (hs : ∀ w, (sizeOf (Try.prog.elem T)).run Try.prog w = .ok size w) (k : Nat) (hk : k ≤ n) (i : Int) (hi : i = (k : Int)) :
    ∃ ao, (∀ w2, (Instr.slice T (.slice (some ⟨b, off, none⟩) n cap) (some (.int .i64 i)) none none).run Try.prog w2 = .ok (.slice ao (n - k) (cap - k)) w2) ∧ Src w ao (n - k) (cap - k) size (xs.drop (k * size)) ∧ ∀ a, ao = some a → a.block = b := by
  subst hi
  refine ⟨if cap = k then some ⟨b, off, none⟩ else some ⟨b, off + k * size, none⟩, fun w2 => ?_, h.tail k hk _ rfl, fun a ha => ?_⟩
  · rw [run_slice_l w2 T _ n cap ht .i64 k (by omega) (by omega), hs, Result.andThen_ok, sliced]
    simp only [Int.toNat_natCast, Option.map_some, add_plain]
  · split at ha <;> (injection ha with ha; subst ha; rfl)
/-- 'x[:k]' and 'x[k:]' of whatever is read -/
theorem Src.cuts {w : World} {p : Option Addr} {n cap size : Nat} {xs : List Value} (h : Src w p n cap size xs) (T : TypeId) (ht : Try.prog.underlying T = some (.slice (Try.prog.elem T))) (hs : ∀ w, (sizeOf (Try.prog.elem T)).run Try.prog w = .ok size w) (k : Nat) (hk : k ≤ n) :
    (∀ w2, (Instr.slice T (.slice p n cap) none (some (.int .i64 (k : Int))) none).run Try.prog w2 = .ok (.slice p k cap) w2) ∧
    ∃ ao, (∀ w2, (Instr.slice T (.slice p n cap) (some (.int .i64 (k : Int))) none none).run Try.prog w2 = .ok (.slice ao (n - k) (cap - k)) w2) ∧ Src w ao (n - k) (cap - k) size (xs.drop (k * size)) ∧ ∀ a, ao = some a → ∃ a', p = some a' ∧ a.block = a'.block := by
  have hf := h.fits
  refine ⟨fun w2 => ?_, ?_⟩
  · rw [run_slice_h w2 T p n cap ht .i64 k (by omega) (by omega), hs, Result.andThen_ok, sliced]
    have e : (if cap = 0 then p else p.map fun x => x.add (0 * size)) = p := by
      split
      · rfl
      · cases p with
        | none => rfl
        | some a => simp [Addr.add]
    rw [e]
    simp only [Int.toNat_natCast, Nat.sub_zero]
  · cases p with
    | none =>
      have hc := h.nil rfl
      obtain rfl : k = 0 := by omega
      have hn : n = 0 := by omega
      subst hc hn
      refine ⟨none, fun w2 => ?_, ?_, fun a ha => by cases ha⟩
      · rw [run_slice_l w2 T none 0 0 ht .i64 _ (by omega) (by omega), hs, Result.andThen_ok, sliced]
        simp
      · simpa using h
    | some a =>
      obtain ⟨b, off, sp⟩ := a
      have hsp := h.spot _ rfl
      simp at hsp
      subst hsp
      obtain ⟨ao, h1, h2, h3⟩ := h.cut T ht hs k hk (k : Int) rfl
      exact ⟨ao, h1, h2, fun a ha => ⟨_, rfl, h3 a ha⟩⟩
section
variable {P : Program} (w : World)
/-- append of whatever is read -/
theorem run_append_src (base : Nat) (t ty : TypeId) (e : TypeId) (i : TypeInfo) (z : Value) (size bytes : Nat) (ht : P.underlying t = some (.slice e)) (hi : P.info? e = some i) (hz : i.zero = some z)
    (hsize : i.size = size) (hby : i.bytes = bytes) (hzs : z.cells.size = size) (hsz : 0 < size)
    (v : Value) (n : Nat) (xs : List Value) (hown : w.ownsRow base e size v n xs)
    (ao : Option Addr) (m c : Nat) (news : List Value) (hsrc : Src w ao m c size news) (h1 : ∀ u ∈ news, u.oneCell' = true)
    (h63 : n + m ≤ maxLen) (hbytes : (n + m) * bytes ≤ 140737488355328) (hbase : base ≤ w.heap.size) :
    ∃ v' w', (Builtin.append_ #[t, t] ty #[v, .slice ao m c]).run P w = .ok v' w' ∧ w'.ownsRow base e size v' (n + m) (xs ++ news) ∧ w.grownBy w' v.ownBlock ∧ (v'.ownBlock = v.ownBlock ∨ v'.ownBlock = some w.heap.size) := by
  cases ao with
  | none =>
    have hc := hsrc.nil rfl
    have hm : m = 0 := by have := hsrc.fits; omega
    subst hc hm
    have hnil : news = [] := List.eq_nil_of_length_eq_zero (by rw [hsrc.len, Nat.zero_mul])
    subst hnil
    refine ⟨v, w, run_append_owned_none (P := P) w base t ty e i size ht hi v n xs hown, by simpa using hown, World.grownBy.refl _ _, .inl rfl⟩
  | some ad =>
    obtain ⟨v', w', hr, h2, h3, _, h5⟩ := run_append_own_at (P := P) w base t ty e i z size bytes ht hi hz hsize hby hzs hsz v n xs hown ad m c news hsrc.len (hsrc.cell _ rfl) h1 h63 hbytes hbase
    exact ⟨v', w', hr, h2, h3, h5⟩
theorem wpList_append_src {ops : Array Oper} {rest : List Oper} {o : Oper} {a : Act} {Q : Exit → Act → World → Prop} (hgd : o.guard = none) (s x : Operand) (t : TypeId)
    (ho : o.op = .call { callee := .builtin .append, args := #[s, x], argTypes := #[t, t] })
    (base : Nat) (e : TypeId) (i : TypeInfo) (z : Value) (size bytes : Nat) (ht : P.underlying t = some (.slice e)) (hi : P.info? e = some i) (hz : i.zero = some z)
    (hsize : i.size = size) (hby : i.bytes = bytes) (hzs : z.cells.size = size) (hsz : 0 < size)
    (v : Value) (n : Nat) (xs : List Value) (hs : a.eval s = v) (hown : w.ownsRow base e size v n xs)
    (ao : Option Addr) (m c : Nat) (hx : a.eval x = .slice ao m c) (news : List Value) (hsrc : Src w ao m c size news) (h1 : ∀ u ∈ news, u.oneCell' = true)
    (h63 : n + m ≤ maxLen) (hbytes : (n + m) * bytes ≤ 140737488355328) (hbase : base ≤ w.heap.size)
    (h : ∀ v' w', w'.ownsRow base e size v' (n + m) (xs ++ news) → w.grownBy w' v.ownBlock → (v'.ownBlock = v.ownBlock ∨ v'.ownBlock = some w.heap.size) → wpList P ops Q rest (a.put o.dst v') w') :
    wpList P ops Q (o :: rest) a w := by
  refine wpList_plain hgd fun K hK => ?_
  obtain ⟨v', w', hr, h2, h3, h5⟩ := run_append_src (P := P) w base t o.type e i z size bytes ht hi hz hsize hby hzs hsz v n xs hown ao m c news hsrc h1 h63 hbytes hbase
  unfold Oper.wp execOp
  simp only [ho, resolve, invoke, builtin, Sem.run_bind, Sem.run_pure, Result.andThen_ok, List.map_toArray, List.map_cons, List.map_nil, hs, hx, hr]
  exact hK _ _ (h v' w' h2 h3 h5)
end
theorem own_less {w : World} {base : Nat} {e : TypeId} {g n cap size : Nat} {xs : List Value} (h : w.ownsRow base e size (.slice (some ⟨g, 0, none⟩) n cap) n xs) (m : Nat) (hm : m ≤ n) : w.ownsRow base e size (.slice (some ⟨g, 0, none⟩) m cap) m (xs.take (m * size)) := by
  refine ⟨by rw [List.length_take, h.1]; exact Nat.min_eq_left (Nat.mul_le_mul_right _ hm), ?_⟩
  rcases h.2 with ⟨h0, _⟩ | ⟨g', cap', cur, hv, hb, hg, hnc, hcm, hcs, ht⟩
  · cases h0
  · injection hv with h1 _ h3
    injection h1 with h1; injection h1 with h1
    subst h1 h3
    exact .inr ⟨g, cap, cur, rfl, hb, hg, by omega, hcm, hcs, by rw [← ht, List.take_take, Nat.min_eq_left (Nat.mul_le_mul_right _ hm)]⟩
theorem own_cap {w : World} {base : Nat} {e : TypeId} {g n cap size : Nat} {xs : List Value} (h : w.ownsRow base e size (.slice (some ⟨g, 0, none⟩) n cap) n xs) : n ≤ cap ∧ cap ≤ maxLen := by
  rcases h.2 with ⟨h0, _⟩ | ⟨g', cap', cur, hv, hb, hg, hnc, hcm, hcs, ht⟩
  · cases h0
  · injection hv with h1 _ h3
    subst h3
    exact ⟨hnc, hcm⟩
end Go.Proofs.Ytpojophpbggkcaa
