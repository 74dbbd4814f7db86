/- Orders and the document's, each by one contract a function. -/
import Derived.Test.YtdggnhgflfaffaaOrder3
import Derived.Test.YtdggnhgflfaffaaOrderRef3
set_option maxRecDepth 20000
namespace Go.Proofs.Ytdggnhgflfaffaa
open Go.ChangeShapes Go.WideShapes Go.ChangeAt Go.RowKit
set_option linter.unusedVariables false

def putK (base win : Nat) (L : BL) (x : Nat) (body : ByteArray) : Int := if lessB x base then 0 else if keyIn base win x = false then 1 else if hasR L x then 2 else if body.size = 0 then 4 else 3
def putLx (base win : Nat) (L : BL) (x : Nat) (body : ByteArray) : BL := if putK base win L x body = 3 then L ++ [(x, body)] else L
theorem Sim.hasR {base win : Nat} {f : Nat → ByteArray} {h : Nat → Bool} {L : BL} (s : Sim base win f h L) (x : Nat) (hx : x < 4294967296) (hk : keyIn base win x = true) : h (x % 64) = hasR L x := by
  have h1 := s.has x hx hk
  unfold Proofs.Ytdggnhgflfaffaa.hasR
  rw [Bool.eq_iff_iff, decide_eq_true_iff, ix_lt]
  exact h1
theorem Sim.hasB {base win : Nat} {f : Nat → ByteArray} {h : Nat → Bool} {L : BL} (s : Sim base win f h L) (x : Nat) (hx : x < 4294967296) : hasB base win x h = Proofs.Ytdggnhgflfaffaa.hasR L x := by
  unfold Proofs.Ytdggnhgflfaffaa.hasB
  cases hk : keyIn base win x with
  | true => rw [s.hasR x hx hk]; rfl
  | false =>
    symm
    unfold Proofs.Ytdggnhgflfaffaa.hasR
    rw [Bool.false_and, decide_eq_false_iff_not, ix_lt]
    intro hm
    obtain ⟨p, hp, rfl⟩ := List.mem_map.1 hm
    rw [s.inw p hp] at hk; cases hk
theorem less_key {base win x : Nat} (h : lessB x base = true) : keyIn base win x = false := by
  cases hk : keyIn base win x with
  | false => rfl
  | true =>
    rw [key_iff] at hk
    unfold lessB at h
    rw [decide_eq_true_iff] at h
    unfold ahead at h hk
    omega
/-- an order that holds L -/
structure Ord (w : World) (b g1 g2 base win : Nat) (L : BL) : Prop where
  ex : ∃ f h, Sim base win f h L ∧ OrdAt w b g1 g2 base win L.length f h
theorem Ord.kept {w w' : World} {b g1 g2 base win : Nat} {L : BL} {r : List Nat} (o : Ord w b g1 g2 base win L) (hk : Kept r w w') (h1 : b ∉ r) (h2 : g1 ∉ r) (h3 : g2 ∉ r) : Ord w' b g1 g2 base win L := by
  obtain ⟨f, h, s, a⟩ := o.ex
  exact ⟨f, h, s, a.kept hk h1 h2 h3⟩
theorem Ord.drewN {w : World} {b g1 g2 base win : Nat} {L : BL} (o : Ord w b g1 g2 base win L) (k : Nat) : Ord (w.drewN k) b g1 g2 base win L := o.kept ((Kept.refl [] w).drewN k) (by simp) (by simp) (by simp)
theorem Ord.lt {w : World} {b g1 g2 base win : Nat} {L : BL} (o : Ord w b g1 g2 base win L) : b < w.heap.size ∧ g1 < w.heap.size ∧ g2 < w.heap.size := by
  obtain ⟨f, h, s, a⟩ := o.ex
  exact a.lt
theorem Ord.len {w : World} {b g1 g2 base win : Nat} {L : BL} (o : Ord w b g1 g2 base win L) : L.length ≤ win ∧ win ≤ 64 ∧ base < 4294967296 ∧ 1 ≤ win := by
  obtain ⟨f, h, s, a⟩ := o.ex
  exact ⟨s.len, s.w2, s.bb, s.w1⟩
def OActPost (W : World) (b g1 g2 base win : Nat) (L : BL) (r : Value) (e : Ending) (w' : World) : Prop := e = .returned r ∧ Ord w' b g1 g2 base win L ∧ Kept [b, g1, g2] W w'
theorem OActPost.same {W : World} {b g1 g2 base win : Nat} {L : BL} {r : Value} {e : Ending} {w' : World} (h : SameD W r e w') (o : Ord W b g1 g2 base win L) : OActPost W b g1 g2 base win L r e w' := by
  obtain ⟨h1, q, h2⟩ := h
  subst h2
  exact ⟨h1, o.drewN q, (Kept.refl _ _).drewN q⟩
theorem NewO {w' : World} {b g1 g2 base win : Nat} (hb : base < 4294967296) (h1 : 1 ≤ win) (h2 : win ≤ 64) (o : OrdAt w' b g1 g2 base win 0 (fun _ => ⟨#[]⟩) (fun _ => false)) : Ord w' b g1 g2 base win [] := ⟨_, _, Sim.empty base win hb h1 h2 _, o⟩
theorem oput_any (b g1 g2 base win : Nat) (L : BL) (x : Nat) (body : ByteArray) (hx : x < 4294967296) (w : World) (o : Ord w b g1 g2 base win L) :
    Calls Try.prog 47 #[.pointer (some ⟨b, 0, none⟩), .int .u32 (x : Int), .string body] w (OActPost w b g1 g2 base win (putLx base win L x body) (.int .i64 (putK base win L x body))) := by
  obtain ⟨f, h, s, a⟩ := o.ex
  have hlen := s.len
  have hw2 := s.w2
  unfold putLx
  by_cases k1 : lessB x base = true
  · have e : putK base win L x body = 0 := by unfold putK; rw [if_pos k1]
    rw [e, if_neg (by decide)]
    exact (oput_less b g1 g2 base win L.length f h x body hx k1 w a).mono fun e w' hp => OActPost.same hp o
  · rw [Bool.not_eq_true] at k1
    cases k2 : keyIn base win x with
    | false =>
      have e : putK base win L x body = 1 := by unfold putK; rw [if_neg (by simp [k1]), if_pos k2]
      rw [e, if_neg (by decide)]
      exact (oput_far b g1 g2 base win L.length f h x body hx k1 k2 w a).mono fun e w' hp => OActPost.same hp o
    | true =>
      have hh := s.hasR x hx k2
      cases k3 : h (x % 64) with
      | true =>
        rw [k3] at hh
        have e : putK base win L x body = 2 := by unfold putK; rw [if_neg (by simp [k1]), if_neg (by simp [k2]), if_pos hh.symm]
        rw [e, if_neg (by decide)]
        exact (oput_twice b g1 g2 base win L.length f h x body hx k1 k2 k3 w a).mono fun e w' hp => OActPost.same hp o
      | false =>
        rw [k3] at hh
        by_cases k4 : body.size = 0
        · have e : putK base win L x body = 4 := by unfold putK; rw [if_neg (by simp [k1]), if_neg (by simp [k2]), if_neg (by simp [← hh]), if_pos k4]
          rw [e, if_neg (by decide)]
          obtain rfl := oempty_str body k4
          exact (oput_blank b g1 g2 base win L.length f h x hx k1 k2 k3 w a).mono fun e w' hp => OActPost.same hp o
        · have e : putK base win L x body = 3 := by unfold putK; rw [if_neg (by simp [k1]), if_neg (by simp [k2]), if_neg (by simp [← hh]), if_neg k4]
          rw [e, if_pos rfl]
          have s2 := s.put x body hx k2 k3
          have hl2 := s2.len
          rw [List.length_append] at hl2
          simp at hl2
          refine (oput_fresh b g1 g2 base win L.length f h x body hx (by omega) k1 k2 k3 k4 w a).mono fun e w' hp => ?_
          obtain ⟨h1, h2, h3⟩ := hp
          exact ⟨h1, ⟨_, _, s2, by rw [List.length_append]; exact h2⟩, h3⟩
theorem ohas_is (b g1 g2 base win : Nat) (L : BL) (x : Nat) (hx : x < 4294967296) (w : World) (o : Ord w b g1 g2 base win L) :
    Calls Try.prog 39 #[.pointer (some ⟨b, 0, none⟩), .int .u32 (x : Int)] w (SameD w (.bool (hasR L x))) := by
  obtain ⟨f, h, s, a⟩ := o.ex
  exact ohas_any b g1 g2 base win L.length f h x hx _ (s.hasB x hx).symm w a
theorem obase_is (b g1 g2 base win : Nat) (L : BL) (w : World) (o : Ord w b g1 g2 base win L) : Calls Try.prog 36 #[.pointer (some ⟨b, 0, none⟩)] w fun e w' => e = .returned (.int .u32 (base : Int)) ∧ w = w' := by
  obtain ⟨f, h, s, a⟩ := o.ex
  exact obase_any b g1 g2 base win L.length f h w a
/-- what Next gives: the base, the list, the body, whether -/
def bodyAt (L : BL) (i : Nat) : ByteArray := (L.getD i (0, ⟨#[]⟩)).2
theorem bodyAt_get (L : BL) (i : Nat) (h : i < L.length) : bodyAt L i = (L[i]).2 := by simp [bodyAt, List.getD, h]
def nextB (base : Nat) (L : BL) (room : Int) : Bool := decide (ix L base < L.length ∧ ((bodyAt L (ix L base)).size : Int) ≤ room)
def nxBase (base : Nat) (L : BL) (room : Int) : Nat := if nextB base L room then (base + 1) % 4294967296 else base
def nxL (base : Nat) (L : BL) (room : Int) : BL := if nextB base L room then L.eraseIdx (ix L base) else L
def nxBody (base : Nat) (L : BL) (room : Int) : ByteArray := if nextB base L room then bodyAt L (ix L base) else ⟨#[]⟩
theorem onext_any (b g1 g2 base win : Nat) (L : BL) (room : Int) (w : World) (o : Ord w b g1 g2 base win L) :
    Calls Try.prog 50 #[.pointer (some ⟨b, 0, none⟩), .int .i64 room] w (OActPost w b g1 g2 (nxBase base L room) win (nxL base L room) (.tuple #[.string (nxBody base L room), .bool (nextB base L room)])) := by
  obtain ⟨f, h, s, a⟩ := o.ex
  have hbb := s.bb
  have hB := s.hasB base s.bb
  unfold nxBase nxL nxBody
  cases hn : nextB base L room with
  | false =>
    simp only [Bool.false_eq_true, if_false]
    unfold nextB at hn
    rw [decide_eq_false_iff_not] at hn
    by_cases hl : ix L base < L.length
    · have hr : hasR L base = true := decide_eq_true hl
      have hat := s.fwd _ (List.getElem_mem hl)
      rw [ix_at hl] at hat
      rw [bodyAt_get _ _ hl, ← hat.2] at hn
      refine (onext_big b g1 g2 base win L.length f h room (by rw [hB]; exact hr) (by omega) w a).mono fun e w' hp => OActPost.same hp o
    · have hr : hasR L base = false := decide_eq_false hl
      exact (onext_none b g1 g2 base win L.length f h room (by rw [hB]; exact hr) w a).mono fun e w' hp => OActPost.same hp o
  | true =>
    simp only [if_true]
    unfold nextB at hn
    rw [decide_eq_true_iff] at hn
    have hl := hn.1
    have hr : hasR L base = true := decide_eq_true hl
    have hat := s.fwd _ (List.getElem_mem hl)
    rw [ix_at hl] at hat
    have hsz := hn.2
    rw [bodyAt_get _ _ hl] at hsz
    rw [bodyAt_get _ _ hl, ← hat.2]
    rw [← hat.2] at hsz
    refine (onext_some b g1 g2 base win L.length f h room (by rw [hB]; exact hr) hsz (by omega) w a).mono fun e w' hp => ?_
    obtain ⟨h1, h2, h3⟩ := hp
    exact ⟨h1, ⟨_, _, s.slide _ hl (ix_at hl), by rw [List.length_eraseIdx, if_pos hl]; exact h2⟩, h3⟩
/-- the list of the document's, owned -/
def RActPost (W : World) (base win : Nat) (p : Option Addr) (cap : Nat) (L L' : BL) (r : Value → Value) (e : Ending) (w' : World) : Prop :=
  ∃ p' cap', e = .returned (r (.agg #[.int .u32 (base : Int), .int .i64 (win : Int), .slice p' L'.length cap'])) ∧ Below W.heap.size W w' ∧ (p' = p ∧ cap' = cap ∧ L' = L ∨ w'.ownsRow W.heap.size 83 2 (.slice p' L'.length cap') L'.length (xl L'))
theorem RActPost.own {W : World} {base win : Nat} {p : Option Addr} {cap : Nat} {L L' : BL} {r : Value → Value} {e : Ending} {w' : World} {v' : Value} (h1 : e = .returned (r (.agg #[.int .u32 (base : Int), .int .i64 (win : Int), v']))) (h2 : w'.ownsRow W.heap.size 83 2 v' L'.length (xl L')) (h3 : Below W.heap.size W w') : RActPost W base win p cap L L' r e w' := by
  obtain ⟨p', cap', rfl, _⟩ := RO.of_own h2
  exact ⟨p', cap', h1, h3, .inr h2⟩
theorem rput_any (base win : Nat) (p : Option Addr) (cap : Nat) (L : BL) (x : Nat) (body : ByteArray) (hL : L.length ≤ 1000) (hb : base < 4294967296) (hx : x < 4294967296) (w : World) (hs : RO w p cap L) :
    Calls Try.prog 60 #[.agg #[.int .u32 (base : Int), .int .i64 (win : Int), .slice p L.length cap], .int .u32 (x : Int), .string body] w (RActPost w base win p cap L (putLx base win L x body) (fun o => .tuple #[o, .int .i64 (putK base win L x body)])) := by
  unfold putLx
  by_cases k1 : lessB x base = true
  · have e : putK base win L x body = 0 := by unfold putK; rw [if_pos k1]
    rw [e, if_neg (by decide)]
    exact (rput_less base win p cap L x body hL hb hx k1 w hs).mono fun e w' hp => ⟨_, _, hp.1, hp.2, .inl ⟨rfl, rfl, rfl⟩⟩
  · rw [Bool.not_eq_true] at k1
    cases k2 : keyIn base win x with
    | false =>
      have e : putK base win L x body = 1 := by unfold putK; rw [if_neg (by simp [k1]), if_pos k2]
      rw [e, if_neg (by decide)]
      exact (rput_far base win p cap L x body hL hb hx k1 k2 w hs).mono fun e w' hp => ⟨_, _, hp.1, hp.2, .inl ⟨rfl, rfl, rfl⟩⟩
    | true =>
      cases k3 : hasR L x with
      | true =>
        have e : putK base win L x body = 2 := by unfold putK; rw [if_neg (by simp [k1]), if_neg (by simp [k2]), if_pos k3]
        rw [e, if_neg (by decide)]
        exact (rput_twice base win p cap L x body hL hb hx k1 k2 k3 w hs).mono fun e w' hp => ⟨_, _, hp.1, hp.2, .inl ⟨rfl, rfl, rfl⟩⟩
      | false =>
        by_cases k4 : body.size = 0
        · have e : putK base win L x body = 4 := by unfold putK; rw [if_neg (by simp [k1]), if_neg (by simp [k2]), if_neg (by simp [k3]), if_pos k4]
          rw [e, if_neg (by decide)]
          obtain rfl := oempty_str body k4
          exact (rput_blank base win p cap L x hL hb hx k1 k2 k3 w hs).mono fun e w' hp => ⟨_, _, hp.1, hp.2, .inl ⟨rfl, rfl, rfl⟩⟩
        · have e : putK base win L x body = 3 := by unfold putK; rw [if_neg (by simp [k1]), if_neg (by simp [k2]), if_neg (by simp [k3]), if_neg k4]
          rw [e, if_pos rfl]
          refine (rput_fresh base win p cap L x body hL hb hx k1 k2 k3 k4 w hs).mono fun e w' hp => ?_
          obtain ⟨v', h1, h2, h3⟩ := hp
          exact RActPost.own h1 h2 h3
theorem rnext_any (base win : Nat) (p : Option Addr) (cap : Nat) (L : BL) (room : Int) (hL : L.length ≤ 1000) (hb : base < 4294967296) (w : World) (hs : RO w p cap L) :
    Calls Try.prog 61 #[.agg #[.int .u32 (base : Int), .int .i64 (win : Int), .slice p L.length cap], .int .i64 room] w (RActPost w (nxBase base L room) win p cap L (nxL base L room) (fun o => .tuple #[o, .string (nxBody base L room), .bool (nextB base L room)])) := by
  unfold nxBase nxL nxBody
  cases hn : nextB base L room with
  | false =>
    simp only [Bool.false_eq_true, if_false]
    unfold nextB at hn
    rw [decide_eq_false_iff_not] at hn
    by_cases hl : ix L base < L.length
    · rw [bodyAt_get _ _ hl] at hn
      exact (rnext_big base win p cap L room hL hb _ hl rfl (by omega) w hs).mono fun e w' hp => ⟨_, _, hp.1, hp.2, .inl ⟨rfl, rfl, rfl⟩⟩
    · have hr : hasR L base = false := decide_eq_false hl
      exact (rnext_none base win p cap L room hL hb hr w hs).mono fun e w' hp => ⟨_, _, hp.1, hp.2, .inl ⟨rfl, rfl, rfl⟩⟩
  | true =>
    simp only [if_true]
    unfold nextB at hn
    rw [decide_eq_true_iff] at hn
    have hl := hn.1
    have hsz := hn.2
    rw [bodyAt_get _ _ hl] at hsz
    rw [bodyAt_get _ _ hl]
    refine (rnext_some base win p cap L room hL hb _ hl rfl hsz w hs).mono fun e w' hp => ?_
    obtain ⟨v', h1, h2, h3⟩ := hp
    exact RActPost.own h1 h2 h3
end Go.Proofs.Ytdggnhgflfaffaa
