/- lightshipref34.Do, by value, is doM. -/
import Derived.Test.YtpojophpbggkcaaLo17
import Derived.Test.YtpojophpbggkcaaLo10
namespace Go.Proofs.Ytpojophpbggkcaa
open Go.ChangeShapes Go.WideShapes Go.ChangeAt Go.RowKit
set_option linter.unusedVariables false

theorem rdo_is (cs : Array Value) (m : Mq) (hmr : MRow cs m) (e : Ev) (hb1 : e.body.size ≤ 1000000) (hm : ∀ a s, (m.q a s).1.size ≤ 1000000) (w : World) :
    Calls Try.prog 26 #[.agg cs, .int .i64 e.side, .agg #[.int .i64 e.kind, .int .i64 e.stream, .int .i64 e.n, .string e.body], .agg #[.int .i64 e.an, .string e.ab, .int .i64 e.err]] w (RDo w (doM m e).2 (doM m e).1) := by
  obtain ⟨i0, side, kind, stream, n, body, an, ab, err, beg, fin⟩ := e
  dsimp only at hb1 ⊢
  by_cases hbad : side < 0 ∨ 1 < side ∨ stream < 0 ∨ 255 < stream
  · have e : doM m ⟨i0, side, kind, stream, n, body, an, ab, err, beg, fin⟩ = (1, m) := by unfold doM; rw [if_pos hbad]
    rw [e]
    exact rdo_bad cs m hmr side kind stream n an err body ab hbad w
  · obtain ⟨a, rfl⟩ : ∃ a : Nat, side = (a : Int) := ⟨side.toNat, by omega⟩
    obtain ⟨s0, rfl⟩ : ∃ s : Nat, stream = (s : Int) := ⟨stream.toNat, by omega⟩
    have ha : a < 2 := by omega
    have hs : s0 < 256 := by omega
    by_cases h4 : kind = 4
    · subst h4
      have e : doM m ⟨i0, (a : Int), 4, (s0 : Int), n, body, an, ab, err, beg, fin⟩ = (0, if closesB err = true then m.put a s0 ((m.q a s0).1, true) else m) := by
        unfold doM; rw [if_neg hbad, if_pos rfl]; simp
      rw [e]
      by_cases hc : closesB err = true
      · have he : err = 0 ∨ err = 11 ∨ err = 12 := by
          unfold closesB at hc
          simp at hc
          omega
        rw [if_pos hc]
        exact rdo_close cs m hmr a s0 ha hs n an err he body ab w
      · rw [if_neg hc]
        have h0 : err ≠ 0 := by rintro rfl; exact hc rfl
        exact rdo_ign cs m hmr a s0 ha hs 4 n an err body ab (fun _ => by simpa using hc) h0 (.inl (by decide)) w
    · by_cases hi : err ≠ 0 ∧ (kind ≠ 3 ∨ err ≠ 13)
      · have e : doM m ⟨i0, (a : Int), kind, (s0 : Int), n, body, an, ab, err, beg, fin⟩ = (0, m) := by
          unfold doM; rw [if_neg hbad, if_neg h4, if_pos hi]
        rw [e]
        exact rdo_ign cs m hmr a s0 ha hs kind n an err body ab (fun h => absurd h h4) hi.1 hi.2 w
      · by_cases h2 : kind = 2
        · subst h2
          have he0 : err = 0 := by omega
          subst he0
          have e : doM m ⟨i0, (a : Int), 2, (s0 : Int), n, body, an, ab, 0, beg, fin⟩ = (wrK (m.q a s0) body an, m.put a s0 (wrS (m.q a s0) body an)) := by
            unfold doM; rw [if_neg hbad, if_neg h4, if_neg hi, if_pos rfl]; simp
          rw [e]
          exact rdo_write cs m hmr a s0 ha hs n an body ab hb1 (hm a s0) w
        · by_cases h3 : kind = 3
          · subst h3
            by_cases h13 : err = 13
            · subst h13
              have e : doM m ⟨i0, (a : Int), 3, (s0 : Int), n, body, an, ab, 13, beg, fin⟩ = (enK (m.q (1 - a) s0) (m.br s0), m) := by
                unfold doM; rw [if_neg hbad, if_neg h4, if_neg hi, if_neg h2, if_pos rfl, if_pos rfl]; simp
              rw [e]
              exact rdo_read13 cs m hmr a (1 - a) s0 ha (by omega) hs n an body ab w
            · have he0 : err = 0 := by omega
              subst he0
              have e : doM m ⟨i0, (a : Int), 3, (s0 : Int), n, body, an, ab, 0, beg, fin⟩ = (rdK (m.q (1 - a) s0).1 ab n, m.put (1 - a) s0 (rdS (m.q (1 - a) s0).1 ab n, (m.q (1 - a) s0).2)) := by
                unfold doM; rw [if_neg hbad, if_neg h4, if_neg hi, if_neg h2, if_pos rfl, if_neg h13]; simp
              rw [e]
              exact rdo_read0 cs m hmr a (1 - a) s0 ha (by omega) hs n an body ab w
          · have he0 : err = 0 := by omega
            subst he0
            by_cases h5 : kind = 5
            · subst h5
              have e : doM m ⟨i0, (a : Int), 5, (s0 : Int), n, body, an, ab, 0, beg, fin⟩ = (0, ⟨m.q, updB m.br s0⟩) := by
                unfold doM; rw [if_neg hbad, if_neg h4, if_neg hi, if_neg h2, if_neg h3, if_pos rfl]; simp
              rw [e]
              exact rdo_abort cs m hmr a s0 ha hs n an body ab w
            · have e : doM m ⟨i0, (a : Int), kind, (s0 : Int), n, body, an, ab, 0, beg, fin⟩ = (0, m) := by
                unfold doM; rw [if_neg hbad, if_neg h4, if_neg hi, if_neg h2, if_neg h3, if_neg h5]
              rw [e]
              exact rdo_else cs m hmr a s0 ha hs kind n an body ab h2 h3 h4 h5 w
end Go.Proofs.Ytpojophpbggkcaa
