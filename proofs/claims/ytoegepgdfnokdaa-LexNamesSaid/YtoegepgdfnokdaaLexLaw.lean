/- The law LexTokens, walked: the lexer and its reference answer alike. -/
import Derived.Test.YtoegepgdfnokdaaLexW
import Derived.Test.YtoegepgdfnokdaaLexPlain
namespace Go.Proofs.Ytoegepgdfnokdaa
open Go.RowKit Go.Sort

theorem sameToks_refl (at_ : Bool) (ts : List Lx.Tok) : sameToks at_ ts ts = true := by
  unfold sameToks
  simp only [BEq.rfl, Bool.true_and, List.all_eq_true]
  intro p hp
  have : p.1 = p.2 := by
    have h : ∀ (l : List Lx.Tok) (q : Lx.Tok × Lx.Tok), q ∈ l.zip l → q.1 = q.2 := by
      intro l
      induction l with
      | nil => intro q hq; simp at hq
      | cons t l ih =>
        intro q hq
        simp only [List.zip_cons_cons, List.mem_cons] at hq
        rcases hq with rfl | hq
        · rfl
        · exact ih q hq
    exact h ts p hp
  rw [this]
  simp [sameTok]

set_option maxHeartbeats 2000000 in
theorem lexTokens_walk (s : ByteArray) (w : World) (hs : s.size ≤ 140737488355328) :
    Calls Try.prog 6 #[.string s] w fun e w' => e = .returned (.bool true) ∧ Below w.heap.size w w' := by
  have htk := hid (show s.data.toList.take s.size = s.data.toList from List.take_of_length_le (by simp))
  have hp0 := Lx.posOf_le s.data.toList
  have hgen : ∃ pl pc : Int, ((Lx.posOf s.data.toList).1 : Int) = pl ∧ ((Lx.posOf s.data.toList).2 : Int) = pc := ⟨_, _, rfl, rfl⟩
  obtain ⟨pl, pc, hpl, hpc⟩ := hgen
  have hpl' := hid hpl
  have hpc' := hid hpc
  clear hpl hpc hp0
  go_enter Try.func6, Try.ntmps6
  go_wp2_with fail
  refine (tokens_any s _ hs).mono ?_
  rintro e w1 ⟨hp, hb1⟩
  obtain ⟨va, vb, e0, l0, c0, n, ta, he, hva, hrest⟩ : ∃ (va vb : Value) (e0 l0 c0 : Int) (n : Nat) (ta : List Lx.Tok), e = .returned (.tuple #[va, .agg #[.int .i64 e0, .int .i64 l0, .int .i64 c0]]) ∧ (Row w1 va ta.length 5 (toksCells ta) ∧ ta.length ≤ 512) ∧
      ∀ e2 w2, TokensPost s.data.toList e2 w2 → ∃ vb, e2 = .returned (.tuple #[vb, .agg #[.int .i64 e0, .int .i64 l0, .int .i64 c0]]) ∧ Row w2 vb ta.length 5 (toksCells ta) := by
    unfold TokensPost at hp ⊢
    cases hr : Lx.tokens s.data.toList with
    | ok ts =>
      rw [hr] at hp
      obtain ⟨v, he, hv⟩ := hp
      exact ⟨v, v, 0, 0, 0, 0, ts, he, ⟨hv, (Lx.tokens_bound hr).1⟩, fun e2 w2 h => h⟩
    | error x =>
      obtain ⟨er, l, c⟩ := x
      rw [hr] at hp
      obtain ⟨v, he, hv, _⟩ := hp
      exact ⟨v, v, er, l, c, 0, [], he, ⟨hv, by simp⟩, fun e2 w2 ⟨u, h1, h2, _⟩ => ⟨u, h1, h2⟩⟩
  subst he
  clear hp
  have hrest' := hid hrest
  obtain ⟨hva, hn⟩ := hva
  have B1 := hid (Blk.new w1 #[.int .i64 e0, .int .i64 l0, .int .i64 c0] 27)
  have hv' := hid (hva.ext (balloc w1 (.cells #[.int .i64 e0, .int .i64 l0, .int .i64 c0] 27)))
  have Q1 := hid (bthen hb1 (balloc w1 (.cells #[.int .i64 e0, .int .i64 l0, .int .i64 c0] 27)))
  clear hva hrest
  go_wp2_with fail
  refine (rtokens_any s _ hs).mono ?_
  rintro e w2 ⟨hp2, hb2⟩
  obtain ⟨vb, rfl, hvb⟩ := hrest'.out _ _ hp2
  have B2 := hid ((B1.out.ext hb2).ext (balloc w2 (.cells #[.int .i64 e0, .int .i64 l0, .int .i64 c0] 27)))
  have C2 := hid (Blk.new w2 #[.int .i64 e0, .int .i64 l0, .int .i64 c0] 27)
  have hva2 := hid ((hv'.out.ext hb2).ext (balloc w2 (.cells #[.int .i64 e0, .int .i64 l0, .int .i64 c0] 27)))
  have hvb2 := hid (hvb.ext (balloc w2 (.cells #[.int .i64 e0, .int .i64 l0, .int .i64 c0] 27)))
  have Q2 := hid (bthen (bthen Q1.out hb2) (balloc w2 (.cells #[.int .i64 e0, .int .i64 l0, .int .i64 c0] 27)))
  clear hvb hp2
  go_wp2_with fail
  refine (same_any hva2.out hvb2.out (by omega) (by omega)).mono ?_
  rintro e w3 ⟨rfl, hb3⟩
  rw [sameToks_refl]
  have B3 := hid (B2.out.ext hb3)
  have C3 := hid (C2.out.ext hb3)
  have Q3 := hid (bthen Q2.out hb3)
  obtain ⟨b0, b1, b2, bf, bz⟩ := B3.out.three
  obtain ⟨g0, g1, g2, gf, gz⟩ := C3.out.three
  go_wp2_with fail
  refine (end_any s _ hs).mono ?_
  rintro e w4 ⟨rfl, hb4⟩
  have Q4 := hid (bthen Q3.out hb4)
  rw [hpl'.out, hpc'.out]
  go_wp2_with fail
  refine (rplace_nat s s.size _ (Nat.le_refl _) hs).mono ?_
  rintro e w5 ⟨rfl, hb5⟩
  rw [htk.out, hpl'.out, hpc'.out]
  have Q5 := hid (bthen Q4.out hb5)
  go_wp2_with fail
  refine (known_any _).mono ?_
  rintro e w6 ⟨rfl, hb6⟩
  go_wp2_with fail
  go_ret
  exact ⟨rfl, bthen Q5.out hb6⟩

end Go.Proofs.Ytoegepgdfnokdaa
