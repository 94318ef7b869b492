/- The walk of lex.Tokens. -/
import Derived.Test.YtelphkhacadfaaaLexG
import Derived.Deep.DeepMust
namespace Go.Proofs.Ytelphkhacadfaaa
open Go.RowKit Go.Sort

theorem Try.infoTok : (Try.prog.info? 109).map (fun i => (i.zero, i.size, i.bytes)) = some (some (.agg #[.int .i64 0, .string ⟨#[]⟩, .int .i64 0, .int .i64 0, .int .i64 0]), 5, 48) := by kernel_rfl

/-- a token's cells -/
def tokCells (t : Lx.Tok) : List Value := [.int .i64 t.kind, .string ⟨t.text.toArray⟩, .int .i64 t.n, .int .i64 t.line, .int .i64 t.col]
def toksCells (ts : List Lx.Tok) : List Value := ts.flatMap tokCells
theorem toksCells_snoc (ts : List Lx.Tok) (t : Lx.Tok) : toksCells (ts ++ [t]) = toksCells ts ++ tokCells t := by simp [toksCells, tokCells]
theorem toksCells_len (ts : List Lx.Tok) : (toksCells ts).length = ts.length * 5 := by
  induction ts with
  | nil => rfl
  | cons t ts ih => simp only [toksCells, List.flatMap_cons, List.length_append, List.length_cons] at *; rw [ih]; simp [tokCells]; omega

theorem tokCells_one (t : Lx.Tok) : ∀ u ∈ tokCells t, u.oneCell' = true := by
  intro u hu
  simp only [tokCells, List.mem_cons, List.not_mem_nil, or_false] at hu
  rcases hu with rfl | rfl | rfl | rfl | rfl <;> rfl

/-- what 'Tokens' gives back, by the plain lexer -/
def TokensPost (L : Lx.Bytes) (e : Ending) (w' : World) : Prop :=
  match Lx.tokens L with
  | .ok ts => ∃ v, e = .returned (.tuple #[v, .agg #[.int .i64 0, .int .i64 0, .int .i64 0]]) ∧ Row w' v ts.length 5 (toksCells ts)
  | .error (er, l, c) => ∃ v, e = .returned (.tuple #[v, .agg #[.int .i64 er, .int .i64 l, .int .i64 c]]) ∧ Row w' v 0 5 [] ∧ er ≠ 0

/-- the loop's own: 'rest' is still to be read -/
def Toking (L : Lx.Bytes) (f i : Nat) (ts : List Lx.Tok) : Prop := L.length - i < f ∧ Lx.toks L (L.length + 1) 0 = (Lx.toks L f i).map (ts ++ ·)

theorem Toking.begin (L : Lx.Bytes) : Toking L (L.length + 1) 0 [] := ⟨by omega, by cases Lx.toks L (L.length + 1) 0 <;> rfl⟩
theorem Toking.ok {L : Lx.Bytes} {f i k n : Nat} {t : Lx.Bytes} {ts : List Lx.Tok} (h : Toking L (f + 1) i ts) (hlt : i + Lx.skipN false (L.drop i) < L.length)
    (ht : Lx.tok (L.drop (i + Lx.skipN false (L.drop i))) = .ok (k, t, n)) :
    Toking L f (i + Lx.skipN false (L.drop i) + t.length) (ts ++ [Lx.tokAt L (i + Lx.skipN false (L.drop i)) k t n]) := by
  have hp := Lx.tok_pos ht
  refine ⟨by have := h.1; omega, ?_⟩
  rw [h.2, Lx.toks_ok hlt ht]
  cases Lx.toks L f (i + Lx.skipN false (L.drop i) + t.length) with
  | error e => rfl
  | ok l => simp [Except.map]
theorem Toking.end {L : Lx.Bytes} {f i : Nat} {ts : List Lx.Tok} (h : Toking L f i ts) (hlt : L.length ≤ i + Lx.skipN false (L.drop i)) (h512 : L.length ≤ 512) : Lx.tokens L = .ok ts := by
  unfold Lx.tokens
  rw [if_neg (by omega), h.2, Lx.toks_end (by have := h.1; omega) hlt]
  simp [Except.map]
theorem Toking.err {L : Lx.Bytes} {f i er : Nat} {ts : List Lx.Tok} (h : Toking L f i ts) (hlt : i + Lx.skipN false (L.drop i) < L.length) (h512 : L.length ≤ 512)
    (ht : Lx.tok (L.drop (i + Lx.skipN false (L.drop i))) = .error er) : Lx.tokens L = .error (Lx.mkFault er (Lx.posOf (L.take (i + Lx.skipN false (L.drop i))))) := by
  unfold Lx.tokens
  rw [if_neg (by omega), h.2, Lx.toks_err (by have := h.1; omega) hlt ht]
  rfl

set_option maxRecDepth 100000 in
set_option maxHeartbeats 2000000 in
theorem tokens_any (s : ByteArray) (w : World) (hs : s.size ≤ 140737488355328) :
    Calls Try.prog 54 #[.string s] w fun e w' => TokensPost s.data.toList e w' ∧ Below w.heap.size w w' := by
  obtain ⟨i0, hinf, hz0, hz1, hz2⟩ := info_parts Try.infoTok
  have hn2 := Nat.le_refl w.heap.size
  go_enter Try.func54, Try.ntmps54
  go_wp2_with fail
  have B0 := hid (Blk.new w #[.int .i64 0, .int .i64 0, .int .i64 0] 29)
  refine (begin_any s _).mono ?_
  rintro e w1 ⟨b, rfl, hlb, hr1, hb1⟩
  simp only [World.size_alloc] at hlb
  have hr1' := hid hr1
  have B1 := hid (B0.out.ext hb1)
  have Q1 := hid ((balloc w _).trans (hb1.mono (by simp)))
  clear hr1
  by_cases h512 : 512 < s.size
  · go_wp2_with fail
    refine (place_any hr1'.out).mono ?_
    rintro e w2 ⟨rfl, hb2⟩
    obtain ⟨d0, d1, d2, df, dz⟩ := (B1.out.ext hb2).three
    go_wp2_with fail
    refine bodyPost_ret (v := .tuple #[.slice none 0 0, .agg #[.int .i64 2, .int .i64 1, .int .i64 1]]) (by simp [results, Try.results54, go_sem, d0, d1, d2]; exact ⟨rfl, rfl⟩) rfl ⟨?_, (by simp only [below_setNew_iff hn2]; exact bthen Q1.out hb2)⟩
    unfold TokensPost Lx.tokens
    rw [if_pos (by simpa using h512)]
    exact ⟨_, rfl, Row.nil _ _, by decide⟩
  · have h512' : s.size ≤ 512 := by omega
    clear h512
    go_wp2_with fail
    go_loopg [5] (s.size + 1) (fun g u wr => ∃ (i n : Nat) (ts : List Lx.Tok), i ≤ s.size ∧ n ≤ i ∧ n = ts.length ∧ Toking s.data.toList g i ts ∧ RdP wr b s i ∧ Blk wr w.heap.size #[.int .i64 0, .int .i64 0, .int .i64 0] 29 ∧
      wr.ownsRow (b + 1) 109 5 u n (toksCells ts) ∧ Below w.heap.size w wr)
    case atStart => exact ⟨0, 0, [], Nat.zero_le _, Nat.le_refl _, rfl, by have := Toking.begin s.data.toList; rwa [list_len] at this, hr1'.out, B1.out, World.ownsRow_nil _ _ _ _, Q1.out⟩
    case round =>
      obtain ⟨i, n, ts, hi, hni, hnl, htk, hr, hB, hown, hQ⟩ := hrel
      have hnl' := hid hnl
      have htk' := hid htk
      have hr' := hid hr
      have hB' := hid hB
      have hown' := hid hown
      have hQ' := hid hQ
      have hgk : 0 < gk := by have := htk.1; omega
      have hsk := Lx.skipN_le false (s.data.toList.drop i)
      rw [List.length_drop, list_len] at hsk
      clear hnl htk hr hB hown hQ
      go_wp2_with fail
      refine (skip_any hr'.out hi hs).mono ?_
      rintro e w2 ⟨rfl, hr2, ht2⟩
      have hB2 := hid (hB'.out.touch ht2 (by omega))
      have hown2 := hid (owns_touch hown'.out ht2 (by omega))
      have hQ2 := hid (hQ'.out.trans (ht2.to_below hQ'.out.size (by omega)))
      have htE := hid (fun h => Toking.end htk'.out h (by rw [list_len]; exact h512'))
      have htR := hid (fun er h1 h2 => Toking.err (er := er) htk'.out h1 (by rw [list_len]; exact h512') h2)
      obtain ⟨gk', rfl⟩ : ∃ g', gk = g' + 1 := ⟨gk - 1, by omega⟩
      have htO := hid (fun k t n h1 h2 => Toking.ok (k := k) (t := t) (n := n) htk'.out h1 h2)
      have hale : i + Lx.skipN false (s.data.toList.drop i) ≤ s.size := by omega
      have hnale : n ≤ i + Lx.skipN false (s.data.toList.drop i) := by omega
      generalize ha : i + Lx.skipN false (s.data.toList.drop i) = a at *
      have hr2' := hid hr2
      clear hr2 ha
      go_wp2_with fail
      refine (place_any hr2'.out).mono ?_
      rintro e w3 ⟨rfl, hb3⟩
      have hB3 := hid (hB2.out.ext hb3)
      have hown3 := hid (owns_ext hown2.out hb3)
      have hQ3 := hid (bthen hQ2.out hb3)
      have hr3 := hid (RdP.ext hr2'.out hb3)
      obtain ⟨z0, c0, c1, c2, c3, f1, f2, f3⟩ := Rd.f hr3.out
      have hne : b ≠ w3.heap.size := by omega
      by_cases hend : a = s.size
      · subst hend
        obtain ⟨d0, d1, d2, df, dz⟩ := hB3.out.three
        go_wp2_with fail
        refine bodyPost_ret (v := .tuple #[u5, .agg #[.int .i64 0, .int .i64 0, .int .i64 0]]) (by simp [results, Try.results54, go_sem, d0, d1, d2, dz]) rfl ⟨?_, Below.alloc (by simp only [below_setNew_iff hn2]; exact hQ3.out) (by simp; omega) _⟩
        unfold TokensPost
        rw [htE.out (by simp)]
        refine ⟨u5, rfl, ?_⟩
        rw [← hnl'.out]
        exact Row.of_owns (owns_touch hown3.out (((((Touch.refl w.heap.size w3).setCell 0 _).setCell 1 _).setCell 2 _).alloc _) (by omega))
      · have halt : a < s.size := by omega
        have hd : ((a : Int) == s.size) = false := by rw [beq_eq_false_iff_ne]; omega
        clear hend
        go_wp2_with fail
        have hr3a := hid (RdP.ext hr3.out (balloc w3 (.cells #[.int .i64 (Lx.posOf (s.data.toList.take a)).1, .int .i64 (Lx.posOf (s.data.toList.take a)).2] 27)))
        refine (next_any hr3a.out halt hs).mono ?_
        rintro e w4 ⟨hnp, ht4⟩
        have B4 := hid ((Blk.new w3 #[.int .i64 (Lx.posOf (s.data.toList.take a)).1, .int .i64 (Lx.posOf (s.data.toList.take a)).2] 27).touch ht4 (by omega))
        have hB4 := hid ((hB3.out.alloc _).touch ht4 (by omega))
        have hown4 := hid (owns_touch (hown3.out.alloc _) ht4 (by omega))
        have hQ4 := hid ((hQ3.out.alloc hQ3.out.size _).trans (ht4.to_below (by simp; omega) (by omega)))
        have hz4 := ht4.size
        simp only [World.size_alloc] at hz4
        have hlen : a < s.data.toList.length := by simpa using halt
        unfold NextPost at hnp
        cases htk2 : Lx.tok (s.data.toList.drop a) with
        | error er =>
          rw [htk2] at hnp
          obtain ⟨k, t, m, rfl, her⟩ := hnp
          have hfin := hid (htR.out er hlen htk2)
          clear htk2 hlen
          unfold tokV
          obtain ⟨d0, d1, d2, df, dz⟩ := hB4.out.three
          obtain ⟨p0, p1, pf, pz⟩ := B4.out.two
          have nn : w.heap.size ≠ w3.heap.size := by have := hB3.out.lt; omega
          go_wp2_with fail
          go_region_held3 (fun w' => w'.cell? ⟨w3.heap.size, 0, none⟩ = some (.int .i64 (Lx.posOf (s.data.toList.take a)).1) ∧ w'.cell? ⟨w3.heap.size, 1, none⟩ = some (.int .i64 (Lx.posOf (s.data.toList.take a)).2)) (go_keep) (first | fail)
          go_wp2_with fail
          refine bodyPost_ret (v := .tuple #[.slice none 0 0, .agg #[.int .i64 er, .int .i64 (Lx.posOf (s.data.toList.take a)).1, .int .i64 (Lx.posOf (s.data.toList.take a)).2]]) (by simp [results, Try.results54, go_sem, d0, d1, d2, dz]) rfl ⟨?_, ?_⟩
          · unfold TokensPost
            rw [hfin.out]
            exact ⟨_, rfl, Row.nil _ _, by intro h0; rw [h0] at her; simp at her⟩
          · exact Below.drew (Below.alloc (by simp only [below_setNew_iff hn2]; exact hQ4.out) (by simp; omega) _)
        | ok x =>
          obtain ⟨k, t, m⟩ := x
          rw [htk2] at hnp
          obtain ⟨rfl, hr5, hle5⟩ := hnp
          have htk5 := hid (htO.out k t m hlen htk2)
          clear hlen
          unfold tokV
          obtain ⟨p0, p1, pf, pz⟩ := B4.out.two
          have q1 : 1 ≤ t.length := Lx.tok_pos htk2
          clear htk2
          have hcap : n + 1 ≤ maxLen := by unfold maxLen; omega
          have hc1 := cells_new (w4.alloc (.cells (tokCells (Lx.tokAt s.data.toList a k t m)).toArray 109)) (tokCells (Lx.tokAt s.data.toList a k t m)) 109 (k := w4.heap.size + 1) (by simp)
          have hc1' := hid hc1
          clear hc1
          go_wp2_with (first | (at_builtin; refine wpList_append_own _ rfl _ _ 86 rfl (b + 1) 109 i0 (.agg #[.int .i64 0, .string ⟨#[]⟩, .int .i64 0, .int .i64 0, .int .i64 0]) 5 48 Try.underlying86 hinf hz0 hz1 hz2 rfl (by decide) _ _ _ rfl ((hown4.out.alloc _).alloc _) ⟨w4.heap.size + 1, 0, none⟩ 1 1 (tokCells (Lx.tokAt s.data.toList a k t m)) rfl rfl hc1'.out (tokCells_one _) hcap (by omega) (by simp; omega) ?_; intro v' w5 hown5 hgrow _))
          go_roundg gk'
          case measure => omega
          case rel =>
            have hown4a := (hown4.out.alloc (.cells (tokCells (Lx.tokAt s.data.toList a k t m)).toArray 109)).alloc (.cells (tokCells (Lx.tokAt s.data.toList a k t m)).toArray 109)
            refine ⟨a + t.length, n + 1, ts ++ [Lx.tokAt s.data.toList a k t m], hle5, by omega, by rw [List.length_append, ← hnl'.out]; rfl, htk5.out, ?_, ?_, ?_, ?_⟩
            · exact Blk.grown ((Blk.alloc hr5 _).alloc _) hgrow (own_ne hown4a (by omega))
            · exact Blk.grown ((Blk.alloc hB4.out _).alloc _) hgrow (own_ne hown4a (by omega))
            · rw [toksCells_snoc]; exact hown5
            · exact ((hQ4.out.alloc hQ4.out.size _).alloc (by simp; omega) _).grown hgrow (by simp; omega) (fun k hk => by have := (hown4a.lt k hk).1; omega)

end Go.Proofs.Ytelphkhacadfaaa
