/-
  The walk of lex.Tokens.
  A row of tokens in memory.
  The walks of the policy's reader: place, is, kind, wrong, took, want, take, name, number.
  The walks of the policy's reader: kind, place, wrong, took, want.
-/
import Derived.Test.YtnoieobjfihbeaaDoorPk07
import Derived.Deep.DeepMust
import Derived.Test.YtnoieobjfihbeaaDoorPk03

namespace Go.Proofs.YtnoieobjfihbeaaDoor
open Go.RowKit Go.Sort

theorem Tryd.infoTok : (Tryd.prog.info? 92).map (fun i => (i.zero, i.size, i.bytes)) = some (some (.agg #[.int .i64 0, .string ⟨#[]⟩, .int .i64 0, .int .i64 0, .int .i64 0]), 5, 48) := by kernel_rfl

/-- a token's cells -/
def tokCells (t : Lx.Tok) : List Value := [.int .i64 t.kind, .string ⟨t.text.toArray⟩, .int .i64 t.n, .int .i64 t.line, .int .i64 t.col]
def toksCells (ts : List Lx.Tok) : List Value := ts.flatMap tokCells
theorem toksCells_snoc (ts : List Lx.Tok) (t : Lx.Tok) : toksCells (ts ++ [t]) = toksCells ts ++ tokCells t := by simp [toksCells, tokCells]
theorem toksCells_len (ts : List Lx.Tok) : (toksCells ts).length = ts.length * 5 := by
  induction ts with
  | nil => rfl
  | cons t ts ih => simp only [toksCells, List.flatMap_cons, List.length_append, List.length_cons] at *; rw [ih]; simp [tokCells]; omega

theorem tokCells_one (t : Lx.Tok) : ∀ u ∈ tokCells t, u.oneCell' = true := by
  intro u hu
  simp only [tokCells, List.mem_cons, List.not_mem_nil, or_false] at hu
  rcases hu with rfl | rfl | rfl | rfl | rfl <;> rfl

/-- what 'Tokens' gives back, by the plain lexer -/
def TokensPost (L : Lx.Bytes) (e : Ending) (w' : World) : Prop :=
  match Lx.tokens L with
  | .ok ts => ∃ v, e = .returned (.tuple #[v, .agg #[.int .i64 0, .int .i64 0, .int .i64 0]]) ∧ Row w' v ts.length 5 (toksCells ts)
  | .error (er, l, c) => ∃ v, e = .returned (.tuple #[v, .agg #[.int .i64 er, .int .i64 l, .int .i64 c]]) ∧ Row w' v 0 5 [] ∧ er ≠ 0

/-- the loop's own: 'rest' is still to be read -/
def Toking (L : Lx.Bytes) (f i : Nat) (ts : List Lx.Tok) : Prop := L.length - i < f ∧ Lx.toks L (L.length + 1) 0 = (Lx.toks L f i).map (ts ++ ·)

theorem Toking.begin (L : Lx.Bytes) : Toking L (L.length + 1) 0 [] := ⟨by omega, by cases Lx.toks L (L.length + 1) 0 <;> rfl⟩
theorem Toking.ok {L : Lx.Bytes} {f i k n : Nat} {t : Lx.Bytes} {ts : List Lx.Tok} (h : Toking L (f + 1) i ts) (hlt : i + Lx.skipN false (L.drop i) < L.length)
    (ht : Lx.tok (L.drop (i + Lx.skipN false (L.drop i))) = .ok (k, t, n)) :
    Toking L f (i + Lx.skipN false (L.drop i) + t.length) (ts ++ [Lx.tokAt L (i + Lx.skipN false (L.drop i)) k t n]) := by
  have hp := Lx.tok_pos ht
  refine ⟨by have := h.1; omega, ?_⟩
  rw [h.2, Lx.toks_ok hlt ht]
  cases Lx.toks L f (i + Lx.skipN false (L.drop i) + t.length) with
  | error e => rfl
  | ok l => simp [Except.map]
theorem Toking.end {L : Lx.Bytes} {f i : Nat} {ts : List Lx.Tok} (h : Toking L f i ts) (hlt : L.length ≤ i + Lx.skipN false (L.drop i)) (h512 : L.length ≤ 512) : Lx.tokens L = .ok ts := by
  unfold Lx.tokens
  rw [if_neg (by omega), h.2, Lx.toks_end (by have := h.1; omega) hlt]
  simp [Except.map]
theorem Toking.err {L : Lx.Bytes} {f i er : Nat} {ts : List Lx.Tok} (h : Toking L f i ts) (hlt : i + Lx.skipN false (L.drop i) < L.length) (h512 : L.length ≤ 512)
    (ht : Lx.tok (L.drop (i + Lx.skipN false (L.drop i))) = .error er) : Lx.tokens L = .error (Lx.mkFault er (Lx.posOf (L.take (i + Lx.skipN false (L.drop i))))) := by
  unfold Lx.tokens
  rw [if_neg (by omega), h.2, Lx.toks_err (by have := h.1; omega) hlt ht]
  rfl

set_option maxRecDepth 100000 in
set_option maxHeartbeats 2000000 in
theorem tokens_any (s : ByteArray) (w : World) (hs : s.size ≤ 140737488355328) :
    Calls Tryd.prog 24 #[.string s] w fun e w' => TokensPost s.data.toList e w' ∧ Below w.heap.size w w' := by
  obtain ⟨i0, hinf, hz0, hz1, hz2⟩ := info_parts Tryd.infoTok
  have hn2 := Nat.le_refl w.heap.size
  go_enter Tryd.func24, Tryd.ntmps24
  go_wp2_with fail
  have B0 := hid (Blk.new w #[.int .i64 0, .int .i64 0, .int .i64 0] 32)
  refine (begin_any s _).mono ?_
  rintro e w1 ⟨b, rfl, hlb, hr1, hb1⟩
  simp only [World.size_alloc] at hlb
  have hr1' := hid hr1
  have B1 := hid (B0.out.ext hb1)
  have Q1 := hid ((balloc w _).trans (hb1.mono (by simp)))
  clear hr1
  by_cases h512 : 512 < s.size
  · go_wp2_with fail
    refine (place_any hr1'.out).mono ?_
    rintro e w2 ⟨rfl, hb2⟩
    obtain ⟨d0, d1, d2, df, dz⟩ := (B1.out.ext hb2).three
    go_wp2_with fail
    refine bodyPost_ret (v := .tuple #[.slice none 0 0, .agg #[.int .i64 2, .int .i64 1, .int .i64 1]]) (by simp [results, Tryd.results24, go_sem, d0, d1, d2]; exact ⟨rfl, rfl⟩) rfl ⟨?_, (by simp only [below_setNew_iff hn2]; exact bthen Q1.out hb2)⟩
    unfold TokensPost Lx.tokens
    rw [if_pos (by simpa using h512)]
    exact ⟨_, rfl, Row.nil _ _, by decide⟩
  · have h512' : s.size ≤ 512 := by omega
    clear h512
    go_wp2_with fail
    go_loopg [5] (s.size + 1) (fun g u wr => ∃ (i n : Nat) (ts : List Lx.Tok), i ≤ s.size ∧ n ≤ i ∧ n = ts.length ∧ Toking s.data.toList g i ts ∧ RdP wr b s i ∧ Blk wr w.heap.size #[.int .i64 0, .int .i64 0, .int .i64 0] 32 ∧
      wr.ownsRow (b + 1) 92 5 u n (toksCells ts) ∧ Below w.heap.size w wr)
    case atStart => exact ⟨0, 0, [], Nat.zero_le _, Nat.le_refl _, rfl, by have := Toking.begin s.data.toList; rwa [list_len] at this, hr1'.out, B1.out, World.ownsRow_nil _ _ _ _, Q1.out⟩
    case round =>
      obtain ⟨i, n, ts, hi, hni, hnl, htk, hr, hB, hown, hQ⟩ := hrel
      have hnl' := hid hnl
      have htk' := hid htk
      have hr' := hid hr
      have hB' := hid hB
      have hown' := hid hown
      have hQ' := hid hQ
      have hgk : 0 < gk := by have := htk.1; omega
      have hsk := Lx.skipN_le false (s.data.toList.drop i)
      rw [List.length_drop, list_len] at hsk
      clear hnl htk hr hB hown hQ
      go_wp2_with fail
      refine (skip_any hr'.out hi hs).mono ?_
      rintro e w2 ⟨rfl, hr2, ht2⟩
      have hB2 := hid (hB'.out.touch ht2 (by omega))
      have hown2 := hid (owns_touch hown'.out ht2 (by omega))
      have hQ2 := hid (hQ'.out.trans (ht2.to_below hQ'.out.size (by omega)))
      have htE := hid (fun h => Toking.end htk'.out h (by rw [list_len]; exact h512'))
      have htR := hid (fun er h1 h2 => Toking.err (er := er) htk'.out h1 (by rw [list_len]; exact h512') h2)
      obtain ⟨gk', rfl⟩ : ∃ g', gk = g' + 1 := ⟨gk - 1, by omega⟩
      have htO := hid (fun k t n h1 h2 => Toking.ok (k := k) (t := t) (n := n) htk'.out h1 h2)
      have hale : i + Lx.skipN false (s.data.toList.drop i) ≤ s.size := by omega
      have hnale : n ≤ i + Lx.skipN false (s.data.toList.drop i) := by omega
      generalize ha : i + Lx.skipN false (s.data.toList.drop i) = a at *
      have hr2' := hid hr2
      clear hr2 ha
      go_wp2_with fail
      refine (place_any hr2'.out).mono ?_
      rintro e w3 ⟨rfl, hb3⟩
      have hB3 := hid (hB2.out.ext hb3)
      have hown3 := hid (owns_ext hown2.out hb3)
      have hQ3 := hid (bthen hQ2.out hb3)
      have hr3 := hid (RdP.ext hr2'.out hb3)
      obtain ⟨z0, c0, c1, c2, c3, f1, f2, f3⟩ := Rd.f hr3.out
      have hne : b ≠ w3.heap.size := by omega
      by_cases hend : a = s.size
      · subst hend
        obtain ⟨d0, d1, d2, df, dz⟩ := hB3.out.three
        go_wp2_with fail
        refine bodyPost_ret (v := .tuple #[u5, .agg #[.int .i64 0, .int .i64 0, .int .i64 0]]) (by simp [results, Tryd.results24, go_sem, d0, d1, d2, dz]) rfl ⟨?_, Below.alloc (by simp only [below_setNew_iff hn2]; exact hQ3.out) (by simp; omega) _⟩
        unfold TokensPost
        rw [htE.out (by simp)]
        refine ⟨u5, rfl, ?_⟩
        rw [← hnl'.out]
        exact Row.of_owns (owns_touch hown3.out (((((Touch.refl w.heap.size w3).setCell 0 _).setCell 1 _).setCell 2 _).alloc _) (by omega))
      · have halt : a < s.size := by omega
        have hd : ((a : Int) == s.size) = false := by rw [beq_eq_false_iff_ne]; omega
        clear hend
        go_wp2_with fail
        have hr3a := hid (RdP.ext hr3.out (balloc w3 (.cells #[.int .i64 (Lx.posOf (s.data.toList.take a)).1, .int .i64 (Lx.posOf (s.data.toList.take a)).2] 30)))
        refine (next_any hr3a.out halt hs).mono ?_
        rintro e w4 ⟨hnp, ht4⟩
        have B4 := hid ((Blk.new w3 #[.int .i64 (Lx.posOf (s.data.toList.take a)).1, .int .i64 (Lx.posOf (s.data.toList.take a)).2] 30).touch ht4 (by omega))
        have hB4 := hid ((hB3.out.alloc _).touch ht4 (by omega))
        have hown4 := hid (owns_touch (hown3.out.alloc _) ht4 (by omega))
        have hQ4 := hid ((hQ3.out.alloc hQ3.out.size _).trans (ht4.to_below (by simp; omega) (by omega)))
        have hz4 := ht4.size
        simp only [World.size_alloc] at hz4
        have hlen : a < s.data.toList.length := by simpa using halt
        unfold NextPost at hnp
        cases htk2 : Lx.tok (s.data.toList.drop a) with
        | error er =>
          rw [htk2] at hnp
          obtain ⟨k, t, m, rfl, her⟩ := hnp
          have hfin := hid (htR.out er hlen htk2)
          clear htk2 hlen
          unfold tokV
          obtain ⟨d0, d1, d2, df, dz⟩ := hB4.out.three
          obtain ⟨p0, p1, pf, pz⟩ := B4.out.two
          have nn : w.heap.size ≠ w3.heap.size := by have := hB3.out.lt; omega
          go_wp2_with fail
          go_region_held3 (fun w' => w'.cell? ⟨w3.heap.size, 0, none⟩ = some (.int .i64 (Lx.posOf (s.data.toList.take a)).1) ∧ w'.cell? ⟨w3.heap.size, 1, none⟩ = some (.int .i64 (Lx.posOf (s.data.toList.take a)).2)) (go_keep) (first | fail)
          go_wp2_with fail
          refine bodyPost_ret (v := .tuple #[.slice none 0 0, .agg #[.int .i64 er, .int .i64 (Lx.posOf (s.data.toList.take a)).1, .int .i64 (Lx.posOf (s.data.toList.take a)).2]]) (by simp [results, Tryd.results24, go_sem, d0, d1, d2, dz]) rfl ⟨?_, ?_⟩
          · unfold TokensPost
            rw [hfin.out]
            exact ⟨_, rfl, Row.nil _ _, by intro h0; rw [h0] at her; simp at her⟩
          · exact Below.drew (Below.alloc (by simp only [below_setNew_iff hn2]; exact hQ4.out) (by simp; omega) _)
        | ok x =>
          obtain ⟨k, t, m⟩ := x
          rw [htk2] at hnp
          obtain ⟨rfl, hr5, hle5⟩ := hnp
          have htk5 := hid (htO.out k t m hlen htk2)
          clear hlen
          unfold tokV
          obtain ⟨p0, p1, pf, pz⟩ := B4.out.two
          have q1 : 1 ≤ t.length := Lx.tok_pos htk2
          clear htk2
          have hcap : n + 1 ≤ maxLen := by unfold maxLen; omega
          have hc1 := cells_new (w4.alloc (.cells (tokCells (Lx.tokAt s.data.toList a k t m)).toArray 92)) (tokCells (Lx.tokAt s.data.toList a k t m)) 92 (k := w4.heap.size + 1) (by simp)
          have hc1' := hid hc1
          clear hc1
          go_wp2_with (first | (at_builtin; refine wpList_append_own _ rfl _ _ 61 rfl (b + 1) 92 i0 (.agg #[.int .i64 0, .string ⟨#[]⟩, .int .i64 0, .int .i64 0, .int .i64 0]) 5 48 Tryd.underlying61 hinf hz0 hz1 hz2 rfl (by decide) _ _ _ rfl ((hown4.out.alloc _).alloc _) ⟨w4.heap.size + 1, 0, none⟩ 1 1 (tokCells (Lx.tokAt s.data.toList a k t m)) rfl rfl hc1'.out (tokCells_one _) hcap (by omega) (by simp; omega) ?_; intro v' w5 hown5 hgrow _))
          go_roundg gk'
          case measure => omega
          case rel =>
            have hown4a := (hown4.out.alloc (.cells (tokCells (Lx.tokAt s.data.toList a k t m)).toArray 92)).alloc (.cells (tokCells (Lx.tokAt s.data.toList a k t m)).toArray 92)
            refine ⟨a + t.length, n + 1, ts ++ [Lx.tokAt s.data.toList a k t m], hle5, by omega, by rw [List.length_append, ← hnl'.out]; rfl, htk5.out, ?_, ?_, ?_, ?_⟩
            · exact Blk.grown ((Blk.alloc hr5 _).alloc _) hgrow (own_ne hown4a (by omega))
            · exact Blk.grown ((Blk.alloc hB4.out _).alloc _) hgrow (own_ne hown4a (by omega))
            · rw [toksCells_snoc]; exact hown5
            · exact ((hQ4.out.alloc hQ4.out.size _).alloc (by simp; omega) _).grown hgrow (by simp; omega) (fun k hk => by have := (hown4a.lt k hk).1; omega)

end Go.Proofs.YtnoieobjfihbeaaDoor

namespace Go.Proofs.YtnoieobjfihbeaaDoor
open Go.RowKit Go.Sort

theorem toksCells_get {ts : List Lx.Tok} {i : Nat} (hi : i < ts.length) : ∀ f, f < 5 → (toksCells ts)[i * 5 + f]? = (tokCells ts[i])[f]? := by
  intro f hf
  induction ts generalizing i with
  | nil => simp at hi
  | cons t ts ih =>
    have e : toksCells (t :: ts) = tokCells t ++ toksCells ts := rfl
    rw [e]
    cases i with
    | zero => rw [List.getElem?_append_left (by simp [tokCells]; omega)]; simp
    | succ i =>
      rw [List.getElem?_append_right (by simp [tokCells]; omega)]
      have e2 : (i + 1) * 5 + f - (tokCells t).length = i * 5 + f := by simp [tokCells]; omega
      rw [e2, ih (by simpa using hi)]
      simp

/-- a row of tokens: each cell, where it lies -/
structure TokRow (w : World) (g off cap : Nat) (ts : List Lx.Tok) : Prop where
  cap : ts.length ≤ cap
  lt : g < w.heap.size
  cell : ∀ (i : Nat) (hi : i < ts.length) (f : Nat) (u : Value), (tokCells ts[i])[f]? = some u → w.cell? ⟨g, off + i * 5 + f, none⟩ = some u
theorem tokRow_of {w : World} {v : Value} {ts : List Lx.Tok} (h : Row w v ts.length 5 (toksCells ts)) :
    (v = .slice none 0 0 ∧ ts = []) ∨ ∃ g off cap, v = .slice (some ⟨g, off, none⟩) ts.length cap ∧ TokRow w g off cap ts := by
  rcases h.2 with ⟨hv, hn⟩ | ⟨g, off, cap, hv, hn, hg, hc⟩
  · exact .inl ⟨hv, List.eq_nil_of_length_eq_zero hn⟩
  · refine .inr ⟨g, off, cap, hv, hn, hg, fun i hi f u hu => ?_⟩
    have hf : f < 5 := by
      rcases Nat.lt_or_ge f 5 with h5 | h5
      · exact h5
      · rw [List.getElem?_eq_none (by simpa [tokCells] using h5)] at hu; cases hu
    rw [show off + i * 5 + f = off + (i * 5 + f) by omega]
    exact hc _ _ (by rw [toksCells_get hi f hf]; exact hu)

/-- a token's cells, each by its own name -/
structure TokAt (w : World) (g o : Nat) (k : Int) (x : ByteArray) (n l c : Int) : Prop where
  c0 : w.cell? ⟨g, o, none⟩ = some (.int .i64 k)
  c1 : w.cell? ⟨g, o + 1, none⟩ = some (.string x)
  c2 : w.cell? ⟨g, o + 2, none⟩ = some (.int .i64 n)
  c3 : w.cell? ⟨g, o + 3, none⟩ = some (.int .i64 l)
  c4 : w.cell? ⟨g, o + 3 + 1, none⟩ = some (.int .i64 c)
theorem TokRow.at {w : World} {g off cap : Nat} {ts : List Lx.Tok} (h : TokRow w g off cap ts) {i : Nat} (hi : i < ts.length) :
    TokAt w g (off + i * 5) ts[i].kind ⟨ts[i].text.toArray⟩ ts[i].n ts[i].line ts[i].col :=
  ⟨h.cell i hi 0 _ rfl, h.cell i hi 1 _ rfl, h.cell i hi 2 _ rfl, h.cell i hi 3 _ rfl, h.cell i hi 4 _ rfl⟩
theorem tokRow_ext {w w' : World} {g off cap : Nat} {ts : List Lx.Tok} (h : TokRow w g off cap ts) (hb : Below w.heap.size w w') : TokRow w' g off cap ts :=
  ⟨h.cap, Nat.lt_of_lt_of_le h.lt hb.size, fun i hi f u hu => by rw [hb.cell (by exact h.lt)]; exact h.cell i hi f u hu⟩
theorem TokRow.touch {w w' : World} {g off cap b : Nat} {ts : List Lx.Tok} (h : TokRow w g off cap ts) (hb : Touch b w w') (hn : g ≠ b) : TokRow w' g off cap ts :=
  ⟨h.cap, Nat.lt_of_lt_of_le h.lt hb.size, fun i hi f u hu => ((tcell hb).1 g _ h.lt hn).trans (h.cell i hi f u hu)⟩

end Go.Proofs.YtnoieobjfihbeaaDoor

namespace Go.Proofs.YtnoieobjfihbeaaDoor
open Go.RowKit Go.Sort

/-- the reader of a policy, in block b, over the tokens T -/
structure PRd (w : World) (b : Nat) (pa : Option Addr) (cp : Nat) (T : List Lx.Tok) (e : Nat × Nat) (st : Po.St) : Prop where
  blk : Blk w b #[.slice pa T.length cp, .int .i64 st.at_, .int .i64 e.1, .int .i64 e.2, .int .i64 st.f.1, .int .i64 st.f.2.1, .int .i64 st.f.2.2] 67
  row : T = [] ∨ ∃ g off, pa = some ⟨g, off, none⟩ ∧ TokRow w g off cp T ∧ g ≠ b
  le : st.at_ ≤ T.length
  small : T.length ≤ 1000
structure PRdF (w : World) (b : Nat) (pa : Option Addr) (cp : Nat) (T : List Lx.Tok) (el ec i fe fl fc : Int) : Prop where
  lt : b < w.heap.size
  c0 : w.cell? ⟨b, 0, none⟩ = some (.slice pa T.length cp)
  c1 : w.cell? ⟨b, 1, none⟩ = some (.int .i64 i)
  c2 : w.cell? ⟨b, 2, none⟩ = some (.int .i64 el)
  c3 : w.cell? ⟨b, 2 + 1, none⟩ = some (.int .i64 ec)
  c4 : w.cell? ⟨b, 4, none⟩ = some (.int .i64 fe)
  c5 : w.cell? ⟨b, 4 + 1, none⟩ = some (.int .i64 fl)
  c6 : w.cell? ⟨b, 4 + 1 + 1, none⟩ = some (.int .i64 fc)
  free : ∀ o, w.frozen? ⟨b, o, none⟩ = false
theorem PRd.f {w : World} {b : Nat} {pa : Option Addr} {cp : Nat} {T : List Lx.Tok} {e : Nat × Nat} {st : Po.St} (h : PRd w b pa cp T e st) : PRdF w b pa cp T e.1 e.2 st.at_ st.f.1 st.f.2.1 st.f.2.2 :=
  ⟨h.blk.lt, h.blk.cell 0 rfl, h.blk.cell 1 rfl, h.blk.cell 2 rfl, h.blk.cell 3 rfl, h.blk.cell 4 rfl, h.blk.cell 5 rfl, h.blk.cell 6 rfl, h.blk.free⟩
theorem PRd.ext {w w' : World} {b : Nat} {pa : Option Addr} {cp : Nat} {T : List Lx.Tok} {e : Nat × Nat} {st : Po.St} (h : PRd w b pa cp T e st) (hb : Below w.heap.size w w') : PRd w' b pa cp T e st :=
  ⟨h.blk.ext hb, h.row.imp id fun ⟨g, off, hp, hr, hn⟩ => ⟨g, off, hp, tokRow_ext hr hb, hn⟩, h.le, h.small⟩
theorem PRd.touch {w w' : World} {b k : Nat} {pa : Option Addr} {cp : Nat} {T : List Lx.Tok} {e : Nat × Nat} {st : Po.St} (h : PRd w b pa cp T e st) (hb : Touch k w w') (hk : b ≠ k) (hg : ∀ g off, pa = some ⟨g, off, none⟩ → g ≠ k) : PRd w' b pa cp T e st :=
  ⟨h.blk.touch hb hk, h.row.imp id fun ⟨g, off, hp, hr, hn⟩ => ⟨g, off, hp, hr.touch hb (hg g off hp), hn⟩, h.le, h.small⟩
theorem PRd.setAt {w : World} {b : Nat} {pa : Option Addr} {cp : Nat} {T : List Lx.Tok} {e : Nat × Nat} {st : Po.St} (h : PRd w b pa cp T e st) (j : Nat) (hj : j ≤ T.length) :
    PRd (w.setCell ⟨b, 1, none⟩ (.int .i64 j)) b pa cp T e ⟨j, st.f⟩ :=
  ⟨h.blk.set 1 _, h.row.imp id fun ⟨g, off, hp, hr, hn⟩ => ⟨g, off, hp, hr.touch ((Touch.refl b w).setCell 1 _) hn, hn⟩, hj, h.small⟩
theorem PRd.setF {w : World} {b : Nat} {pa : Option Addr} {cp : Nat} {T : List Lx.Tok} {e : Nat × Nat} {st : Po.St} (h : PRd w b pa cp T e st) (x y z : Nat) :
    PRd (((w.setCell ⟨b, 4, none⟩ (.int .i64 x)).setCell ⟨b, 4 + 1, none⟩ (.int .i64 y)).setCell ⟨b, 4 + 1 + 1, none⟩ (.int .i64 z)) b pa cp T e ⟨st.at_, (x, y, z)⟩ :=
  ⟨((h.blk.set 4 _).set 5 _).set 6 _, h.row.imp id fun ⟨g, off, hp, hr, hn⟩ => ⟨g, off, hp, hr.touch ((((Touch.refl b w).setCell 4 _).setCell (4 + 1) _).setCell (4 + 1 + 1) _) hn, hn⟩, h.le, h.small⟩

theorem Touch.setSelf_iff {b : Nat} {a w : World} (o : Nat) (u : Value) : Touch b a (w.setCell ⟨b, o, none⟩ u) ↔ Touch b a w :=
  ⟨fun h => ⟨h.os, h.tape, h.output, by simpa [World.setCell] using h.size, fun i hi hn => (Below.heap_setCell _ _ _ _ (show i ≠ (⟨b, o, none⟩ : Addr).block by simp only; omega)).symm.trans (h.block i hi hn)⟩, fun h => h.setCell o u⟩
theorem PRd.later {w0 w w' : World} {b k : Nat} {pa : Option Addr} {cp : Nat} {T : List Lx.Tok} {e : Nat × Nat} {st0 st : Po.St} (h0 : PRd w0 b pa cp T e st0) (h : PRd w b pa cp T e st) (hk : w0.heap.size ≤ k) (ht : Touch k w w') : PRd w' b pa cp T e st := by
  have hb := h0.blk.lt
  refine ⟨h.blk.touch ht (by omega), ?_, h.le, h.small⟩
  rcases h0.row with h1 | ⟨g, off, hp, hr, hn⟩
  · exact .inl h1
  · rcases h.row with h1 | ⟨g', off', hp', hr', hn'⟩
    · exact .inl h1
    · rw [hp] at hp'
      cases hp'
      have := hr.lt
      exact .inr ⟨g, off, hp, hr'.touch ht (by omega), hn⟩

theorem PRd.setOld_iff {w0 w : World} {b k : Nat} {pa : Option Addr} {cp : Nat} {T : List Lx.Tok} {e : Nat × Nat} {st0 st : Po.St} (h0 : PRd w0 b pa cp T e st0) (hk : w0.heap.size ≤ k) (o : Nat) (u : Value) :
    PRd (w.setCell ⟨k, o, none⟩ u) b pa cp T e st ↔ PRd w b pa cp T e st := by
  have ht : Touch k w (w.setCell ⟨k, o, none⟩ u) := (Touch.refl k w).setCell o u
  refine ⟨fun h => PRd.later h0 h hk ⟨ht.os.symm, ht.tape.symm, ht.output.symm, by simp [World.setCell], fun i hi hn => (ht.block i (by simpa [World.setCell] using hi) hn).symm⟩, fun h => PRd.later h0 h hk ht⟩
theorem PRd.grown {w0 w w' : World} {b : Nat} {row : Option Nat} {pa : Option Addr} {cp : Nat} {T : List Lx.Tok} {e : Nat × Nat} {st0 st : Po.St} (h0 : PRd w0 b pa cp T e st0) (h : PRd w b pa cp T e st) (hg : w.grownBy w' row) (hr : ∀ k, row = some k → w0.heap.size ≤ k) : PRd w' b pa cp T e st := by
  cases row with
  | none => exact PRd.later (k := w0.heap.size) h0 h (Nat.le_refl _) ⟨hg.os, hg.tape, hg.output, hg.size, fun i hi _ => hg.block i hi (by simp)⟩
  | some k => exact PRd.later h0 h (hr k rfl) ⟨hg.os, hg.tape, hg.output, hg.size, fun i hi hn => hg.block i hi (by simpa using hn)⟩
theorem PRd.drewN_iff {w : World} {b : Nat} {pa : Option Addr} {cp : Nat} {T : List Lx.Tok} {e : Nat × Nat} {st : Po.St} (n : Nat) : PRd (w.drewN n) b pa cp T e st ↔ PRd w b pa cp T e st :=
  ⟨fun h => ⟨h.blk, h.row.imp id fun ⟨g, off, hp, hr, hn⟩ => ⟨g, off, hp, ⟨hr.cap, hr.lt, hr.cell⟩, hn⟩, h.le, h.small⟩, fun h => ⟨h.blk, h.row.imp id fun ⟨g, off, hp, hr, hn⟩ => ⟨g, off, hp, ⟨hr.cap, hr.lt, hr.cell⟩, hn⟩, h.le, h.small⟩⟩

/-- the token at the reader's place -/
theorem PRd.tok {w : World} {b : Nat} {pa : Option Addr} {cp : Nat} {T : List Lx.Tok} {e : Nat × Nat} {st : Po.St} (h : PRd w b pa cp T e st) (hi : st.at_ < T.length) :
    ∃ (g off : Nat) (t : Lx.Tok), pa = some ⟨g, off, none⟩ ∧ T[st.at_]? = some t ∧ g ≠ b ∧ (∀ w', TokRow w' g off cp T → TokAt w' g (off + st.at_ * 5) t.kind (Po.txt t.text) t.n t.line t.col) ∧ TokRow w g off cp T := by
  rcases h.row with h0 | ⟨g, off, hp, hr, hn⟩
  · rw [h0] at hi; exact absurd hi (by simp)
  · exact ⟨g, off, T[st.at_], hp, List.getElem?_eq_getElem hi, hn, fun w' hr' => hr'.at hi, hr⟩
theorem txt_eq (t : Lx.Bytes) (s : ByteArray) : ((Po.txt t).toList == s.toList) = (t == s.data.toList) := by
  rw [Bool.eq_iff_iff]
  simp only [beq_iff_eq]
  unfold Po.txt
  rw [ByteArray.toList_mk, ByteArray.toList_eq]

set_option maxHeartbeats 2000000 in
theorem pis_any {w : World} {b : Nat} {pa : Option Addr} {cp : Nat} {T : List Lx.Tok} {e : Nat × Nat} {st : Po.St} (h : PRd w b pa cp T e st) (s : ByteArray) :
    Calls Tryd.prog 87 #[.pointer (some ⟨b, 0, none⟩), .string s] w fun en w' => en = .returned (.bool (Po.is T s.data.toList st)) ∧ Below w.heap.size w w' := by
  have h' := hid h
  have hsm := h.small
  obtain ⟨i, fe, fl, fc⟩ := st
  obtain ⟨hz, c0, c1, c2, c3, c4, c5, c6, hf⟩ := h.f
  simp only at c0 c1 c2 c3 c4 c5 c6
  clear h
  by_cases h0 : fe = 0
  · subst h0
    by_cases hi : i < T.length
    · obtain ⟨g, off, t, rfl, ht, hn, hat, hr⟩ := h'.out.tok hi
      have he := hid (show Po.is T s.data.toList ⟨i, 0, fl, fc⟩ = ((Po.txt t.text).toList == s.toList) by unfold Po.is; rw [txt_eq]; simp only [ht]; rfl)
      obtain ⟨d0, d1, d2, d3, d4⟩ := hat _ hr
      have hg := hr.lt
      clear hr hat ht
      generalize Po.txt t.text = x at *
      cases hx : (x.toList == s.toList) with
      | true =>
        go_enter Tryd.func87, Tryd.ntmps87
        go_wp2_with fail
        go_quiet (fail)
        go_wp2_with fail
        go_ret
        rw [he.out, hx]
        exact ⟨rfl, bdrewN (Below.refl _ _) _⟩
      | false =>
        go_enter Tryd.func87, Tryd.ntmps87
        go_wp2_with fail
        go_quiet (fail)
        go_wp2_with fail
        go_ret
        rw [he.out, hx]
        exact ⟨rfl, bdrewN (Below.refl _ _) _⟩
    · have hi' : decide ((i : Int) < T.length) = false := decide_eq_false (by omega)
      have he : Po.is T s.data.toList ⟨i, 0, fl, fc⟩ = false := by unfold Po.is; simp only [List.getElem?_eq_none (show T.length ≤ i by omega)]; rfl
      rw [he]
      go_enter Tryd.func87, Tryd.ntmps87
      go_wp2_with fail
      go_quiet (fail)
      go_wp2_with fail
      go_ret
      exact ⟨rfl, bdrewN (Below.refl _ _) _⟩
  · have h0' : ((fe : Int) == 0) = false := by rw [beq_eq_false_iff_ne]; omega
    have he : Po.is T s.data.toList ⟨i, fe, fl, fc⟩ = false := by unfold Po.is; simp [h0]
    rw [he]
    clear h0
    go_enter Tryd.func87, Tryd.ntmps87
    go_wp2_with fail
    go_quiet (fail)
    go_wp2_with fail
    go_ret
    exact ⟨rfl, bdrewN (Below.refl _ _) _⟩

end Go.Proofs.YtnoieobjfihbeaaDoor

namespace Go.Proofs.YtnoieobjfihbeaaDoor
open Go.RowKit Go.Sort

set_option maxHeartbeats 2000000 in
theorem pkind_any {w : World} {b : Nat} {pa : Option Addr} {cp : Nat} {T : List Lx.Tok} {e : Nat × Nat} {st : Po.St} (h : PRd w b pa cp T e st) (k : Nat) :
    Calls Tryd.prog 94 #[.pointer (some ⟨b, 0, none⟩), .int .i64 k] w fun en w' => en = .returned (.bool (Po.kindIs T k st)) ∧ Below w.heap.size w w' := by
  have h' := hid h
  have hsm := h.small
  obtain ⟨i, fe, fl, fc⟩ := st
  obtain ⟨hz, c0, c1, c2, c3, c4, c5, c6, hf⟩ := h.f
  simp only at c0 c1 c2 c3 c4 c5 c6
  clear h
  by_cases h0 : fe = 0
  · subst h0
    by_cases hi : i < T.length
    · obtain ⟨g, off, t, rfl, ht, hn, hat, hr⟩ := h'.out.tok hi
      have hk2 : ((t.kind : Int) == (k : Int)) = (t.kind == k) := by rw [Bool.eq_iff_iff]; simp only [beq_iff_eq]; omega
      have he : Po.kindIs T k ⟨i, 0, fl, fc⟩ = ((t.kind : Int) == (k : Int)) := by
        rw [hk2]; unfold Po.kindIs; simp only [ht]; rfl
      clear hk2
      have he' := hid he
      obtain ⟨d0, d1, d2, d3, d4⟩ := hat _ hr
      have hg := hr.lt
      clear hr hat ht he
      cases hx : ((t.kind : Int) == (k : Int)) with
      | true =>
        go_enter Tryd.func94, Tryd.ntmps94
        go_wp2_with fail
        go_quiet (fail)
        go_wp2_with fail
        go_ret
        rw [he'.out, hx]
        exact ⟨rfl, bdrewN (Below.refl _ _) _⟩
      | false =>
        go_enter Tryd.func94, Tryd.ntmps94
        go_wp2_with fail
        go_quiet (fail)
        go_wp2_with fail
        go_ret
        rw [he'.out, hx]
        exact ⟨rfl, bdrewN (Below.refl _ _) _⟩
    · have hi' : decide ((i : Int) < T.length) = false := decide_eq_false (by omega)
      have he : Po.kindIs T k ⟨i, 0, fl, fc⟩ = false := by unfold Po.kindIs; simp only [List.getElem?_eq_none (show T.length ≤ i by omega)]; rfl
      rw [he]
      go_enter Tryd.func94, Tryd.ntmps94
      go_wp2_with fail
      go_quiet (fail)
      go_wp2_with fail
      go_ret
      exact ⟨rfl, bdrewN (Below.refl _ _) _⟩
  · have h0' : ((fe : Int) == 0) = false := by rw [beq_eq_false_iff_ne]; omega
    have he : Po.kindIs T k ⟨i, fe, fl, fc⟩ = false := by unfold Po.kindIs; simp [h0]
    rw [he]
    clear h0
    go_enter Tryd.func94, Tryd.ntmps94
    go_wp2_with fail
    go_quiet (fail)
    go_wp2_with fail
    go_ret
    exact ⟨rfl, bdrewN (Below.refl _ _) _⟩

set_option maxHeartbeats 2000000 in
theorem pplace_any {w : World} {b : Nat} {pa : Option Addr} {cp : Nat} {T : List Lx.Tok} {e : Nat × Nat} {st : Po.St} (h : PRd w b pa cp T e st) :
    Calls Tryd.prog 56 #[.pointer (some ⟨b, 0, none⟩)] w fun en w' => en = .returned (.agg #[.int .i64 (Po.place T e st).1, .int .i64 (Po.place T e st).2]) ∧ Below w.heap.size w w' := by
  have h' := hid h
  have hsm := h.small
  obtain ⟨i, fe, fl, fc⟩ := st
  obtain ⟨hz, c0, c1, c2, c3, c4, c5, c6, hf⟩ := h.f
  simp only at c0 c1 c2 c3 c4 c5 c6
  clear h
  have hnb : w.heap.size ≠ b := by omega
  have hn2 := Nat.le_refl w.heap.size
  by_cases hi : i < T.length
  · obtain ⟨g, off, t, rfl, ht, hn, hat, hr⟩ := h'.out.tok hi
    have he := hid (show Po.place T e ⟨i, fe, fl, fc⟩ = (t.line, t.col) by unfold Po.place; simp only [ht])
    obtain ⟨d0, d1, d2, d3, d4⟩ := hat _ hr
    have hg := hr.lt
    have hng : w.heap.size ≠ g := by omega
    clear hr hat ht
    rw [he.out]
    go_enter Tryd.func56, Tryd.ntmps56
    go_wp2_with fail
    go_quiet (fail)
    go_wp2_with fail
    go_region_held3 (fun w' => w'.cell? ⟨b, 0, none⟩ = some (.slice (some ⟨g, off, none⟩) T.length cp) ∧ w'.cell? ⟨b, 1, none⟩ = some (.int .i64 i) ∧ w'.cell? ⟨g, off + i * 5 + 3, none⟩ = some (.int .i64 t.line) ∧ w'.cell? ⟨g, off + i * 5 + 3 + 1, none⟩ = some (.int .i64 t.col)) (go_keep) (first | fail)
    go_wp2_with fail
    have Q := hid (balloc w (.cells #[.int .i64 0, .int .i64 0] 30))
    exact bodyPost_ret (v := .agg #[.int .i64 t.line, .int .i64 t.col]) (by simp [results, Tryd.results56, go_sem]) rfl ⟨rfl, (by simp only [below_setNew_iff hn2, below_drewN_iff]; exact Q.out)⟩
  · have hi' : decide ((i : Int) < T.length) = false := decide_eq_false (by omega)
    have he := hid (show Po.place T e ⟨i, fe, fl, fc⟩ = e by unfold Po.place; simp only [List.getElem?_eq_none (show T.length ≤ i by omega)])
    rw [he.out]
    go_enter Tryd.func56, Tryd.ntmps56
    go_wp2_with fail
    go_quiet (fail)
    go_wp2_with fail
    have Q := hid (balloc w (.cells #[.int .i64 0, .int .i64 0] 30))
    exact bodyPost_ret (v := .agg #[.int .i64 e.1, .int .i64 e.2]) (by simp [results, Tryd.results56, go_sem]) rfl ⟨rfl, (by simp only [below_setNew_iff hn2, below_drewN_iff]; exact Q.out)⟩

set_option maxHeartbeats 2000000 in
theorem pwrong_any {w : World} {b : Nat} {pa : Option Addr} {cp : Nat} {T : List Lx.Tok} {e : Nat × Nat} {st : Po.St} (h : PRd w b pa cp T e st) :
    Calls Tryd.prog 62 #[.pointer (some ⟨b, 0, none⟩)] w fun en w' => en = .returned (.tuple #[]) ∧ PRd w' b pa cp T e (Po.wrong T e st) ∧ Touch b w w' := by
  have h' := hid h
  obtain ⟨i, fe, fl, fc⟩ := st
  obtain ⟨hz, c0, c1, c2, c3, c4, c5, c6, hf⟩ := h.f
  simp only at c0 c1 c2 c3 c4 c5 c6
  clear h
  by_cases h0 : fe = 0
  · subst h0
    have he := hid (show Po.wrong T e ⟨i, 0, fl, fc⟩ = ⟨i, (31, (Po.place T e ⟨i, 0, fl, fc⟩).1, (Po.place T e ⟨i, 0, fl, fc⟩).2)⟩ by unfold Po.wrong Lx.mkFault; rfl)
    go_enter Tryd.func62, Tryd.ntmps62
    go_wp2_with fail
    refine (pplace_any h'.out).mono ?_
    rintro en w1 ⟨rfl, hb1⟩
    have h1 := hid (h'.out.ext hb1)
    have t1 := hid (Touch.of_below (b := b) hb1)
    clear c0 c1 c2 c3 c4 c5 c6 hf hz
    obtain ⟨hz, c0, c1, c2, c3, c4, c5, c6, hf⟩ := h1.out.f
    go_wp2_with fail
    go_end0
    rw [he.out]
    exact ⟨rfl, h1.out.setF _ _ _, ((t1.out.setCell _ _).setCell _ _).setCell _ _⟩
  · have h0' : ((fe : Int) == 0) = false := by rw [beq_eq_false_iff_ne]; omega
    have he : Po.wrong T e ⟨i, fe, fl, fc⟩ = ⟨i, fe, fl, fc⟩ := by unfold Po.wrong; rw [if_neg h0]
    rw [he]
    go_enter Tryd.func62, Tryd.ntmps62
    go_wp2_with fail
    go_end0
    exact ⟨rfl, h'.out, Touch.refl _ _⟩

set_option maxHeartbeats 2000000 in
theorem ptook_any {w : World} {b : Nat} {pa : Option Addr} {cp : Nat} {T : List Lx.Tok} {e : Nat × Nat} {st : Po.St} (h : PRd w b pa cp T e st) (s : ByteArray) :
    Calls Tryd.prog 58 #[.pointer (some ⟨b, 0, none⟩), .string s] w fun en w' => en = .returned (.bool (Po.is T s.data.toList st)) ∧ PRd w' b pa cp T e (Po.took T s.data.toList st) ∧ Touch b w w' := by
  have h' := hid h
  have hsm := h.small
  cases hs : Po.is T s.data.toList st with
  | true =>
    have hl := Po.lt_of_is hs
    have ht := hid (Po.took_on hs)
    have hq := hid hs
    clear hs h
    go_enter Tryd.func58, Tryd.ntmps58
    go_wp2_with fail
    refine (pis_any h'.out s).mono ?_
    rintro en w1 ⟨rfl, hb1⟩
    have h1 := hid (h'.out.ext hb1)
    have t1 := hid (Touch.of_below (b := b) hb1)
    rw [hq.out]
    clear hq
    obtain ⟨i, fe, fl, fc⟩ := st
    obtain ⟨hz, c0, c1, c2, c3, c4, c5, c6, hf⟩ := h1.out.f
    simp only at c0 c1 c2 c3 c4 c5 c6 hl
    go_wp2_with fail
    go_ret
    rw [ht.out]
    exact ⟨rfl, h1.out.setAt (i + 1) (by omega), t1.out.setCell _ _⟩
  | false =>
    have ht := hid (Po.took_not hs)
    have hq := hid hs
    clear hs h
    go_enter Tryd.func58, Tryd.ntmps58
    go_wp2_with fail
    refine (pis_any h'.out s).mono ?_
    rintro en w1 ⟨rfl, hb1⟩
    have h1 := hid (h'.out.ext hb1)
    have t1 := hid (Touch.of_below (b := b) hb1)
    rw [hq.out]
    go_wp2_with fail
    go_ret
    rw [ht.out]
    exact ⟨rfl, h1.out, t1.out⟩
/-- 'took' where the answer is known -/
theorem ptook_yes {w : World} {b : Nat} {pa : Option Addr} {cp : Nat} {T : List Lx.Tok} {e : Nat × Nat} {st : Po.St} (h : PRd w b pa cp T e st) {s : ByteArray} (hs : Po.is T s.data.toList st = true) :
    Calls Tryd.prog 58 #[.pointer (some ⟨b, 0, none⟩), .string s] w fun en w' => en = .returned (.bool true) ∧ PRd w' b pa cp T e (Po.on st) ∧ Touch b w w' := by
  have := ptook_any h s; rwa [hs, Po.took_on hs] at this
theorem ptook_no {w : World} {b : Nat} {pa : Option Addr} {cp : Nat} {T : List Lx.Tok} {e : Nat × Nat} {st : Po.St} (h : PRd w b pa cp T e st) {s : ByteArray} (hs : Po.is T s.data.toList st = false) :
    Calls Tryd.prog 58 #[.pointer (some ⟨b, 0, none⟩), .string s] w fun en w' => en = .returned (.bool false) ∧ PRd w' b pa cp T e st ∧ Touch b w w' := by
  have := ptook_any h s; rwa [hs, Po.took_not hs] at this

set_option maxHeartbeats 2000000 in
theorem pwant_any {w : World} {b : Nat} {pa : Option Addr} {cp : Nat} {T : List Lx.Tok} {e : Nat × Nat} {st : Po.St} (h : PRd w b pa cp T e st) (s : ByteArray) :
    Calls Tryd.prog 63 #[.pointer (some ⟨b, 0, none⟩), .string s] w fun en w' => en = .returned (.tuple #[]) ∧ PRd w' b pa cp T e (Po.want T e s.data.toList st) ∧ Touch b w w' := by
  cases hs : Po.is T s.data.toList st with
  | true =>
    have ht := hid (Po.want_on (e := e) hs)
    have hc := ptook_yes h hs
    clear hs h
    go_enter Tryd.func63, Tryd.ntmps63
    go_wp2_with fail
    refine hc.mono ?_
    rintro en w1 ⟨rfl, h1, t1⟩
    have h1' := hid h1
    have t1' := hid t1
    clear h1 t1
    go_wp2_with fail
    go_end0
    rw [ht.out]
    exact ⟨rfl, h1'.out, t1'.out⟩
  | false =>
    have ht := hid (Po.want_not (e := e) hs)
    have hc := ptook_no h hs
    clear hs h
    go_enter Tryd.func63, Tryd.ntmps63
    go_wp2_with fail
    refine hc.mono ?_
    rintro en w1 ⟨rfl, h1, t1⟩
    have h1' := hid h1
    have t1' := hid t1
    clear h1 t1
    go_wp2_with fail
    refine (pwrong_any h1'.out).mono ?_
    rintro en w2 ⟨rfl, h2, t2⟩
    have h2' := hid h2
    have t2' := hid t2
    clear h2 t2
    go_wp2_with fail
    go_end0
    rw [ht.out]
    exact ⟨rfl, h2'.out, t1'.out.trans t2'.out⟩

end Go.Proofs.YtnoieobjfihbeaaDoor
