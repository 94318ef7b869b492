/- The walk of the reference's Tokens. -/
import Derived.Test.YtoegepgdfnokdaaLexT
namespace Go.Proofs.Ytoegepgdfnokdaa
open Go.RowKit Go.Sort

theorem RTokPost.shape {s : ByteArray} {i : Nat} {e : Ending} (h : RTokPost s i e) : ∃ (k : Nat) (t : ByteArray) (n er : Nat), e = .returned (.tuple #[tokV k t n 0 0, .int .i64 er]) := by
  unfold RTokPost at h
  split at h
  · exact ⟨_, _, _, 0, h.1⟩
  · obtain ⟨k, t, n, he, _⟩ := h; exact ⟨k, t, n, _, he⟩
theorem rskip_nat (s : ByteArray) (i : Nat) (w : World) (h1 : i ≤ s.size) (hs : s.size ≤ 140737488355328) :
    Calls Try.prog 23 #[.string s, .int .i64 i] w fun e w' => e = .returned (.int .i64 (i + Lx.skipN false (s.data.toList.drop i) : Nat)) ∧ w = w' :=
  (rskip_any s i w (by omega) (by omega) hs).mono fun _ _ h => h
theorem rplace_nat (s : ByteArray) (a : Nat) (w : World) (h1 : a ≤ s.size) (hs : s.size ≤ 140737488355328) :
    Calls Try.prog 12 #[.string s, .int .i64 a] w fun e w' => e = .returned (.agg #[.int .i64 (Lx.posOf (s.data.toList.take a)).1, .int .i64 (Lx.posOf (s.data.toList.take a)).2]) ∧ Below w.heap.size w w' :=
  (rplace_any s a w (by omega) (by omega) hs).mono fun _ _ h => h

set_option maxHeartbeats 2000000 in
theorem rtokens_any (s : ByteArray) (w : World) (hs : s.size ≤ 140737488355328) :
    Calls Try.prog 13 #[.string s] w fun e w' => TokensPost s.data.toList e w' ∧ Below w.heap.size w w' := by
  obtain ⟨i0, hinf, hz0, hz1, hz2⟩ := info_parts Try.infoTok
  have hn2 := Nat.le_refl w.heap.size
  by_cases h512 : 512 < s.size
  · go_enter Try.func13, Try.ntmps13
    go_wp2_with fail
    refine bodyPost_ret (v := .tuple #[.slice none 0 0, .agg #[.int .i64 2, .int .i64 1, .int .i64 1]]) (by simp [results, Try.results13, go_sem]) rfl ⟨?_, balloc _ _⟩
    unfold TokensPost Lx.tokens
    rw [if_pos (by simpa using h512)]
    exact ⟨_, rfl, Row.nil _ _, by decide⟩
  · have h512' : s.size ≤ 512 := by omega
    clear h512
    go_enter Try.func13, Try.ntmps13
    go_wp2_with fail
    have hsk0 := Lx.skipN_le false (s.data.toList.drop 0)
    rw [List.length_drop, list_len] at hsk0
    refine (rskip_nat s 0 _ (by omega) hs).mono ?_
    rintro e w1 ⟨rfl, rfl⟩
    generalize ha0 : 0 + Lx.skipN false (s.data.toList.drop 0) = a0 at *
    have ha0' := hid ha0
    have hb0 : a0 ≤ s.size := by omega
    clear ha0
    go_wp2_with fail
    go_loopg [4, 5] (s.size + 1) (fun g u v wr => ∃ (i a n : Nat) (ts : List Lx.Tok), v = .int .i64 a ∧ i + Lx.skipN false (s.data.toList.drop i) = a ∧ a ≤ s.size ∧ n ≤ i ∧ n = ts.length ∧ Toking s.data.toList g i ts ∧ Blk wr w.heap.size #[.int .i64 0, .int .i64 0, .int .i64 0] 27 ∧
      wr.ownsRow (w.heap.size + 1) 37 5 u n (toksCells ts) ∧ Below w.heap.size w wr)
    case atStart => exact ⟨0, a0, 0, [], rfl, ha0'.out, hb0, Nat.le_refl _, rfl, by have := Toking.begin s.data.toList; rwa [list_len] at this, Blk.new _ _ _, World.ownsRow_nil _ _ _ _, balloc _ _⟩
    case round =>
      obtain ⟨i, a, n, ts, rfl, hia, hale, hni, hnl, htk, hB, hown, hQ⟩ := hrel
      have hnl' := hid hnl
      have htk' := hid htk
      have hB' := hid hB
      have hown' := hid hown
      have hQ' := hid hQ
      have hgk : 0 < gk := by have := htk.1; omega
      have htE := hid (fun h => Toking.end htk h (by rw [list_len]; exact h512'))
      have htR := hid (fun er h1 h2 => Toking.err (er := er) htk h1 (by rw [list_len]; exact h512') h2)
      obtain ⟨gk', rfl⟩ : ∃ g', gk = g' + 1 := ⟨gk - 1, by omega⟩
      have htO := hid (fun k t n h1 h2 => Toking.ok (k := k) (t := t) (n := n) htk h1 h2)
      have hnia : n ≤ a := by omega
      rw [hia] at htE htR htO
      clear hnl htk hB hown hQ hia
      by_cases hend : a < s.size
      · have hlen : a < s.data.toList.length := by simpa using hend
        go_wp2_with fail
        refine (rtoken_any wr hend hs).mono ?_
        rintro e w2 ⟨hnp, hb2⟩
        have hB2 := hid (hB'.out.ext hb2)
        have hown2 := hid (owns_ext hown'.out hb2)
        have hQ2 := hid (bthen hQ'.out hb2)
        unfold RTokPost at hnp
        cases htk2 : Lx.tok (s.data.toList.drop a) with
        | error er =>
          rw [htk2] at hnp
          obtain ⟨k, t, m, rfl, her⟩ := hnp
          have hfin := hid (htR.out er hlen htk2)
          clear htk2 hlen
          unfold tokV
          go_wp2_with fail
          refine (rplace_nat s a _ hale hs).mono ?_
          rintro e w3 ⟨rfl, hb3⟩
          have hB3 := hid (((hB2.out.alloc _).alloc _).ext hb3)
          have hQ3 := hid (bthen ((hQ2.out.alloc hQ2.out.size _).alloc (by have := hQ2.out.size; simp; omega) _) hb3)
          have hz3 := hb3.size
          simp only [World.size_alloc] at hz3
          obtain ⟨d0, d1, d2, df, dz⟩ := hB3.out.three
          go_wp2_with fail
          refine bodyPost_ret (v := .tuple #[.slice (some ⟨w2.heap.size + 1, 0, none⟩) 0 0, .agg #[.int .i64 er, .int .i64 (Lx.posOf (s.data.toList.take a)).1, .int .i64 (Lx.posOf (s.data.toList.take a)).2]]) (by simp [results, Try.results13, go_sem, d0, d1, d2]) rfl ⟨?_, (by simp only [below_setNew_iff hn2]; exact hQ3.out)⟩
          unfold TokensPost
          rw [hfin.out]
          exact ⟨_, rfl, Row.empty (by simp; omega) _, by intro h0; rw [h0] at her; simp at her⟩
        | ok x =>
          obtain ⟨k, t, m⟩ := x
          rw [htk2] at hnp
          obtain ⟨rfl, hle5⟩ := hnp
          have htk5 := hid (htO.out k t m hlen htk2)
          have q1 : 1 ≤ t.length := Lx.tok_pos htk2
          clear htk2 hlen
          unfold tokV
          go_wp2_with fail
          have hz2' := hb2.size
          refine (rplace_nat s a _ hale hs).mono ?_
          rintro e w3 ⟨rfl, hb3⟩
          have hB3 := hid ((hB2.out.alloc _).ext hb3)
          have hT3 := hid ((Blk.new w2 #[.int .i64 k, .string ⟨t.toArray⟩, .int .i64 m, .int .i64 0, .int .i64 0] 37).ext hb3)
          have hown3 := hid (owns_ext (hown2.out.alloc _) hb3)
          have hQ3 := hid (bthen (hQ2.out.alloc hQ2.out.size _) hb3)
          have hz3 := hb3.size
          simp only [World.size_alloc] at hz3
          have hnw : w.heap.size ≤ w2.heap.size := hQ2.out.size
          have hne : u4.ownBlock ≠ some w2.heap.size := fun e => by have := (hown2.out.lt _ e).2; omega
          have hne2 : w.heap.size ≠ w2.heap.size := by have := hB2.out.lt; omega
          obtain ⟨c0, c1, c2, c3, c4, cf, cz⟩ := hT3.out.five
          have hcap : n + 1 ≤ maxLen := by unfold maxLen; omega
          have hW := hid (show ∀ x y, ((w3.setCell ⟨w2.heap.size, 3, none⟩ x).setCell ⟨w2.heap.size, 4, none⟩ y).ownsRow (w.heap.size + 1) 37 5 u4 n (toksCells ts) from fun x y => ownsRow_setCell_other (ownsRow_setCell_other hown3.out (a := ⟨w2.heap.size, 3, none⟩) hne x) (a := ⟨w2.heap.size, 4, none⟩) hne y)
          have hc1 := hid (fun x y => cells_new ((w3.setCell ⟨w2.heap.size, 3, none⟩ x).setCell ⟨w2.heap.size, 4, none⟩ y) (tokCells (Lx.tokAt s.data.toList a k t m)) 37 (k := w3.heap.size) (by simp))
          go_wp2_with (first | (at_builtin; refine wpList_append_own _ rfl _ _ 22 rfl (w.heap.size + 1) 37 i0 (.agg #[.int .i64 0, .string ⟨#[]⟩, .int .i64 0, .int .i64 0, .int .i64 0]) 5 48 Try.underlying22 hinf hz0 hz1 hz2 rfl (by decide) _ _ _ rfl ((hW.out _ _).alloc _) ⟨w3.heap.size, 0, none⟩ 1 1 (tokCells (Lx.tokAt s.data.toList a k t m)) rfl rfl (hc1.out _ _) (tokCells_one _) hcap (by omega) (by simp; omega) ?_; intro v' w5 hown5 hgrow _; have hT5 := (Blk.grown (((hT3.out.set 3 _).set 4 _).alloc _) hgrow hne).cell 1 (v := .string ⟨t.toArray⟩) rfl))
          refine (rskip_any s (a + t.length : Int) _ (by omega) (by omega) hs).mono ?_
          rintro e w6 ⟨rfl, rfl⟩
          simp only [show ((a : Int) + t.length).toNat = a + t.length by omega]
          have hskl := Lx.skipN_le false (s.data.toList.drop (a + t.length))
          rw [List.length_drop, list_len] at hskl
          generalize ha' : a + t.length + Lx.skipN false (s.data.toList.drop (a + t.length)) = a' at *
          have ha'' := hid ha'
          have hale' : a' ≤ s.size := by omega
          clear ha'
          go_wp2_with fail
          go_roundg gk'
          case measure => omega
          case rel =>
            have hown4a := (hW.out (.int .i64 (Lx.posOf (s.data.toList.take a)).1) (.int .i64 (Lx.posOf (s.data.toList.take a)).2)).alloc (.cells (tokCells (Lx.tokAt s.data.toList a k t m)).toArray 37)
            refine ⟨a + t.length, a', n + 1, ts ++ [Lx.tokAt s.data.toList a k t m], rfl, ha''.out, hale', by omega, by rw [List.length_append, ← hnl'.out]; rfl, htk5.out, ?_, ?_, ?_⟩
            · exact Blk.grown (Blk.alloc (Blk.setOther (Blk.setOther hB3.out hne2 _ _) hne2 _ _) _) hgrow (own_ne hown4a (by omega))
            · rw [toksCells_snoc]; exact hown5
            · exact ((bset (bset hQ3.out hnw _) hnw _).alloc (by have := hQ3.out.size; simp; omega) _).grown hgrow (by have := hQ3.out.size; simp; omega) (fun k hk => by have := (hown4a.lt k hk).1; omega)
      · obtain rfl : a = s.size := by omega
        obtain ⟨d0, d1, d2, df, dz⟩ := hB'.out.three
        go_wp2_with fail
        refine bodyPost_ret (v := .tuple #[u4, .agg #[.int .i64 0, .int .i64 0, .int .i64 0]]) (by simp [results, Try.results13, go_sem, d0, d1, d2]) rfl ⟨?_, (by simp only [below_setNew_iff hn2]; exact hQ'.out)⟩
        unfold TokensPost
        rw [htE.out (by simp)]
        refine ⟨u4, rfl, ?_⟩
        rw [← hnl'.out]
        exact Row.of_owns (owns_touch hown'.out ((((Touch.refl w.heap.size wr).setCell 0 _).setCell 1 _).setCell 2 _) (by omega))

end Go.Proofs.Ytoegepgdfnokdaa
