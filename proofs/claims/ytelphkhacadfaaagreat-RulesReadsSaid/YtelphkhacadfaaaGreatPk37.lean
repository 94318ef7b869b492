/-
  The walks of the lexer's reference: token, Tokens.
  The walk of the reference's Tokens.
  Plain laws of the lexer, more: what is lexed again; places; names. No program.
  Plain laws of the lexer: what each law says. No program.
-/
import Derived.Test.YtelphkhacadfaaaGreatPk36
import Derived.Test.YtelphkhacadfaaaGreatPk09

namespace Go.Proofs.YtelphkhacadfaaaGreat
open Go.RowKit Go.Sort

theorem run_inner (s : ByteArray) (i : Nat) (w : World) (h1 : i ≤ s.size) (hs : s.size ≤ 140737488355328) :
    Calls Tryz.prog 68 #[.string s, .int .i64 i, .bool false] w fun e w' => e = .returned (.int .i64 (Lx.runN Lx.inner (s.data.toList.drop i))) ∧ w = w' :=
  (run_any s i false w (by omega) (by omega) hs).mono fun _ _ h => h
theorem run_digit (s : ByteArray) (i : Nat) (w : World) (h1 : i ≤ s.size) (hs : s.size ≤ 140737488355328) :
    Calls Tryz.prog 68 #[.string s, .int .i64 i, .bool true] w fun e w' => e = .returned (.int .i64 (Lx.runN Lx.digit (s.data.toList.drop i))) ∧ w = w' :=
  (run_any s i true w (by omega) (by omega) hs).mono fun _ _ h => h

/-- what the reference's 'token' gives back, by the plain lexer -/
def RTokPost (s : ByteArray) (i : Nat) (e : Ending) : Prop :=
  match Lx.tok (s.data.toList.drop i) with
  | .ok (k, t, n) => e = .returned (.tuple #[tokV k ⟨t.toArray⟩ n 0 0, .int .i64 0]) ∧ i + t.length ≤ s.size
  | .error er => ∃ k t n, e = .returned (.tuple #[tokV k t n 0 0, .int .i64 er]) ∧ ((er : Int) != 0) = true

set_option maxHeartbeats 1000000 in
/-- a letter -/
theorem rtoken_name {s : ByteArray} {i : Nat} (w : World) (hi : i < s.size) (hs : s.size ≤ 140737488355328) (hl : Lx.letter s[i] = true) :
    Calls Tryz.prog 28 #[.string s, .int .i64 i] w fun e w' => RTokPost s i e ∧ Below w.heap.size w w' := by
  have hle := Lx.runN_le Lx.inner (s.data.toList.drop i)
  rw [List.length_drop, list_len] at hle
  have hx := hid (extract_run s i Lx.inner)
  have hxs := extract_size' s i (Lx.runN Lx.inner (s.data.toList.drop i)) (by omega)
  have hd : s.data.toList.drop i = s[i] :: s.data.toList.drop (i + 1) := Lx.drop_cons (by simpa using hi)
  have ht : Lx.tok (s.data.toList.drop i) = if 16 < Lx.runN Lx.inner (s.data.toList.drop i) then .error 2 else .ok (if Lx.isWord ((s.data.toList.drop i).takeWhile Lx.inner) then 2 else 1, (s.data.toList.drop i).takeWhile Lx.inner, 0) := by
    conv => lhs; rw [hd]
    simp only [Lx.tok, hl, if_true, ← hd]
    rfl
  have hxa : s.extract i (i + Lx.runN Lx.inner (s.data.toList.drop i)) = ⟨((s.data.toList.drop i).takeWhile Lx.inner).toArray⟩ := by rw [extract_eq, take_runN]
  have hlen : ((s.data.toList.drop i).takeWhile Lx.inner).length = Lx.runN Lx.inner (s.data.toList.drop i) := rfl
  have ht' := hid ht
  have hxa' := hid hxa
  have hlen' := hid hlen
  have hn2 := Nat.le_refl w.heap.size
  clear hd ht hxa hlen
  go_enter Tryz.func28, Tryz.ntmps28
  go_wp2_with (first | (go_at_call 67; refine (rletter_any _ _).mono ?_; rintro e w1 ⟨rfl, rfl⟩))
  refine (run_inner s i _ (by omega) hs).mono ?_
  rintro e w1 ⟨rfl, rfl⟩
  generalize hn : Lx.runN Lx.inner (s.data.toList.drop i) = n at *
  generalize htx : s.extract i (i + n) = tx at *
  have hn' := hid hn
  clear hn
  by_cases h16 : 16 < n
  · rw [if_pos h16] at ht'
    go_wp2_with fail
    refine bodyPost_ret (v := .tuple #[tokV 0 tx 0 0 0, .int .i64 2]) (by simp [results, Tryz.results28, go_sem, tokV]) rfl ⟨?_, balloc _ _⟩
    unfold RTokPost
    rw [ht'.out]
    exact ⟨_, _, _, rfl, by decide⟩
  · rw [if_neg h16] at ht'
    go_wp2_with fail
    refine (rword_any _ _).mono ?_
    rintro e w1 ⟨rfl, hb1⟩
    have B1 := hid ((Blk.new w #[.int .i64 0, .string ⟨#[]⟩, .int .i64 0, .int .i64 0, .int .i64 0] 81).ext hb1)
    have Q1 := hid (bthen (balloc w _) hb1)
    obtain ⟨d0, d1, d2, d3, d4, df, dz⟩ := B1.out.five
    rw [hx.out]
    cases hw : Lx.isWord ((s.data.toList.drop i).takeWhile Lx.inner) with
    | true =>
      rw [hw] at ht'
      go_wp2_with fail
      refine bodyPost_ret (v := .tuple #[tokV 2 tx 0 0 0, .int .i64 0]) (by simp [results, Tryz.results28, go_sem, tokV, d0, d1, d2, d3, d4]) rfl ⟨?_, (by simp only [below_setNew_iff hn2]; exact Q1.out)⟩
      unfold RTokPost
      rw [ht'.out]
      refine ⟨by rw [hxa'.out]; rfl, ?_⟩
      rw [hlen'.out]; omega
    | false =>
      rw [hw] at ht'
      go_wp2_with fail
      refine bodyPost_ret (v := .tuple #[tokV 1 tx 0 0 0, .int .i64 0]) (by simp [results, Tryz.results28, go_sem, tokV, d0, d1, d2, d3, d4]) rfl ⟨?_, (by simp only [below_setNew_iff hn2]; exact Q1.out)⟩
      unfold RTokPost
      rw [ht'.out]
      refine ⟨by rw [hxa'.out]; rfl, ?_⟩
      rw [hlen'.out]; omega

theorem rnum_isNone {L : Lx.Bytes} : Lx.number L = none ↔ (Lx.number L).isSome = false := by cases Lx.number L <;> simp

set_option maxHeartbeats 1000000 in
/-- a digit -/
theorem rtoken_digits {s : ByteArray} {i : Nat} (w : World) (hi : i < s.size) (hs : s.size ≤ 140737488355328) (hl : Lx.letter s[i] = false) (hg : Lx.digit s[i] = true) :
    Calls Tryz.prog 28 #[.string s, .int .i64 i] w fun e w' => RTokPost s i e ∧ Below w.heap.size w w' := by
  have hle := Lx.runN_le Lx.digit (s.data.toList.drop i)
  rw [List.length_drop, list_len] at hle
  have hx := hid (extract_run s i Lx.digit)
  have hxs := extract_size' s i (Lx.runN Lx.digit (s.data.toList.drop i)) (by omega)
  have hd : s.data.toList.drop i = s[i] :: s.data.toList.drop (i + 1) := Lx.drop_cons (by simpa using hi)
  have ht : Lx.tok (s.data.toList.drop i) = match Lx.number ((s.data.toList.drop i).takeWhile Lx.digit) with | none => .error 10 | some n => .ok (3, (s.data.toList.drop i).takeWhile Lx.digit, n) := by
    conv => lhs; rw [hd]
    simp only [Lx.tok, hl, hg, if_true, ← hd, Bool.false_eq_true, if_false]
    cases Lx.number ((s.data.toList.drop i).takeWhile Lx.digit) <;> rfl
  have hxa : s.extract i (i + Lx.runN Lx.digit (s.data.toList.drop i)) = ⟨((s.data.toList.drop i).takeWhile Lx.digit).toArray⟩ := by rw [extract_eq, take_runN]
  have hlen : ((s.data.toList.drop i).takeWhile Lx.digit).length = Lx.runN Lx.digit (s.data.toList.drop i) := rfl
  have hpos : 0 < Lx.runN Lx.digit (s.data.toList.drop i) := by
    rw [Lx.runN_step (by rw [Lx.hdIs_lt (by simpa using hi)]; exact hg)]; omega
  have ht' := hid ht
  have hxa' := hid hxa
  have hlen' := hid hlen
  have hn2 := Nat.le_refl w.heap.size
  clear hd ht hxa hlen
  go_enter Tryz.func28, Tryz.ntmps28
  go_wp2_with (first | (go_at_call 67; refine (rletter_any _ _).mono ?_; rintro e w1 ⟨rfl, rfl⟩) | (go_at_call 70; refine (rdigit_any _ _).mono ?_; rintro e w1 ⟨rfl, rfl⟩))
  refine (run_digit s i _ (by omega) hs).mono ?_
  rintro e w1 ⟨rfl, rfl⟩
  generalize hn : Lx.runN Lx.digit (s.data.toList.drop i) = n at *
  generalize htx : s.extract i (i + n) = tx at *
  have hda := hid (digits_all hx.out)
  have hrn := hid (rnum_eq (L := tx.data.toList) (by
    intro c hc
    obtain ⟨j, hj, rfl⟩ := List.getElem_of_mem hc
    have h1 : j < tx.size := by simpa using hj
    rw [list_get tx j h1]; exact hda.out j h1) (by intro e; have := list_len tx; rw [e] at this; simp at this; omega))
  rw [← hx.out] at ht'
  clear hn
  go_wp2_with fail
  refine (rnumber_any _ _ hda.out (by omega)).mono ?_
  rintro e w1 ⟨rfl, rfl⟩
  cases hnum : Lx.number tx.data.toList with
  | none =>
    rw [hnum] at ht'
    have hbig : 65535 < rnum tx.data.toList := hrn.out.1.2 hnum
    clear hnum
    go_wp2_with fail
    refine bodyPost_ret (v := .tuple #[tokV 0 tx 0 0 0, .int .i64 10]) (by simp [results, Tryz.results28, go_sem, tokV]) rfl ⟨?_, balloc _ _⟩
    unfold RTokPost
    rw [ht'.out]
    exact ⟨_, _, _, rfl, by decide⟩
  | some n' =>
    rw [hnum] at ht'
    have hval := hid (hrn.out.2 n' hnum)
    have hbig : rnum tx.data.toList ≤ 65535 := by
      rcases Nat.lt_or_ge 65535 (rnum tx.data.toList) with h | h
      · have := hrn.out.1.1 h; rw [hnum] at this; cases this
      · exact h
    clear hnum
    go_wp2_with fail
    refine bodyPost_ret (v := .tuple #[tokV 3 tx (rnum tx.data.toList) 0 0, .int .i64 0]) (by simp [results, Tryz.results28, go_sem, tokV]) rfl ⟨?_, balloc _ _⟩
    unfold RTokPost
    rw [ht'.out, hval.out]
    refine ⟨rfl, ?_⟩
    rw [hx.out, hlen'.out]; omega

set_option maxHeartbeats 2000000 in
/-- neither -/
theorem rtoken_mark {s : ByteArray} {i : Nat} (w : World) (hi : i < s.size) (hs : s.size ≤ 140737488355328) (hl : Lx.letter s[i] = false) (hg : Lx.digit s[i] = false) :
    Calls Tryz.prog 28 #[.string s, .int .i64 i] w fun e w' => RTokPost s i e ∧ Below w.heap.size w w' := by
  have ht := tok_mark hi hl hg
  have hn2 := Nat.le_refl w.heap.size
  by_cases h61 : s[i] = 61 ∨ s[i] = 43 ∨ s[i] = 59
  · rw [if_pos h61] at ht
    have ht' := hid ht
    have htx := extract_eq s i 1
    rw [take_one hi] at htx
    have hc : ((s[i].toNat : Int) == 61) = true ∨ (((s[i].toNat : Int) == 61) = false ∧ ((s[i].toNat : Int) == 43) = true) ∨ (((s[i].toNat : Int) == 61) = false ∧ ((s[i].toNat : Int) == 43) = false ∧ ((s[i].toNat : Int) == 59) = true) := by
      rw [← u8_eq 61 61 rfl, ← u8_eq 43 43 rfl, ← u8_eq 59 59 rfl]
      rcases h61 with h | h | h <;> rw [h] <;> decide
    have hgen : ∃ t : ByteArray, s.extract i (i + 1) = t ∧ t = ⟨[s[i]].toArray⟩ := ⟨_, htx, rfl⟩
    clear ht h61 htx
    obtain ⟨tx, htx, htv⟩ := hgen
    have htv' := hid htv
    clear htv
    rcases hc with hc1 | ⟨hc1, hc2⟩ | ⟨hc1, hc2, hc3⟩
    all_goals
      go_enter Tryz.func28, Tryz.ntmps28
      go_wp2_with (first | (go_at_call 67; refine (rletter_any _ _).mono ?_; rintro e w1 ⟨rfl, rfl⟩) | (go_at_call 70; refine (rdigit_any _ _).mono ?_; rintro e w1 ⟨rfl, rfl⟩))
      refine bodyPost_ret (v := .tuple #[tokV 4 tx 0 0 0, .int .i64 0]) (by simp [results, Tryz.results28, go_sem, tokV]) rfl ⟨?_, balloc _ _⟩
      unfold RTokPost
      rw [ht'.out]
      exact ⟨by rw [htv'.out], by simp; omega⟩
  · rw [if_neg h61] at ht
    have g1 : ((s[i].toNat : Int) == 61) = false := by rw [← u8_eq 61 61 rfl]; simpa using fun h => h61 (Or.inl h)
    have g2 : ((s[i].toNat : Int) == 43) = false := by rw [← u8_eq 43 43 rfl]; simpa using fun h => h61 (Or.inr (Or.inl h))
    have g3 : ((s[i].toNat : Int) == 59) = false := by rw [← u8_eq 59 59 rfl]; simpa using fun h => h61 (Or.inr (Or.inr h))
    clear h61
    by_cases h46 : s[i] = 46 ∧ (s.data.toList.drop (i + 1)).head? = some 46
    · rw [if_pos h46] at ht
      have ht' := hid ht
      clear ht
      have hi1 : i + 1 < s.size := by
        rcases Nat.lt_or_ge (i + 1) s.size with h | h
        · exact h
        · have := h46.2; rw [head_drop_none h] at this; cases this
      have e1 : ((s[i + 1].toNat : Int) == 46) = true := by have := h46.2; rw [head_drop hi1] at this; rw [Option.some.inj this]; decide
      have e0 : ((s[i].toNat : Int) == 46) = true := by rw [h46.1]; decide
      clear h46
      go_enter Tryz.func28, Tryz.ntmps28
      go_wp2_with (first | (go_at_call 67; refine (rletter_any _ _).mono ?_; rintro e w1 ⟨rfl, rfl⟩) | (go_at_call 70; refine (rdigit_any _ _).mono ?_; rintro e w1 ⟨rfl, rfl⟩))
      refine bodyPost_ret (v := .tuple #[tokV 4 ⟨#[46, 46]⟩ 0 0 0, .int .i64 0]) (by simp [results, Tryz.results28, go_sem, tokV]) rfl ⟨?_, balloc _ _⟩
      unfold RTokPost
      rw [ht'.out]
      exact ⟨rfl, by simp; omega⟩
    · rw [if_neg h46] at ht
      have ht' := hid ht
      have hc : decide ((i : Int) + 1 < s.size) = false ∨ (∃ h : (i : Int) + 1 < s.size, ((s[i].toNat : Int) == 46) = false) ∨ (∃ h : i + 1 < s.size, ((s[i].toNat : Int) == 46) = true ∧ ((s[i + 1].toNat : Int) == 46) = false) := by
        rcases Nat.lt_or_ge (i + 1) s.size with h | h
        · refine Or.inr ?_
          by_cases e0 : s[i] = 46
          · refine Or.inr ⟨h, by rw [e0]; decide, ?_⟩
            rw [← u8_eq 46 46 rfl]
            have : s[i + 1] ≠ 46 := fun e1 => h46 ⟨e0, by rw [head_drop h, e1]⟩
            simpa using this
          · refine Or.inl ⟨by omega, ?_⟩
            rw [← u8_eq 46 46 rfl]; simpa using e0
        · exact Or.inl (decide_eq_false (by omega))
      clear ht h46
      rcases hc with hc1 | ⟨hc1, hc2⟩ | ⟨hc1, hc2, hc3⟩
      all_goals
        go_enter Tryz.func28, Tryz.ntmps28
        go_wp2_with (first | (go_at_call 67; refine (rletter_any _ _).mono ?_; rintro e w1 ⟨rfl, rfl⟩) | (go_at_call 70; refine (rdigit_any _ _).mono ?_; rintro e w1 ⟨rfl, rfl⟩))
        refine bodyPost_ret (v := badRes) (by simp [results, Tryz.results28, go_sem, tokV, badRes]) rfl ⟨?_, balloc _ _⟩
        unfold RTokPost
        rw [ht'.out]
        exact ⟨_, _, _, rfl, by decide⟩

theorem rtoken_any {s : ByteArray} {i : Nat} (w : World) (hi : i < s.size) (hs : s.size ≤ 140737488355328) :
    Calls Tryz.prog 28 #[.string s, .int .i64 i] w fun e w' => RTokPost s i e ∧ Below w.heap.size w w' := by
  cases hl : Lx.letter s[i] with
  | true => exact rtoken_name w hi hs hl
  | false =>
    cases hg : Lx.digit s[i] with
    | true => exact rtoken_digits w hi hs hl hg
    | false => exact rtoken_mark w hi hs hl hg

end Go.Proofs.YtelphkhacadfaaaGreat

namespace Go.Proofs.YtelphkhacadfaaaGreat
open Go.RowKit Go.Sort

theorem RTokPost.shape {s : ByteArray} {i : Nat} {e : Ending} (h : RTokPost s i e) : ∃ (k : Nat) (t : ByteArray) (n er : Nat), e = .returned (.tuple #[tokV k t n 0 0, .int .i64 er]) := by
  unfold RTokPost at h
  split at h
  · exact ⟨_, _, _, 0, h.1⟩
  · obtain ⟨k, t, n, he, _⟩ := h; exact ⟨k, t, n, _, he⟩
theorem rskip_nat (s : ByteArray) (i : Nat) (w : World) (h1 : i ≤ s.size) (hs : s.size ≤ 140737488355328) :
    Calls Tryz.prog 27 #[.string s, .int .i64 i] w fun e w' => e = .returned (.int .i64 (i + Lx.skipN false (s.data.toList.drop i) : Nat)) ∧ w = w' :=
  (rskip_any s i w (by omega) (by omega) hs).mono fun _ _ h => h
set_option maxRecDepth 100000 in
set_option maxHeartbeats 2000000 in
theorem rtokens_any (s : ByteArray) (w : World) (hs : s.size ≤ 140737488355328) :
    Calls Tryz.prog 12 #[.string s] w fun e w' => TokensPost s.data.toList e w' ∧ Below w.heap.size w w' := by
  obtain ⟨i0, hinf, hz0, hz1, hz2⟩ := info_parts Tryz.infoTok
  have hn2 := Nat.le_refl w.heap.size
  by_cases h512 : 512 < s.size
  · go_enter Tryz.func12, Tryz.ntmps12
    go_wp2_with fail
    refine bodyPost_ret (v := .tuple #[.slice none 0 0, .agg #[.int .i64 2, .int .i64 1, .int .i64 1]]) (by simp [results, Tryz.results12, go_sem]) rfl ⟨?_, balloc _ _⟩
    unfold TokensPost Lx.tokens
    rw [if_pos (by simpa using h512)]
    exact ⟨_, rfl, Row.nil _ _, by decide⟩
  · have h512' : s.size ≤ 512 := by omega
    clear h512
    go_enter Tryz.func12, Tryz.ntmps12
    go_wp2_with fail
    have hsk0 := Lx.skipN_le false (s.data.toList.drop 0)
    rw [List.length_drop, list_len] at hsk0
    refine (rskip_nat s 0 _ (by omega) hs).mono ?_
    rintro e w1 ⟨rfl, rfl⟩
    generalize ha0 : 0 + Lx.skipN false (s.data.toList.drop 0) = a0 at *
    have ha0' := hid ha0
    have hb0 : a0 ≤ s.size := by omega
    clear ha0
    go_wp2_with fail
    go_loopg [4, 5] (s.size + 1) (fun g u v wr => ∃ (i a n : Nat) (ts : List Lx.Tok), v = .int .i64 a ∧ i + Lx.skipN false (s.data.toList.drop i) = a ∧ a ≤ s.size ∧ n ≤ i ∧ n = ts.length ∧ Toking s.data.toList g i ts ∧ Blk wr w.heap.size #[.int .i64 0, .int .i64 0, .int .i64 0] 27 ∧
      wr.ownsRow (w.heap.size + 1) 81 5 u n (toksCells ts) ∧ Below w.heap.size w wr)
    case atStart => exact ⟨0, a0, 0, [], rfl, ha0'.out, hb0, Nat.le_refl _, rfl, by have := Toking.begin s.data.toList; rwa [list_len] at this, Blk.new _ _ _, World.ownsRow_nil _ _ _ _, balloc _ _⟩
    case round =>
      obtain ⟨i, a, n, ts, rfl, hia, hale, hni, hnl, htk, hB, hown, hQ⟩ := hrel
      have hnl' := hid hnl
      have htk' := hid htk
      have hB' := hid hB
      have hown' := hid hown
      have hQ' := hid hQ
      have hgk : 0 < gk := by have := htk.1; omega
      have htE := hid (fun h => Toking.end htk h (by rw [list_len]; exact h512'))
      have htR := hid (fun er h1 h2 => Toking.err (er := er) htk h1 (by rw [list_len]; exact h512') h2)
      obtain ⟨gk', rfl⟩ : ∃ g', gk = g' + 1 := ⟨gk - 1, by omega⟩
      have htO := hid (fun k t n h1 h2 => Toking.ok (k := k) (t := t) (n := n) htk h1 h2)
      have hnia : n ≤ a := by omega
      rw [hia] at htE htR htO
      clear hnl htk hB hown hQ hia
      by_cases hend : a < s.size
      · have hlen : a < s.data.toList.length := by simpa using hend
        go_wp2_with fail
        refine (rtoken_any wr hend hs).mono ?_
        rintro e w2 ⟨hnp, hb2⟩
        have hB2 := hid (hB'.out.ext hb2)
        have hown2 := hid (owns_ext hown'.out hb2)
        have hQ2 := hid (bthen hQ'.out hb2)
        unfold RTokPost at hnp
        cases htk2 : Lx.tok (s.data.toList.drop a) with
        | error er =>
          rw [htk2] at hnp
          obtain ⟨k, t, m, rfl, her⟩ := hnp
          have hfin := hid (htR.out er hlen htk2)
          clear htk2 hlen
          unfold tokV
          go_wp2_with fail
          refine (rplace_nat s a _ hale hs).mono ?_
          rintro e w3 ⟨rfl, hb3⟩
          have hB3 := hid (((hB2.out.alloc _).alloc _).ext hb3)
          have hQ3 := hid (bthen ((hQ2.out.alloc hQ2.out.size _).alloc (by have := hQ2.out.size; simp; omega) _) hb3)
          have hz3 := hb3.size
          simp only [World.size_alloc] at hz3
          obtain ⟨d0, d1, d2, df, dz⟩ := hB3.out.three
          go_wp2_with fail
          refine bodyPost_ret (v := .tuple #[.slice (some ⟨w2.heap.size + 1, 0, none⟩) 0 0, .agg #[.int .i64 er, .int .i64 (Lx.posOf (s.data.toList.take a)).1, .int .i64 (Lx.posOf (s.data.toList.take a)).2]]) (by simp [results, Tryz.results12, go_sem, d0, d1, d2]) rfl ⟨?_, (by simp only [below_setNew_iff hn2]; exact hQ3.out)⟩
          unfold TokensPost
          rw [hfin.out]
          exact ⟨_, rfl, Row.empty (by simp; omega) _, by intro h0; rw [h0] at her; simp at her⟩
        | ok x =>
          obtain ⟨k, t, m⟩ := x
          rw [htk2] at hnp
          obtain ⟨rfl, hle5⟩ := hnp
          have htk5 := hid (htO.out k t m hlen htk2)
          have q1 : 1 ≤ t.length := Lx.tok_pos htk2
          clear htk2 hlen
          unfold tokV
          go_wp2_with fail
          have hz2' := hb2.size
          refine (rplace_nat s a _ hale hs).mono ?_
          rintro e w3 ⟨rfl, hb3⟩
          have hB3 := hid ((hB2.out.alloc _).ext hb3)
          have hT3 := hid ((Blk.new w2 #[.int .i64 k, .string ⟨t.toArray⟩, .int .i64 m, .int .i64 0, .int .i64 0] 81).ext hb3)
          have hown3 := hid (owns_ext (hown2.out.alloc _) hb3)
          have hQ3 := hid (bthen (hQ2.out.alloc hQ2.out.size _) hb3)
          have hz3 := hb3.size
          simp only [World.size_alloc] at hz3
          have hnw : w.heap.size ≤ w2.heap.size := hQ2.out.size
          have hne : u4.ownBlock ≠ some w2.heap.size := fun e => by have := (hown2.out.lt _ e).2; omega
          have hne2 : w.heap.size ≠ w2.heap.size := by have := hB2.out.lt; omega
          obtain ⟨c0, c1, c2, c3, c4, cf, cz⟩ := hT3.out.five
          have hcap : n + 1 ≤ maxLen := by unfold maxLen; omega
          have hW := hid (show ∀ x y, ((w3.setCell ⟨w2.heap.size, 3, none⟩ x).setCell ⟨w2.heap.size, 4, none⟩ y).ownsRow (w.heap.size + 1) 81 5 u4 n (toksCells ts) from fun x y => ownsRow_setCell_other (ownsRow_setCell_other hown3.out (a := ⟨w2.heap.size, 3, none⟩) hne x) (a := ⟨w2.heap.size, 4, none⟩) hne y)
          have hc1 := hid (fun x y => cells_new ((w3.setCell ⟨w2.heap.size, 3, none⟩ x).setCell ⟨w2.heap.size, 4, none⟩ y) (tokCells (Lx.tokAt s.data.toList a k t m)) 81 (k := w3.heap.size) (by simp))
          go_wp2_with (first | (at_builtin; refine wpList_append_own _ rfl _ _ 43 rfl (w.heap.size + 1) 81 i0 (.agg #[.int .i64 0, .string ⟨#[]⟩, .int .i64 0, .int .i64 0, .int .i64 0]) 5 48 Tryz.underlying43 hinf hz0 hz1 hz2 rfl (by decide) _ _ _ rfl ((hW.out _ _).alloc _) ⟨w3.heap.size, 0, none⟩ 1 1 (tokCells (Lx.tokAt s.data.toList a k t m)) rfl rfl (hc1.out _ _) (tokCells_one _) hcap (by omega) (by simp; omega) ?_; intro v' w5 hown5 hgrow _; have hT5 := (Blk.grown (((hT3.out.set 3 _).set 4 _).alloc _) hgrow hne).cell 1 (v := .string ⟨t.toArray⟩) rfl))
          refine (rskip_any s (a + t.length : Int) _ (by omega) (by omega) hs).mono ?_
          rintro e w6 ⟨rfl, rfl⟩
          simp only [show ((a : Int) + t.length).toNat = a + t.length by omega]
          have hskl := Lx.skipN_le false (s.data.toList.drop (a + t.length))
          rw [List.length_drop, list_len] at hskl
          generalize ha' : a + t.length + Lx.skipN false (s.data.toList.drop (a + t.length)) = a' at *
          have ha'' := hid ha'
          have hale' : a' ≤ s.size := by omega
          clear ha'
          go_wp2_with fail
          go_roundg gk'
          case measure => omega
          case rel =>
            have hown4a := (hW.out (.int .i64 (Lx.posOf (s.data.toList.take a)).1) (.int .i64 (Lx.posOf (s.data.toList.take a)).2)).alloc (.cells (tokCells (Lx.tokAt s.data.toList a k t m)).toArray 81)
            refine ⟨a + t.length, a', n + 1, ts ++ [Lx.tokAt s.data.toList a k t m], rfl, ha''.out, hale', by omega, by rw [List.length_append, ← hnl'.out]; rfl, htk5.out, ?_, ?_, ?_⟩
            · exact Blk.grown (Blk.alloc (Blk.setOther (Blk.setOther hB3.out hne2 _ _) hne2 _ _) _) hgrow (own_ne hown4a (by omega))
            · rw [toksCells_snoc]; exact hown5
            · exact ((bset (bset hQ3.out hnw _) hnw _).alloc (by have := hQ3.out.size; simp; omega) _).grown hgrow (by have := hQ3.out.size; simp; omega) (fun k hk => by have := (hown4a.lt k hk).1; omega)
      · obtain rfl : a = s.size := by omega
        obtain ⟨d0, d1, d2, df, dz⟩ := hB'.out.three
        go_wp2_with fail
        refine bodyPost_ret (v := .tuple #[u4, .agg #[.int .i64 0, .int .i64 0, .int .i64 0]]) (by simp [results, Tryz.results12, go_sem, d0, d1, d2]) rfl ⟨?_, (by simp only [below_setNew_iff hn2]; exact hQ'.out)⟩
        unfold TokensPost
        rw [htE.out (by simp)]
        refine ⟨u4, rfl, ?_⟩
        rw [← hnl'.out]
        exact Row.of_owns (owns_touch hown'.out ((((Touch.refl w.heap.size wr).setCell 0 _).setCell 1 _).setCell 2 _) (by omega))

end Go.Proofs.YtelphkhacadfaaaGreat

namespace Go.Proofs.YtelphkhacadfaaaGreat.Lx

/-! ### without places -/
abbrev T3 := Nat × Bytes × Nat
def strip (t : Tok) : T3 := (t.kind, t.text, t.n)
def lexL : Nat → Bytes → Except Nat (List T3)
  | 0, _ => .ok []
  | f + 1, l =>
    if l.length ≤ skipN false l then .ok []
    else match tok (l.drop (skipN false l)) with
      | .error e => .error e
      | .ok (k, t, n) => (lexL f (l.drop (skipN false l + t.length))).map ((k, t, n) :: ·)

theorem lexL_toks (L : Bytes) : ∀ (f i : Nat), lexL f (L.drop i) = match toks L f i with | .error (e, _, _) => .error e | .ok ts => .ok (ts.map strip) := by
  intro f
  induction f with
  | zero => intro i; rfl
  | succ f ih =>
    intro i
    simp only [lexL, toks]
    have e1 : ((L.drop i).length ≤ skipN false (L.drop i)) ↔ (L.length ≤ i + skipN false (L.drop i)) := by rw [List.length_drop]; omega
    by_cases h : L.length ≤ i + skipN false (L.drop i)
    · rw [if_pos h, if_pos (e1.2 h)]; rfl
    · rw [if_neg h, if_neg (fun x => h (e1.1 x)), List.drop_drop]
      cases ht : tok (L.drop (i + skipN false (L.drop i))) with
      | error e => rfl
      | ok x =>
        obtain ⟨k, t, n⟩ := x
        simp only
        rw [List.drop_drop, ← Nat.add_assoc, ih]
        cases hr : toks L f (i + skipN false (L.drop i) + t.length) with
        | error x => rfl
        | ok us => rfl

/-- a token that is read as it is, whatever stands behind that is no byte of a name -/
def Plain (t : T3) : Prop := 0 < t.2.1.length ∧ ∀ rest, hdIs inner rest = false → tok (t.2.1 ++ rest) = .ok t ∧ skipN false (t.2.1 ++ rest) = 0

theorem takeWhile_app {p : UInt8 → Bool} {l rest : Bytes} (h : l.all p = true) (hr : hdIs p rest = false) : (l ++ rest).takeWhile p = l := by
  induction l with
  | nil =>
    cases rest with
    | nil => rfl
    | cons c r => simp only [hdIs] at hr; simp [hr]
  | cons c l ih =>
    simp only [List.all_cons, Bool.and_eq_true] at h
    rw [List.cons_append, List.takeWhile_cons_of_pos h.1, ih h.2]
theorem all_takeWhile (p : UInt8 → Bool) (l : Bytes) : (l.takeWhile p).all p = true := by
  induction l with
  | nil => rfl
  | cons c l ih =>
    by_cases h : p c = true
    · rw [List.takeWhile_cons_of_pos h]; simp [h, ih]
    · rw [List.takeWhile_cons_of_neg h]; rfl
theorem not_skip_letter {c : UInt8} (h : letter c = true) : (c == 35) = false ∧ blank c = false := by
  unfold letter at h
  simp only [Bool.and_eq_true, decide_eq_true_eq] at h
  have h1 : 97 ≤ c.toNat := h.1
  constructor
  · rw [beq_eq_false_iff_ne]; intro e; subst e; exact absurd h1 (by decide)
  · unfold blank; rw [Bool.or_eq_false_iff, beq_eq_false_iff_ne, beq_eq_false_iff_ne]
    exact ⟨fun e => by subst e; exact absurd h1 (by decide), fun e => by subst e; exact absurd h1 (by decide)⟩
theorem not_skip_digit {c : UInt8} (h : digit c = true) : (c == 35) = false ∧ blank c = false := by
  unfold digit at h
  simp only [Bool.and_eq_true, decide_eq_true_eq] at h
  have h1 : 48 ≤ c.toNat := h.1
  constructor
  · rw [beq_eq_false_iff_ne]; intro e; subst e; exact absurd h1 (by decide)
  · unfold blank; rw [Bool.or_eq_false_iff, beq_eq_false_iff_ne, beq_eq_false_iff_ne]
    exact ⟨fun e => by subst e; exact absurd h1 (by decide), fun e => by subst e; exact absurd h1 (by decide)⟩
theorem skipN_head {c : UInt8} {l : Bytes} (h : (c == 35) = false ∧ blank c = false) : skipN false (c :: l) = 0 := by simp [skipN, h.1, h.2]
theorem hd_digit {l : Bytes} (h : hdIs inner l = false) : hdIs digit l = false := by
  cases l with
  | nil => rfl
  | cons c l =>
    simp only [hdIs, inner, Bool.or_eq_false_iff] at h ⊢
    exact h.1.2
theorem tok_cons (c : UInt8) (l : Bytes) : tok (c :: l) = 
    if letter c then
      if 16 < ((c :: l).takeWhile inner).length then .error 2 else .ok (if isWord ((c :: l).takeWhile inner) then 2 else 1, (c :: l).takeWhile inner, 0)
    else if digit c then
      match number ((c :: l).takeWhile digit) with
      | none => .error 10
      | some n => .ok (3, (c :: l).takeWhile digit, n)
    else if c = 61 ∨ c = 43 ∨ c = 59 then .ok (4, [c], 0)
    else if c = 46 ∧ l.head? = some 46 then .ok (4, [46, 46], 0)
    else .error 30 := rfl

theorem plain_of_tok {l : Bytes} {k n : Nat} {t : Bytes} (h : tok l = .ok (k, t, n)) : Plain (k, t, n) := by
  refine ⟨tok_pos h, ?_⟩
  intro rest hr
  simp only
  cases l with
  | nil => simp [tok] at h
  | cons c l =>
    rw [tok_cons] at h
    by_cases hl : letter c = true
    · rw [if_pos hl] at h
      split at h
      · cases h
      · rename_i h16
        have h2 := Except.ok.inj h
        simp only [Prod.mk.injEq] at h2
        obtain ⟨h3, h4, h5⟩ := h2
        have hall : t.all inner = true := by rw [← h4]; exact all_takeWhile _ _
        have ht : t = c :: (l.takeWhile inner) := by rw [← h4, List.takeWhile_cons_of_pos (by simp [inner, hl])]
        have htw := takeWhile_app hall hr
        have e : t ++ rest = c :: (l.takeWhile inner ++ rest) := by rw [ht]; rfl
        constructor
        · rw [e, tok_cons, if_pos hl, ← e, htw, ← h4, if_neg h16, h3, h5]
        · rw [e]; exact skipN_head (not_skip_letter hl)
    · rw [if_neg hl] at h
      by_cases hg : digit c = true
      · rw [if_pos hg] at h
        split at h
        · cases h
        · rename_i m hm
          have h2 := Except.ok.inj h
          simp only [Prod.mk.injEq] at h2
          obtain ⟨h3, h4, h5⟩ := h2
          have hall : t.all digit = true := by rw [← h4]; exact all_takeWhile _ _
          have ht : t = c :: (l.takeWhile digit) := by rw [← h4, List.takeWhile_cons_of_pos hg]
          have htw := takeWhile_app hall (hd_digit hr)
          have e : t ++ rest = c :: (l.takeWhile digit ++ rest) := by rw [ht]; rfl
          constructor
          · rw [e, tok_cons, if_neg hl, if_pos hg, ← e, htw, ← h4, hm, h3, h5]
          · rw [e]; exact skipN_head (not_skip_digit hg)
      · rw [if_neg hg] at h
        by_cases hm : c = 61 ∨ c = 43 ∨ c = 59
        · rw [if_pos hm] at h
          have h2 := Except.ok.inj h
          simp only [Prod.mk.injEq] at h2
          obtain ⟨h3, h4, h5⟩ := h2
          have e : t ++ rest = c :: rest := by rw [← h4]; rfl
          constructor
          · rw [e, tok_cons, if_neg hl, if_neg hg, if_pos hm, h3, h4, h5]
          · rw [e]; rcases hm with rfl | rfl | rfl <;> rfl
        · rw [if_neg hm] at h
          split at h
          · rename_i hd
            have h2 := Except.ok.inj h
            simp only [Prod.mk.injEq] at h2
            obtain ⟨h3, h4, h5⟩ := h2
            have e : t ++ rest = 46 :: 46 :: rest := by rw [← h4]; rfl
            constructor
            · rw [e, tok_cons, if_neg (by decide), if_neg (by decide), if_neg (by decide), if_pos ⟨rfl, rfl⟩, h3, h4, h5]
            · rw [e]; rfl
          · cases h

theorem plain_toks (L : Bytes) : ∀ (f i : Nat) (ts : List Tok), toks L f i = .ok ts → ∀ t ∈ ts, Plain (strip t) := by
  intro f
  induction f with
  | zero =>
    intro i ts h
    simp only [toks, Except.ok.injEq] at h
    subst h
    simp
  | succ f ih =>
    intro i ts h
    simp only [toks] at h
    split at h
    · simp only [Except.ok.injEq] at h
      subst h
      simp
    · cases ht : tok (L.drop (i + skipN false (L.drop i))) with
      | error e => rw [ht] at h; cases h
      | ok x =>
        obtain ⟨k, t, n⟩ := x
        rw [ht] at h
        simp only at h
        cases hr : toks L f (i + skipN false (L.drop i) + t.length) with
        | error e => rw [hr] at h; cases h
        | ok us =>
          rw [hr] at h
          simp only [Except.map, Except.ok.injEq] at h
          subst h
          intro u hu
          rcases List.mem_cons.1 hu with rfl | hu
          · exact plain_of_tok ht
          · exact ih _ us hr u hu

/-- what may stand between -/
structure Sep (sep : Bytes) : Prop where
  skip : ∀ x, skipN false (sep ++ x) = sep.length + skipN false x
  head : ∀ x, hdIs inner (sep ++ x) = false
/-- what may stand behind all -/
structure Tail (z : Bytes) : Prop where
  skip : skipN false z = z.length
  head : hdIs inner z = false

theorem lexL_one {f : Nat} {t : T3} {rest : Bytes} (h : Plain t) (hr : hdIs inner rest = false) : lexL (f + 1) (t.2.1 ++ rest) = (lexL f rest).map (t :: ·) := by
  obtain ⟨h1, h2⟩ := h
  obtain ⟨h3, h4⟩ := h2 rest hr
  obtain ⟨k, t, n⟩ := t
  simp only at *
  simp only [lexL]
  rw [h4, if_neg (by rw [List.length_append]; omega), List.drop_zero, h3]
  simp only [Nat.zero_add, List.drop_left]
theorem lexL_sep {f : Nat} {sep x : Bytes} (h : Sep sep) : lexL f (sep ++ x) = lexL f x := by
  cases f with
  | zero => rfl
  | succ f =>
    simp only [lexL]
    rw [h.skip, List.length_append]
    by_cases hx : x.length ≤ skipN false x
    · rw [if_pos (by omega), if_pos hx]
    · rw [if_neg (by omega), if_neg hx]
      have e : ∀ m, (sep ++ x).drop (sep.length + m) = x.drop m := fun m => by rw [← List.drop_drop, List.drop_left]
      rw [e]
      cases tok (x.drop (skipN false x)) with
      | error e => rfl
      | ok y =>
        obtain ⟨k, t, n⟩ := y
        simp only
        rw [Nat.add_assoc, e]
theorem lexL_tail {f : Nat} {z : Bytes} (h : Tail z) : lexL f z = .ok [] := by
  cases f with
  | zero => rfl
  | succ f => simp only [lexL]; rw [if_pos (by rw [h.skip]; omega)]
theorem head_rest {sep z : Bytes} (hs : Sep sep) (hz : Tail z) (us : List T3) : hdIs inner ((us.flatMap fun u => sep ++ u.2.1) ++ z) = false := by
  cases us with
  | nil => simpa using hz.head
  | cons u us => simp only [List.flatMap_cons, List.append_assoc]; exact hs.head _
theorem relex_rest {sep z : Bytes} (hs : Sep sep) (hz : Tail z) : ∀ (us : List T3) (f : Nat), us.length ≤ f → (∀ u ∈ us, Plain u) → lexL f ((us.flatMap fun u => sep ++ u.2.1) ++ z) = .ok us := by
  intro us
  induction us with
  | nil => intro f _ _; simpa using lexL_tail hz
  | cons u us ih =>
    intro f hf hp
    simp only [List.length_cons] at hf
    obtain ⟨f, rfl⟩ : ∃ g, f = g + 1 := ⟨f - 1, by omega⟩
    simp only [List.flatMap_cons, List.append_assoc]
    rw [lexL_sep hs, lexL_one (hp u List.mem_cons_self) (head_rest hs hz us), ih f (by omega) (fun v hv => hp v (List.mem_cons_of_mem _ hv))]
    rfl
theorem relex {sep z : Bytes} (hs : Sep sep) (hz : Tail z) {u : T3} {us : List T3} {f : Nat} (hf : us.length < f) (hp : ∀ v ∈ u :: us, Plain v) :
    lexL f (u.2.1 ++ ((us.flatMap fun v => sep ++ v.2.1) ++ z)) = .ok (u :: us) := by
  obtain ⟨f, rfl⟩ : ∃ g, f = g + 1 := ⟨f - 1, by omega⟩
  rw [lexL_one (hp u List.mem_cons_self) (head_rest hs hz us), relex_rest hs hz us f (by omega) (fun v hv => hp v (List.mem_cons_of_mem _ hv))]
  rfl

end Go.Proofs.YtelphkhacadfaaaGreat.Lx

namespace Go.Proofs.YtelphkhacadfaaaGreat.Lx

def joinL (b : Bytes) : List Tok → Bytes
  | [] => []
  | t :: ts => t.text ++ ts.flatMap fun u => b ++ u.text

theorem flatMap_ge {sep : Bytes} : ∀ (us : List T3), (∀ u ∈ us, Plain u) → us.length ≤ (us.flatMap fun u => sep ++ u.2.1).length
  | [], _ => by simp
  | u :: us, h => by
    have h1 := flatMap_ge (sep := sep) us (fun v hv => h v (List.mem_cons_of_mem _ hv))
    have h2 := (h u List.mem_cons_self).1
    simp only [List.flatMap_cons, List.length_append, List.length_cons]
    omega
theorem flatMap_strip (sep : Bytes) (ts : List Tok) : ((ts.map strip).flatMap fun v => sep ++ v.2.1) = ts.flatMap fun u => sep ++ u.text := by
  induction ts with
  | nil => rfl
  | cons t ts ih => simp only [List.map_cons, List.flatMap_cons, ih]; rfl

theorem tokens_relex {L sep z : Bytes} {ts : List Tok} (h : tokens L = .ok ts) (hs : Sep sep) (hz : Tail z) (hM : (joinL sep ts ++ z).length ≤ 512) :
    ∃ us, tokens (joinL sep ts ++ z) = .ok us ∧ us.map strip = ts.map strip := by
  have hp : ∀ t ∈ ts, Plain (strip t) := by
    unfold tokens at h
    split at h
    · cases h
    · exact plain_toks L _ 0 ts h
  have hp2 : ∀ v ∈ ts.map strip, Plain v := by
    intro v hv
    obtain ⟨t, ht, rfl⟩ := List.mem_map.1 hv
    exact hp t ht
  have key : lexL ((joinL sep ts ++ z).length + 1) ((joinL sep ts ++ z).drop 0) = .ok (ts.map strip) := by
    rw [List.drop_zero]
    cases ts with
    | nil => simp only [joinL, List.nil_append]; exact lexL_tail hz
    | cons t ts =>
      simp only [joinL, List.append_assoc, List.map_cons]
      rw [← flatMap_strip]
      refine relex (u := strip t) hs hz ?_ (by simpa using hp2)
      have h1 := flatMap_ge (sep := sep) (ts.map strip) (fun v hv => hp2 v (by rw [List.map_cons]; exact List.mem_cons_of_mem _ hv))
      simp only [List.length_append] at *
      omega
  rw [lexL_toks] at key
  unfold tokens
  rw [if_neg (by omega)]
  cases hr : toks (joinL sep ts ++ z) ((joinL sep ts ++ z).length + 1) 0 with
  | error x => rw [hr] at key; obtain ⟨e, l, c⟩ := x; cases key
  | ok us => rw [hr] at key; exact ⟨us, rfl, Except.ok.inj key⟩

theorem skip32 (l : Bytes) : skipN false (32 :: l) = 1 + skipN false l := rfl
theorem skip10 (l : Bytes) : skipN false (10 :: l) = 1 + skipN false l := rfl
theorem skip35 (l : Bytes) : skipN false (35 :: l) = 1 + skipN true l := rfl
theorem sep_blank : Sep [32] := ⟨fun x => skip32 x, fun _x => rfl⟩
theorem skip_in (r x : Bytes) (h : r.all (fun c => c != 10) = true) : skipN true (r ++ 10 :: x) = r.length + 1 + skipN false x := by
  induction r with
  | nil => simp only [List.nil_append, skipN, List.length_nil]; have : ((10 : UInt8) != 10) = false := rfl; rw [this]
  | cons c r ih =>
    simp only [List.all_cons, Bool.and_eq_true] at h
    simp only [List.cons_append, skipN, List.length_cons]
    rw [h.1, ih h.2]; omega
theorem tail_nil : Tail [] := ⟨rfl, rfl⟩
theorem tail_hash : Tail [32, 35] := ⟨rfl, rfl⟩
/-- a remark on a line of its own -/
def remark : Bytes := [10, 35, 32, 97, 32, 114, 101, 109, 97, 114, 107, 44, 32, 114, 111, 108, 101, 32, 110, 117, 114, 115, 101, 32, 61, 32, 51, 59, 10]
theorem sep_remark : Sep remark := ⟨fun x => by
  have e : remark ++ x = 10 :: 35 :: ([32, 97, 32, 114, 101, 109, 97, 114, 107, 44, 32, 114, 111, 108, 101, 32, 110, 117, 114, 115, 101, 32, 61, 32, 51, 59] ++ 10 :: x) := rfl
  rw [e, skip10, skip35, skip_in _ _ (by rfl)]
  have : remark.length = 29 := rfl
  rw [this]
  simp only [List.length_cons, List.length_nil]
  omega, fun _ => rfl⟩
/-- so many blanks, and a line's end -/
theorem sep_blanks : ∀ n : Nat, Sep (List.replicate n 32 ++ [10])
  | 0 => ⟨fun x => skip10 x, fun x => rfl⟩
  | n + 1 => by
    have ih := sep_blanks n
    refine ⟨fun x => ?_, fun x => rfl⟩
    have e : List.replicate (n + 1) (32 : UInt8) ++ [10] ++ x = 32 :: (List.replicate n 32 ++ [10] ++ x) := by rw [List.replicate_succ]; rfl
    rw [e, skip32, ih.skip]
    simp
    omega

/-! ### places rise -/
theorem adv_lt (p : Nat × Nat) (c : UInt8) : p.1 < (adv p c).1 ∨ (p.1 = (adv p c).1 ∧ p.2 < (adv p c).2) := by
  unfold adv; split <;> simp
theorem fold_le (l : Bytes) : ∀ p : Nat × Nat, p.1 < (l.foldl adv p).1 ∨ (p.1 = (l.foldl adv p).1 ∧ p.2 ≤ (l.foldl adv p).2) := by
  induction l with
  | nil => intro p; right; simp
  | cons c l ih =>
    intro p
    have h1 := adv_lt p c
    have h2 := ih (adv p c)
    simp only [List.foldl_cons]
    omega
theorem posOf_ne {L : Bytes} {a b : Nat} (hab : a < b) (hb : b ≤ L.length) : posOf (L.take a) ≠ posOf (L.take b) := by
  have e : L.take b = L.take a ++ L[a] :: (L.drop (a + 1)).take (b - a - 1) := by
    have h1 : L.take b = (L.take b).take a ++ (L.take b).drop a := (List.take_append_drop a _).symm
    rw [List.take_take, Nat.min_eq_left (by omega), List.drop_take, drop_cons (by omega)] at h1
    obtain ⟨m, hm⟩ : ∃ m, b - a = m + 1 := ⟨b - a - 1, by omega⟩
    rw [hm, List.take_succ_cons] at h1
    rw [h1, show b - a - 1 = m by omega]
  intro h
  unfold posOf at h
  rw [e, List.foldl_append, List.foldl_cons] at h
  generalize List.foldl adv (1, 1) (L.take a) = p at h
  have h1 := adv_lt p L[a]
  have h2 := fold_le ((L.drop (a + 1)).take (b - a - 1)) (adv p L[a])
  rw [← h] at h2
  omega

/-- tokens, one behind another, each where it lies -/
inductive Placed (L : Bytes) : Nat → List Tok → Prop
  | nil (i : Nat) : Placed L i []
  | cons {i a : Nat} {t : Tok} {ts : List Tok} (hi : i ≤ a) (ha : a + t.text.length ≤ L.length) (hp : 0 < t.text.length) (hpos : posOf (L.take a) = (t.line, t.col)) (ht : (L.drop a).take t.text.length = t.text)
      (h : Placed L (a + t.text.length) ts) : Placed L i (t :: ts)
theorem placed_toks (L : Bytes) : ∀ (f i : Nat) (ts : List Tok), i ≤ L.length → toks L f i = .ok ts → Placed L i ts := by
  intro f
  induction f with
  | zero =>
    intro i ts _ h
    simp only [toks, Except.ok.injEq] at h
    subst h
    exact .nil i
  | succ f ih =>
    intro i ts hi h
    simp only [toks] at h
    split at h
    · simp only [Except.ok.injEq] at h
      subst h
      exact .nil i
    · rename_i hlt
      cases ht : tok (L.drop (i + skipN false (L.drop i))) with
      | error e => rw [ht] at h; cases h
      | ok x =>
        obtain ⟨k, t, n⟩ := x
        rw [ht] at h
        simp only at h
        have hle := tok_le ht
        rw [List.length_drop] at hle
        cases hr : toks L f (i + skipN false (L.drop i) + t.length) with
        | error e => rw [hr] at h; cases h
        | ok us =>
          rw [hr] at h
          simp only [Except.map, Except.ok.injEq] at h
          subst h
          exact .cons (a := i + skipN false (L.drop i)) (by omega) (by show _ + t.length ≤ _; omega) (tok_pos ht) rfl (tok_prefix ht) (ih (i + skipN false (L.drop i) + t.length) us (by omega) hr)
theorem tokens_placed {L : Bytes} {ts : List Tok} (h : tokens L = .ok ts) : Placed L 0 ts := by
  unfold tokens at h
  split at h
  · cases h
  · exact placed_toks L _ 0 ts (Nat.zero_le _) h

/-! ### names -/
theorem tokens_word : ∀ w ∈ words, tokens w = .ok [⟨2, w, 0, 1, 1⟩] := by
  intro w hw
  simp only [words, List.mem_cons, List.not_mem_nil, or_false] at hw
  rcases hw with rfl | rfl | rfl | rfl | rfl | rfl | rfl | rfl | rfl | rfl | rfl <;> rfl
theorem word_isName {L : Bytes} (h : isWord L = true) : isName L = false := by
  unfold isName
  split
  · rfl
  · rw [h]; simp
theorem toks_at_end (L : Bytes) (f : Nat) : toks L f L.length = .ok [] := by
  cases f with
  | zero => rfl
  | succ f => simp only [toks]; rw [if_pos (by omega)]
theorem tokens_name {L : Bytes} (h : isName L = true) : tokens L = .ok [⟨1, L, 0, 1, 1⟩] := by
  cases L with
  | nil => simp [isName] at h
  | cons c l =>
    simp only [isName, Bool.and_eq_true, decide_eq_true_eq, Bool.not_eq_true'] at h
    obtain ⟨⟨⟨h16, hl⟩, hall⟩, hw⟩ := h
    have htw : (c :: l).takeWhile inner = c :: l := by have := takeWhile_app (rest := []) hall rfl; rwa [List.append_nil] at this
    have hs : skipN false (c :: l) = 0 := skipN_head (not_skip_letter hl)
    unfold tokens
    rw [if_neg (by omega)]
    simp only [toks, List.drop_zero]
    rw [hs, if_neg (by simp)]
    rw [Nat.add_zero, List.drop_zero, tok_cons, if_pos hl, htw, if_neg (by omega), hw]
    simp only [Bool.false_eq_true, if_false, Nat.zero_add]
    rw [toks_at_end]
    rfl
/-- one token, which is all -/
theorem tokens_single {L : Bytes} {t : Tok} (h : tokens L = .ok [t]) (ht : t.text = L) : isName L = decide (t.kind = 1) ∧ isWord L = decide (t.kind = 2) := by
  have hne : 0 < L.length := by
    cases tokens_placed h with
    | cons _ _ hp _ _ _ => rw [ht] at hp; exact hp
  have hp : Plain (strip t) := by
    unfold tokens at h
    split at h
    · cases h
    · exact plain_toks L _ 0 [t] h t List.mem_cons_self
  have htok := (hp.2 [] rfl).1
  simp only [strip, List.append_nil, ht] at htok
  cases L with
  | nil => simp at hne
  | cons c l =>
    rw [tok_cons] at htok
    by_cases hl : letter c = true
    · rw [if_pos hl] at htok
      split at htok
      · cases htok
      · rename_i h16
        have h2 := Except.ok.inj htok
        simp only [Prod.mk.injEq] at h2
        obtain ⟨h3, h4, _⟩ := h2
        rw [h4] at h3 h16
        have hall : (c :: l).all inner = true := by have := all_takeWhile inner (c :: l); rwa [h4] at this
        have e1 : isName (c :: l) = !isWord (c :: l) := by
          unfold isName
          simp only [hl, hall, Bool.and_true]
          rw [decide_eq_true (by omega)]; rfl
        rw [e1]
        cases hw : isWord (c :: l) with
        | true => rw [hw] at h3; simp only [if_true] at h3; rw [← h3]; exact ⟨rfl, rfl⟩
        | false => rw [hw] at h3; simp only [Bool.false_eq_true, if_false] at h3; rw [← h3]; exact ⟨rfl, rfl⟩
    · have e1 : isName (c :: l) = false := by
        unfold isName
        simp only [Bool.not_eq_true] at hl
        simp [hl]
      have e2 : isWord (c :: l) = false := by
        cases hw : isWord (c :: l) with
        | false => rfl
        | true =>
          have h5 := List.contains_iff_mem.1 hw
          have h6 : ∀ w ∈ words, ∀ x ∈ w.head?, letter x = true := by decide +kernel
          exact absurd (h6 _ h5 c rfl) hl
      rw [e1, e2]
      rw [if_neg hl] at htok
      have hk : t.kind ≠ 1 ∧ t.kind ≠ 2 := by
        split at htok
        · split at htok
          · cases htok
          · have h2 := Except.ok.inj htok
            simp only [Prod.mk.injEq] at h2
            omega
        · split at htok
          · have h2 := Except.ok.inj htok
            simp only [Prod.mk.injEq] at h2
            omega
          · split at htok
            · have h2 := Except.ok.inj htok
              simp only [Prod.mk.injEq] at h2
              omega
            · cases htok
      exact ⟨(decide_eq_false hk.1).symm, (decide_eq_false hk.2).symm⟩
/-- otherwise: neither -/
theorem not_single {L : Bytes} (h : ∀ t, tokens L = .ok [t] → t.text ≠ L) : isName L = false ∧ isWord L = false := by
  constructor
  · cases hn : isName L with
    | false => rfl
    | true => exact absurd rfl (h _ (tokens_name hn))
  · cases hn : isWord L with
    | false => rfl
    | true => exact absurd rfl (h _ (tokens_word L (List.contains_iff_mem.1 hn)))

end Go.Proofs.YtelphkhacadfaaaGreat.Lx
