/-
  The walks of the lexer's reference: token, Tokens.
  The walk of the reference's Tokens.
-/
import Derived.Test.YtnoieobjfihbeaaGreatDoorPk34

namespace Go.Proofs.YtnoieobjfihbeaaGreatDoor
open Go.RowKit Go.Sort

theorem run_inner (s : ByteArray) (i : Nat) (w : World) (h1 : i ≤ s.size) (hs : s.size ≤ 140737488355328) :
    Calls Tryz.prog 83 #[.string s, .int .i64 i, .bool false] w fun e w' => e = .returned (.int .i64 (Lx.runN Lx.inner (s.data.toList.drop i))) ∧ w = w' :=
  (run_any s i false w (by omega) (by omega) hs).mono fun _ _ h => h
theorem run_digit (s : ByteArray) (i : Nat) (w : World) (h1 : i ≤ s.size) (hs : s.size ≤ 140737488355328) :
    Calls Tryz.prog 83 #[.string s, .int .i64 i, .bool true] w fun e w' => e = .returned (.int .i64 (Lx.runN Lx.digit (s.data.toList.drop i))) ∧ w = w' :=
  (run_any s i true w (by omega) (by omega) hs).mono fun _ _ h => h

/-- what the reference's 'token' gives back, by the plain lexer -/
def RTokPost (s : ByteArray) (i : Nat) (e : Ending) : Prop :=
  match Lx.tok (s.data.toList.drop i) with
  | .ok (k, t, n) => e = .returned (.tuple #[tokV k ⟨t.toArray⟩ n 0 0, .int .i64 0]) ∧ i + t.length ≤ s.size
  | .error er => ∃ k t n, e = .returned (.tuple #[tokV k t n 0 0, .int .i64 er]) ∧ ((er : Int) != 0) = true

set_option maxHeartbeats 1000000 in
/-- a letter -/
theorem rtoken_name {s : ByteArray} {i : Nat} (w : World) (hi : i < s.size) (hs : s.size ≤ 140737488355328) (hl : Lx.letter s[i] = true) :
    Calls Tryz.prog 43 #[.string s, .int .i64 i] w fun e w' => RTokPost s i e ∧ Below w.heap.size w w' := by
  have hle := Lx.runN_le Lx.inner (s.data.toList.drop i)
  rw [List.length_drop, list_len] at hle
  have hx := hid (extract_run s i Lx.inner)
  have hxs := extract_size' s i (Lx.runN Lx.inner (s.data.toList.drop i)) (by omega)
  have hd : s.data.toList.drop i = s[i] :: s.data.toList.drop (i + 1) := Lx.drop_cons (by simpa using hi)
  have ht : Lx.tok (s.data.toList.drop i) = if 16 < Lx.runN Lx.inner (s.data.toList.drop i) then .error 2 else .ok (if Lx.isWord ((s.data.toList.drop i).takeWhile Lx.inner) then 2 else 1, (s.data.toList.drop i).takeWhile Lx.inner, 0) := by
    conv => lhs; rw [hd]
    simp only [Lx.tok, hl, if_true, ← hd]
    rfl
  have hxa : s.extract i (i + Lx.runN Lx.inner (s.data.toList.drop i)) = ⟨((s.data.toList.drop i).takeWhile Lx.inner).toArray⟩ := by rw [extract_eq, take_runN]
  have hlen : ((s.data.toList.drop i).takeWhile Lx.inner).length = Lx.runN Lx.inner (s.data.toList.drop i) := rfl
  have ht' := hid ht
  have hxa' := hid hxa
  have hlen' := hid hlen
  have hn2 := Nat.le_refl w.heap.size
  clear hd ht hxa hlen
  go_enter Tryz.func43, Tryz.ntmps43
  go_wp2_with (first | (go_at_call 82; refine (rletter_any _ _).mono ?_; rintro e w1 ⟨rfl, rfl⟩))
  refine (run_inner s i _ (by omega) hs).mono ?_
  rintro e w1 ⟨rfl, rfl⟩
  generalize hn : Lx.runN Lx.inner (s.data.toList.drop i) = n at *
  generalize htx : s.extract i (i + n) = tx at *
  have hn' := hid hn
  clear hn
  by_cases h16 : 16 < n
  · rw [if_pos h16] at ht'
    go_wp2_with fail
    refine bodyPost_ret (v := .tuple #[tokV 0 tx 0 0 0, .int .i64 2]) (by simp [results, Tryz.results43, go_sem, tokV]) rfl ⟨?_, balloc _ _⟩
    unfold RTokPost
    rw [ht'.out]
    exact ⟨_, _, _, rfl, by decide⟩
  · rw [if_neg h16] at ht'
    go_wp2_with fail
    refine (rword_any _ _).mono ?_
    rintro e w1 ⟨rfl, hb1⟩
    have B1 := hid ((Blk.new w #[.int .i64 0, .string ⟨#[]⟩, .int .i64 0, .int .i64 0, .int .i64 0] 85).ext hb1)
    have Q1 := hid (bthen (balloc w _) hb1)
    obtain ⟨d0, d1, d2, d3, d4, df, dz⟩ := B1.out.five
    rw [hx.out]
    cases hw : Lx.isWord ((s.data.toList.drop i).takeWhile Lx.inner) with
    | true =>
      rw [hw] at ht'
      go_wp2_with fail
      refine bodyPost_ret (v := .tuple #[tokV 2 tx 0 0 0, .int .i64 0]) (by simp [results, Tryz.results43, go_sem, tokV, d0, d1, d2, d3, d4]) rfl ⟨?_, (by simp only [below_setNew_iff hn2]; exact Q1.out)⟩
      unfold RTokPost
      rw [ht'.out]
      refine ⟨by rw [hxa'.out]; rfl, ?_⟩
      rw [hlen'.out]; omega
    | false =>
      rw [hw] at ht'
      go_wp2_with fail
      refine bodyPost_ret (v := .tuple #[tokV 1 tx 0 0 0, .int .i64 0]) (by simp [results, Tryz.results43, go_sem, tokV, d0, d1, d2, d3, d4]) rfl ⟨?_, (by simp only [below_setNew_iff hn2]; exact Q1.out)⟩
      unfold RTokPost
      rw [ht'.out]
      refine ⟨by rw [hxa'.out]; rfl, ?_⟩
      rw [hlen'.out]; omega

theorem rnum_isNone {L : Lx.Bytes} : Lx.number L = none ↔ (Lx.number L).isSome = false := by cases Lx.number L <;> simp

set_option maxHeartbeats 1000000 in
/-- a digit -/
theorem rtoken_digits {s : ByteArray} {i : Nat} (w : World) (hi : i < s.size) (hs : s.size ≤ 140737488355328) (hl : Lx.letter s[i] = false) (hg : Lx.digit s[i] = true) :
    Calls Tryz.prog 43 #[.string s, .int .i64 i] w fun e w' => RTokPost s i e ∧ Below w.heap.size w w' := by
  have hle := Lx.runN_le Lx.digit (s.data.toList.drop i)
  rw [List.length_drop, list_len] at hle
  have hx := hid (extract_run s i Lx.digit)
  have hxs := extract_size' s i (Lx.runN Lx.digit (s.data.toList.drop i)) (by omega)
  have hd : s.data.toList.drop i = s[i] :: s.data.toList.drop (i + 1) := Lx.drop_cons (by simpa using hi)
  have ht : Lx.tok (s.data.toList.drop i) = match Lx.number ((s.data.toList.drop i).takeWhile Lx.digit) with | none => .error 10 | some n => .ok (3, (s.data.toList.drop i).takeWhile Lx.digit, n) := by
    conv => lhs; rw [hd]
    simp only [Lx.tok, hl, hg, if_true, ← hd, Bool.false_eq_true, if_false]
    cases Lx.number ((s.data.toList.drop i).takeWhile Lx.digit) <;> rfl
  have hxa : s.extract i (i + Lx.runN Lx.digit (s.data.toList.drop i)) = ⟨((s.data.toList.drop i).takeWhile Lx.digit).toArray⟩ := by rw [extract_eq, take_runN]
  have hlen : ((s.data.toList.drop i).takeWhile Lx.digit).length = Lx.runN Lx.digit (s.data.toList.drop i) := rfl
  have hpos : 0 < Lx.runN Lx.digit (s.data.toList.drop i) := by
    rw [Lx.runN_step (by rw [Lx.hdIs_lt (by simpa using hi)]; exact hg)]; omega
  have ht' := hid ht
  have hxa' := hid hxa
  have hlen' := hid hlen
  have hn2 := Nat.le_refl w.heap.size
  clear hd ht hxa hlen
  go_enter Tryz.func43, Tryz.ntmps43
  go_wp2_with (first | (go_at_call 82; refine (rletter_any _ _).mono ?_; rintro e w1 ⟨rfl, rfl⟩) | (go_at_call 85; refine (rdigit_any _ _).mono ?_; rintro e w1 ⟨rfl, rfl⟩))
  refine (run_digit s i _ (by omega) hs).mono ?_
  rintro e w1 ⟨rfl, rfl⟩
  generalize hn : Lx.runN Lx.digit (s.data.toList.drop i) = n at *
  generalize htx : s.extract i (i + n) = tx at *
  have hda := hid (digits_all hx.out)
  have hrn := hid (rnum_eq (L := tx.data.toList) (by
    intro c hc
    obtain ⟨j, hj, rfl⟩ := List.getElem_of_mem hc
    have h1 : j < tx.size := by simpa using hj
    rw [list_get tx j h1]; exact hda.out j h1) (by intro e; have := list_len tx; rw [e] at this; simp at this; omega))
  rw [← hx.out] at ht'
  clear hn
  go_wp2_with fail
  refine (rnumber_any _ _ hda.out (by omega)).mono ?_
  rintro e w1 ⟨rfl, rfl⟩
  cases hnum : Lx.number tx.data.toList with
  | none =>
    rw [hnum] at ht'
    have hbig : 65535 < rnum tx.data.toList := hrn.out.1.2 hnum
    clear hnum
    go_wp2_with fail
    refine bodyPost_ret (v := .tuple #[tokV 0 tx 0 0 0, .int .i64 10]) (by simp [results, Tryz.results43, go_sem, tokV]) rfl ⟨?_, balloc _ _⟩
    unfold RTokPost
    rw [ht'.out]
    exact ⟨_, _, _, rfl, by decide⟩
  | some n' =>
    rw [hnum] at ht'
    have hval := hid (hrn.out.2 n' hnum)
    have hbig : rnum tx.data.toList ≤ 65535 := by
      rcases Nat.lt_or_ge 65535 (rnum tx.data.toList) with h | h
      · have := hrn.out.1.1 h; rw [hnum] at this; cases this
      · exact h
    clear hnum
    go_wp2_with fail
    refine bodyPost_ret (v := .tuple #[tokV 3 tx (rnum tx.data.toList) 0 0, .int .i64 0]) (by simp [results, Tryz.results43, go_sem, tokV]) rfl ⟨?_, balloc _ _⟩
    unfold RTokPost
    rw [ht'.out, hval.out]
    refine ⟨rfl, ?_⟩
    rw [hx.out, hlen'.out]; omega

set_option maxHeartbeats 2000000 in
/-- neither -/
theorem rtoken_mark {s : ByteArray} {i : Nat} (w : World) (hi : i < s.size) (hs : s.size ≤ 140737488355328) (hl : Lx.letter s[i] = false) (hg : Lx.digit s[i] = false) :
    Calls Tryz.prog 43 #[.string s, .int .i64 i] w fun e w' => RTokPost s i e ∧ Below w.heap.size w w' := by
  have ht := tok_mark hi hl hg
  have hn2 := Nat.le_refl w.heap.size
  by_cases h61 : s[i] = 61 ∨ s[i] = 43 ∨ s[i] = 59
  · rw [if_pos h61] at ht
    have ht' := hid ht
    have htx := extract_eq s i 1
    rw [take_one hi] at htx
    have hc : ((s[i].toNat : Int) == 61) = true ∨ (((s[i].toNat : Int) == 61) = false ∧ ((s[i].toNat : Int) == 43) = true) ∨ (((s[i].toNat : Int) == 61) = false ∧ ((s[i].toNat : Int) == 43) = false ∧ ((s[i].toNat : Int) == 59) = true) := by
      rw [← u8_eq 61 61 rfl, ← u8_eq 43 43 rfl, ← u8_eq 59 59 rfl]
      rcases h61 with h | h | h <;> rw [h] <;> decide
    have hgen : ∃ t : ByteArray, s.extract i (i + 1) = t ∧ t = ⟨[s[i]].toArray⟩ := ⟨_, htx, rfl⟩
    clear ht h61 htx
    obtain ⟨tx, htx, htv⟩ := hgen
    have htv' := hid htv
    clear htv
    rcases hc with hc1 | ⟨hc1, hc2⟩ | ⟨hc1, hc2, hc3⟩
    all_goals
      go_enter Tryz.func43, Tryz.ntmps43
      go_wp2_with (first | (go_at_call 82; refine (rletter_any _ _).mono ?_; rintro e w1 ⟨rfl, rfl⟩) | (go_at_call 85; refine (rdigit_any _ _).mono ?_; rintro e w1 ⟨rfl, rfl⟩))
      refine bodyPost_ret (v := .tuple #[tokV 4 tx 0 0 0, .int .i64 0]) (by simp [results, Tryz.results43, go_sem, tokV]) rfl ⟨?_, balloc _ _⟩
      unfold RTokPost
      rw [ht'.out]
      exact ⟨by rw [htv'.out], by simp; omega⟩
  · rw [if_neg h61] at ht
    have g1 : ((s[i].toNat : Int) == 61) = false := by rw [← u8_eq 61 61 rfl]; simpa using fun h => h61 (Or.inl h)
    have g2 : ((s[i].toNat : Int) == 43) = false := by rw [← u8_eq 43 43 rfl]; simpa using fun h => h61 (Or.inr (Or.inl h))
    have g3 : ((s[i].toNat : Int) == 59) = false := by rw [← u8_eq 59 59 rfl]; simpa using fun h => h61 (Or.inr (Or.inr h))
    clear h61
    by_cases h46 : s[i] = 46 ∧ (s.data.toList.drop (i + 1)).head? = some 46
    · rw [if_pos h46] at ht
      have ht' := hid ht
      clear ht
      have hi1 : i + 1 < s.size := by
        rcases Nat.lt_or_ge (i + 1) s.size with h | h
        · exact h
        · have := h46.2; rw [head_drop_none h] at this; cases this
      have e1 : ((s[i + 1].toNat : Int) == 46) = true := by have := h46.2; rw [head_drop hi1] at this; rw [Option.some.inj this]; decide
      have e0 : ((s[i].toNat : Int) == 46) = true := by rw [h46.1]; decide
      clear h46
      go_enter Tryz.func43, Tryz.ntmps43
      go_wp2_with (first | (go_at_call 82; refine (rletter_any _ _).mono ?_; rintro e w1 ⟨rfl, rfl⟩) | (go_at_call 85; refine (rdigit_any _ _).mono ?_; rintro e w1 ⟨rfl, rfl⟩))
      refine bodyPost_ret (v := .tuple #[tokV 4 ⟨#[46, 46]⟩ 0 0 0, .int .i64 0]) (by simp [results, Tryz.results43, go_sem, tokV]) rfl ⟨?_, balloc _ _⟩
      unfold RTokPost
      rw [ht'.out]
      exact ⟨rfl, by simp; omega⟩
    · rw [if_neg h46] at ht
      have ht' := hid ht
      have hc : decide ((i : Int) + 1 < s.size) = false ∨ (∃ h : (i : Int) + 1 < s.size, ((s[i].toNat : Int) == 46) = false) ∨ (∃ h : i + 1 < s.size, ((s[i].toNat : Int) == 46) = true ∧ ((s[i + 1].toNat : Int) == 46) = false) := by
        rcases Nat.lt_or_ge (i + 1) s.size with h | h
        · refine Or.inr ?_
          by_cases e0 : s[i] = 46
          · refine Or.inr ⟨h, by rw [e0]; decide, ?_⟩
            rw [← u8_eq 46 46 rfl]
            have : s[i + 1] ≠ 46 := fun e1 => h46 ⟨e0, by rw [head_drop h, e1]⟩
            simpa using this
          · refine Or.inl ⟨by omega, ?_⟩
            rw [← u8_eq 46 46 rfl]; simpa using e0
        · exact Or.inl (decide_eq_false (by omega))
      clear ht h46
      rcases hc with hc1 | ⟨hc1, hc2⟩ | ⟨hc1, hc2, hc3⟩
      all_goals
        go_enter Tryz.func43, Tryz.ntmps43
        go_wp2_with (first | (go_at_call 82; refine (rletter_any _ _).mono ?_; rintro e w1 ⟨rfl, rfl⟩) | (go_at_call 85; refine (rdigit_any _ _).mono ?_; rintro e w1 ⟨rfl, rfl⟩))
        refine bodyPost_ret (v := badRes) (by simp [results, Tryz.results43, go_sem, tokV, badRes]) rfl ⟨?_, balloc _ _⟩
        unfold RTokPost
        rw [ht'.out]
        exact ⟨_, _, _, rfl, by decide⟩

theorem rtoken_any {s : ByteArray} {i : Nat} (w : World) (hi : i < s.size) (hs : s.size ≤ 140737488355328) :
    Calls Tryz.prog 43 #[.string s, .int .i64 i] w fun e w' => RTokPost s i e ∧ Below w.heap.size w w' := by
  cases hl : Lx.letter s[i] with
  | true => exact rtoken_name w hi hs hl
  | false =>
    cases hg : Lx.digit s[i] with
    | true => exact rtoken_digits w hi hs hl hg
    | false => exact rtoken_mark w hi hs hl hg

end Go.Proofs.YtnoieobjfihbeaaGreatDoor

namespace Go.Proofs.YtnoieobjfihbeaaGreatDoor
open Go.RowKit Go.Sort

theorem RTokPost.shape {s : ByteArray} {i : Nat} {e : Ending} (h : RTokPost s i e) : ∃ (k : Nat) (t : ByteArray) (n er : Nat), e = .returned (.tuple #[tokV k t n 0 0, .int .i64 er]) := by
  unfold RTokPost at h
  split at h
  · exact ⟨_, _, _, 0, h.1⟩
  · obtain ⟨k, t, n, he, _⟩ := h; exact ⟨k, t, n, _, he⟩
theorem rskip_nat (s : ByteArray) (i : Nat) (w : World) (h1 : i ≤ s.size) (hs : s.size ≤ 140737488355328) :
    Calls Tryz.prog 42 #[.string s, .int .i64 i] w fun e w' => e = .returned (.int .i64 (i + Lx.skipN false (s.data.toList.drop i) : Nat)) ∧ w = w' :=
  (rskip_any s i w (by omega) (by omega) hs).mono fun _ _ h => h
set_option maxRecDepth 100000 in
set_option maxHeartbeats 2000000 in
theorem rtokens_any (s : ByteArray) (w : World) (hs : s.size ≤ 140737488355328) :
    Calls Tryz.prog 16 #[.string s] w fun e w' => TokensPost s.data.toList e w' ∧ Below w.heap.size w w' := by
  obtain ⟨i0, hinf, hz0, hz1, hz2⟩ := info_parts Tryz.infoTok
  have hn2 := Nat.le_refl w.heap.size
  by_cases h512 : 512 < s.size
  · go_enter Tryz.func16, Tryz.ntmps16
    go_wp2_with fail
    refine bodyPost_ret (v := .tuple #[.slice none 0 0, .agg #[.int .i64 2, .int .i64 1, .int .i64 1]]) (by simp [results, Tryz.results16, go_sem]) rfl ⟨?_, balloc _ _⟩
    unfold TokensPost Lx.tokens
    rw [if_pos (by simpa using h512)]
    exact ⟨_, rfl, Row.nil _ _, by decide⟩
  · have h512' : s.size ≤ 512 := by omega
    clear h512
    go_enter Tryz.func16, Tryz.ntmps16
    go_wp2_with fail
    have hsk0 := Lx.skipN_le false (s.data.toList.drop 0)
    rw [List.length_drop, list_len] at hsk0
    refine (rskip_nat s 0 _ (by omega) hs).mono ?_
    rintro e w1 ⟨rfl, rfl⟩
    generalize ha0 : 0 + Lx.skipN false (s.data.toList.drop 0) = a0 at *
    have ha0' := hid ha0
    have hb0 : a0 ≤ s.size := by omega
    clear ha0
    go_wp2_with fail
    go_loopg [4, 5] (s.size + 1) (fun g u v wr => ∃ (i a n : Nat) (ts : List Lx.Tok), v = .int .i64 a ∧ i + Lx.skipN false (s.data.toList.drop i) = a ∧ a ≤ s.size ∧ n ≤ i ∧ n = ts.length ∧ Toking s.data.toList g i ts ∧ Blk wr w.heap.size #[.int .i64 0, .int .i64 0, .int .i64 0] 27 ∧
      wr.ownsRow (w.heap.size + 1) 85 5 u n (toksCells ts) ∧ Below w.heap.size w wr)
    case atStart => exact ⟨0, a0, 0, [], rfl, ha0'.out, hb0, Nat.le_refl _, rfl, by have := Toking.begin s.data.toList; rwa [list_len] at this, Blk.new _ _ _, World.ownsRow_nil _ _ _ _, balloc _ _⟩
    case round =>
      obtain ⟨i, a, n, ts, rfl, hia, hale, hni, hnl, htk, hB, hown, hQ⟩ := hrel
      have hnl' := hid hnl
      have htk' := hid htk
      have hB' := hid hB
      have hown' := hid hown
      have hQ' := hid hQ
      have hgk : 0 < gk := by have := htk.1; omega
      have htE := hid (fun h => Toking.end htk h (by rw [list_len]; exact h512'))
      have htR := hid (fun er h1 h2 => Toking.err (er := er) htk h1 (by rw [list_len]; exact h512') h2)
      obtain ⟨gk', rfl⟩ : ∃ g', gk = g' + 1 := ⟨gk - 1, by omega⟩
      have htO := hid (fun k t n h1 h2 => Toking.ok (k := k) (t := t) (n := n) htk h1 h2)
      have hnia : n ≤ a := by omega
      rw [hia] at htE htR htO
      clear hnl htk hB hown hQ hia
      by_cases hend : a < s.size
      · have hlen : a < s.data.toList.length := by simpa using hend
        go_wp2_with fail
        refine (rtoken_any wr hend hs).mono ?_
        rintro e w2 ⟨hnp, hb2⟩
        have hB2 := hid (hB'.out.ext hb2)
        have hown2 := hid (owns_ext hown'.out hb2)
        have hQ2 := hid (bthen hQ'.out hb2)
        unfold RTokPost at hnp
        cases htk2 : Lx.tok (s.data.toList.drop a) with
        | error er =>
          rw [htk2] at hnp
          obtain ⟨k, t, m, rfl, her⟩ := hnp
          have hfin := hid (htR.out er hlen htk2)
          clear htk2 hlen
          unfold tokV
          go_wp2_with fail
          refine (rplace_nat s a _ hale hs).mono ?_
          rintro e w3 ⟨rfl, hb3⟩
          have hB3 := hid (((hB2.out.alloc _).alloc _).ext hb3)
          have hQ3 := hid (bthen ((hQ2.out.alloc hQ2.out.size _).alloc (by have := hQ2.out.size; simp; omega) _) hb3)
          have hz3 := hb3.size
          simp only [World.size_alloc] at hz3
          obtain ⟨d0, d1, d2, df, dz⟩ := hB3.out.three
          go_wp2_with fail
          refine bodyPost_ret (v := .tuple #[.slice (some ⟨w2.heap.size + 1, 0, none⟩) 0 0, .agg #[.int .i64 er, .int .i64 (Lx.posOf (s.data.toList.take a)).1, .int .i64 (Lx.posOf (s.data.toList.take a)).2]]) (by simp [results, Tryz.results16, go_sem, d0, d1, d2]) rfl ⟨?_, (by simp only [below_setNew_iff hn2]; exact hQ3.out)⟩
          unfold TokensPost
          rw [hfin.out]
          exact ⟨_, rfl, Row.empty (by simp; omega) _, by intro h0; rw [h0] at her; simp at her⟩
        | ok x =>
          obtain ⟨k, t, m⟩ := x
          rw [htk2] at hnp
          obtain ⟨rfl, hle5⟩ := hnp
          have htk5 := hid (htO.out k t m hlen htk2)
          have q1 : 1 ≤ t.length := Lx.tok_pos htk2
          clear htk2 hlen
          unfold tokV
          go_wp2_with fail
          have hz2' := hb2.size
          refine (rplace_nat s a _ hale hs).mono ?_
          rintro e w3 ⟨rfl, hb3⟩
          have hB3 := hid ((hB2.out.alloc _).ext hb3)
          have hT3 := hid ((Blk.new w2 #[.int .i64 k, .string ⟨t.toArray⟩, .int .i64 m, .int .i64 0, .int .i64 0] 85).ext hb3)
          have hown3 := hid (owns_ext (hown2.out.alloc _) hb3)
          have hQ3 := hid (bthen (hQ2.out.alloc hQ2.out.size _) hb3)
          have hz3 := hb3.size
          simp only [World.size_alloc] at hz3
          have hnw : w.heap.size ≤ w2.heap.size := hQ2.out.size
          have hne : u4.ownBlock ≠ some w2.heap.size := fun e => by have := (hown2.out.lt _ e).2; omega
          have hne2 : w.heap.size ≠ w2.heap.size := by have := hB2.out.lt; omega
          obtain ⟨c0, c1, c2, c3, c4, cf, cz⟩ := hT3.out.five
          have hcap : n + 1 ≤ maxLen := by unfold maxLen; omega
          have hW := hid (show ∀ x y, ((w3.setCell ⟨w2.heap.size, 3, none⟩ x).setCell ⟨w2.heap.size, 4, none⟩ y).ownsRow (w.heap.size + 1) 85 5 u4 n (toksCells ts) from fun x y => ownsRow_setCell_other (ownsRow_setCell_other hown3.out (a := ⟨w2.heap.size, 3, none⟩) hne x) (a := ⟨w2.heap.size, 4, none⟩) hne y)
          have hc1 := hid (fun x y => cells_new ((w3.setCell ⟨w2.heap.size, 3, none⟩ x).setCell ⟨w2.heap.size, 4, none⟩ y) (tokCells (Lx.tokAt s.data.toList a k t m)) 85 (k := w3.heap.size) (by simp))
          go_wp2_with (first | (at_builtin; refine wpList_append_own _ rfl _ _ 38 rfl (w.heap.size + 1) 85 i0 (.agg #[.int .i64 0, .string ⟨#[]⟩, .int .i64 0, .int .i64 0, .int .i64 0]) 5 48 Tryz.underlying38 hinf hz0 hz1 hz2 rfl (by decide) _ _ _ rfl ((hW.out _ _).alloc _) ⟨w3.heap.size, 0, none⟩ 1 1 (tokCells (Lx.tokAt s.data.toList a k t m)) rfl rfl (hc1.out _ _) (tokCells_one _) hcap (by omega) (by simp; omega) ?_; intro v' w5 hown5 hgrow _; have hT5 := (Blk.grown (((hT3.out.set 3 _).set 4 _).alloc _) hgrow hne).cell 1 (v := .string ⟨t.toArray⟩) rfl))
          refine (rskip_any s (a + t.length : Int) _ (by omega) (by omega) hs).mono ?_
          rintro e w6 ⟨rfl, rfl⟩
          simp only [show ((a : Int) + t.length).toNat = a + t.length by omega]
          have hskl := Lx.skipN_le false (s.data.toList.drop (a + t.length))
          rw [List.length_drop, list_len] at hskl
          generalize ha' : a + t.length + Lx.skipN false (s.data.toList.drop (a + t.length)) = a' at *
          have ha'' := hid ha'
          have hale' : a' ≤ s.size := by omega
          clear ha'
          go_wp2_with fail
          go_roundg gk'
          case measure => omega
          case rel =>
            have hown4a := (hW.out (.int .i64 (Lx.posOf (s.data.toList.take a)).1) (.int .i64 (Lx.posOf (s.data.toList.take a)).2)).alloc (.cells (tokCells (Lx.tokAt s.data.toList a k t m)).toArray 85)
            refine ⟨a + t.length, a', n + 1, ts ++ [Lx.tokAt s.data.toList a k t m], rfl, ha''.out, hale', by omega, by rw [List.length_append, ← hnl'.out]; rfl, htk5.out, ?_, ?_, ?_⟩
            · exact Blk.grown (Blk.alloc (Blk.setOther (Blk.setOther hB3.out hne2 _ _) hne2 _ _) _) hgrow (own_ne hown4a (by omega))
            · rw [toksCells_snoc]; exact hown5
            · exact ((bset (bset hQ3.out hnw _) hnw _).alloc (by have := hQ3.out.size; simp; omega) _).grown hgrow (by have := hQ3.out.size; simp; omega) (fun k hk => by have := (hown4a.lt k hk).1; omega)
      · obtain rfl : a = s.size := by omega
        obtain ⟨d0, d1, d2, df, dz⟩ := hB'.out.three
        go_wp2_with fail
        refine bodyPost_ret (v := .tuple #[u4, .agg #[.int .i64 0, .int .i64 0, .int .i64 0]]) (by simp [results, Tryz.results16, go_sem, d0, d1, d2]) rfl ⟨?_, (by simp only [below_setNew_iff hn2]; exact hQ'.out)⟩
        unfold TokensPost
        rw [htE.out (by simp)]
        refine ⟨u4, rfl, ?_⟩
        rw [← hnl'.out]
        exact Row.of_owns (owns_touch hown'.out ((((Touch.refl w.heap.size wr).setCell 0 _).setCell 1 _).setCell 2 _) (by omega))

end Go.Proofs.YtnoieobjfihbeaaGreatDoor
