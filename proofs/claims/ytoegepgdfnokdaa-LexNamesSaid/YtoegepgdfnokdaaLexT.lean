/- The walks of the lexer's reference: token, Tokens. -/
import Derived.Test.YtoegepgdfnokdaaLexS
namespace Go.Proofs.Ytoegepgdfnokdaa
open Go.RowKit Go.Sort

theorem run_inner (s : ByteArray) (i : Nat) (w : World) (h1 : i ≤ s.size) (hs : s.size ≤ 140737488355328) :
    Calls Try.prog 31 #[.string s, .int .i64 i, .bool false] w fun e w' => e = .returned (.int .i64 (Lx.runN Lx.inner (s.data.toList.drop i))) ∧ w = w' :=
  (run_any s i false w (by omega) (by omega) hs).mono fun _ _ h => h
theorem run_digit (s : ByteArray) (i : Nat) (w : World) (h1 : i ≤ s.size) (hs : s.size ≤ 140737488355328) :
    Calls Try.prog 31 #[.string s, .int .i64 i, .bool true] w fun e w' => e = .returned (.int .i64 (Lx.runN Lx.digit (s.data.toList.drop i))) ∧ w = w' :=
  (run_any s i true w (by omega) (by omega) hs).mono fun _ _ h => h

/-- what the reference's 'token' gives back, by the plain lexer -/
def RTokPost (s : ByteArray) (i : Nat) (e : Ending) : Prop :=
  match Lx.tok (s.data.toList.drop i) with
  | .ok (k, t, n) => e = .returned (.tuple #[tokV k ⟨t.toArray⟩ n 0 0, .int .i64 0]) ∧ i + t.length ≤ s.size
  | .error er => ∃ k t n, e = .returned (.tuple #[tokV k t n 0 0, .int .i64 er]) ∧ ((er : Int) != 0) = true

set_option maxHeartbeats 1000000 in
/-- a letter -/
theorem rtoken_name {s : ByteArray} {i : Nat} (w : World) (hi : i < s.size) (hs : s.size ≤ 140737488355328) (hl : Lx.letter s[i] = true) :
    Calls Try.prog 24 #[.string s, .int .i64 i] w fun e w' => RTokPost s i e ∧ Below w.heap.size w w' := by
  have hle := Lx.runN_le Lx.inner (s.data.toList.drop i)
  rw [List.length_drop, list_len] at hle
  have hx := hid (extract_run s i Lx.inner)
  have hxs := extract_size' s i (Lx.runN Lx.inner (s.data.toList.drop i)) (by omega)
  have hd : s.data.toList.drop i = s[i] :: s.data.toList.drop (i + 1) := Lx.drop_cons (by simpa using hi)
  have ht : Lx.tok (s.data.toList.drop i) = if 16 < Lx.runN Lx.inner (s.data.toList.drop i) then .error 2 else .ok (if Lx.isWord ((s.data.toList.drop i).takeWhile Lx.inner) then 2 else 1, (s.data.toList.drop i).takeWhile Lx.inner, 0) := by
    conv => lhs; rw [hd]
    simp only [Lx.tok, hl, if_true, ← hd]
    rfl
  have hxa : s.extract i (i + Lx.runN Lx.inner (s.data.toList.drop i)) = ⟨((s.data.toList.drop i).takeWhile Lx.inner).toArray⟩ := by rw [extract_eq, take_runN]
  have hlen : ((s.data.toList.drop i).takeWhile Lx.inner).length = Lx.runN Lx.inner (s.data.toList.drop i) := rfl
  have ht' := hid ht
  have hxa' := hid hxa
  have hlen' := hid hlen
  have hn2 := Nat.le_refl w.heap.size
  clear hd ht hxa hlen
  go_enter Try.func24, Try.ntmps24
  go_wp2_with (first | (go_at_call 30; refine (rletter_any _ _).mono ?_; rintro e w1 ⟨rfl, rfl⟩))
  refine (run_inner s i _ (by omega) hs).mono ?_
  rintro e w1 ⟨rfl, rfl⟩
  generalize hn : Lx.runN Lx.inner (s.data.toList.drop i) = n at *
  generalize htx : s.extract i (i + n) = tx at *
  have hn' := hid hn
  clear hn
  by_cases h16 : 16 < n
  · rw [if_pos h16] at ht'
    go_wp2_with fail
    refine bodyPost_ret (v := .tuple #[tokV 0 tx 0 0 0, .int .i64 2]) (by simp [results, Try.results24, go_sem, tokV]) rfl ⟨?_, balloc _ _⟩
    unfold RTokPost
    rw [ht'.out]
    exact ⟨_, _, _, rfl, by decide⟩
  · rw [if_neg h16] at ht'
    go_wp2_with fail
    refine (rword_any _ _).mono ?_
    rintro e w1 ⟨rfl, hb1⟩
    have B1 := hid ((Blk.new w #[.int .i64 0, .string ⟨#[]⟩, .int .i64 0, .int .i64 0, .int .i64 0] 37).ext hb1)
    have Q1 := hid (bthen (balloc w _) hb1)
    obtain ⟨d0, d1, d2, d3, d4, df, dz⟩ := B1.out.five
    rw [hx.out]
    cases hw : Lx.isWord ((s.data.toList.drop i).takeWhile Lx.inner) with
    | true =>
      rw [hw] at ht'
      go_wp2_with fail
      refine bodyPost_ret (v := .tuple #[tokV 2 tx 0 0 0, .int .i64 0]) (by simp [results, Try.results24, go_sem, tokV, d0, d1, d2, d3, d4]) rfl ⟨?_, (by simp only [below_setNew_iff hn2]; exact Q1.out)⟩
      unfold RTokPost
      rw [ht'.out]
      refine ⟨by rw [hxa'.out]; rfl, ?_⟩
      rw [hlen'.out]; omega
    | false =>
      rw [hw] at ht'
      go_wp2_with fail
      refine bodyPost_ret (v := .tuple #[tokV 1 tx 0 0 0, .int .i64 0]) (by simp [results, Try.results24, go_sem, tokV, d0, d1, d2, d3, d4]) rfl ⟨?_, (by simp only [below_setNew_iff hn2]; exact Q1.out)⟩
      unfold RTokPost
      rw [ht'.out]
      refine ⟨by rw [hxa'.out]; rfl, ?_⟩
      rw [hlen'.out]; omega

theorem rnum_isNone {L : Lx.Bytes} : Lx.number L = none ↔ (Lx.number L).isSome = false := by cases Lx.number L <;> simp

set_option maxHeartbeats 1000000 in
/-- a digit -/
theorem rtoken_digits {s : ByteArray} {i : Nat} (w : World) (hi : i < s.size) (hs : s.size ≤ 140737488355328) (hl : Lx.letter s[i] = false) (hg : Lx.digit s[i] = true) :
    Calls Try.prog 24 #[.string s, .int .i64 i] w fun e w' => RTokPost s i e ∧ Below w.heap.size w w' := by
  have hle := Lx.runN_le Lx.digit (s.data.toList.drop i)
  rw [List.length_drop, list_len] at hle
  have hx := hid (extract_run s i Lx.digit)
  have hxs := extract_size' s i (Lx.runN Lx.digit (s.data.toList.drop i)) (by omega)
  have hd : s.data.toList.drop i = s[i] :: s.data.toList.drop (i + 1) := Lx.drop_cons (by simpa using hi)
  have ht : Lx.tok (s.data.toList.drop i) = match Lx.number ((s.data.toList.drop i).takeWhile Lx.digit) with | none => .error 10 | some n => .ok (3, (s.data.toList.drop i).takeWhile Lx.digit, n) := by
    conv => lhs; rw [hd]
    simp only [Lx.tok, hl, hg, if_true, ← hd, Bool.false_eq_true, if_false]
    cases Lx.number ((s.data.toList.drop i).takeWhile Lx.digit) <;> rfl
  have hxa : s.extract i (i + Lx.runN Lx.digit (s.data.toList.drop i)) = ⟨((s.data.toList.drop i).takeWhile Lx.digit).toArray⟩ := by rw [extract_eq, take_runN]
  have hlen : ((s.data.toList.drop i).takeWhile Lx.digit).length = Lx.runN Lx.digit (s.data.toList.drop i) := rfl
  have hpos : 0 < Lx.runN Lx.digit (s.data.toList.drop i) := by
    rw [Lx.runN_step (by rw [Lx.hdIs_lt (by simpa using hi)]; exact hg)]; omega
  have ht' := hid ht
  have hxa' := hid hxa
  have hlen' := hid hlen
  have hn2 := Nat.le_refl w.heap.size
  clear hd ht hxa hlen
  go_enter Try.func24, Try.ntmps24
  go_wp2_with (first | (go_at_call 30; refine (rletter_any _ _).mono ?_; rintro e w1 ⟨rfl, rfl⟩) | (go_at_call 40; refine (rdigit_any _ _).mono ?_; rintro e w1 ⟨rfl, rfl⟩))
  refine (run_digit s i _ (by omega) hs).mono ?_
  rintro e w1 ⟨rfl, rfl⟩
  generalize hn : Lx.runN Lx.digit (s.data.toList.drop i) = n at *
  generalize htx : s.extract i (i + n) = tx at *
  have hda := hid (digits_all hx.out)
  have hrn := hid (rnum_eq (L := tx.data.toList) (by
    intro c hc
    obtain ⟨j, hj, rfl⟩ := List.getElem_of_mem hc
    have h1 : j < tx.size := by simpa using hj
    rw [list_get tx j h1]; exact hda.out j h1) (by intro e; have := list_len tx; rw [e] at this; simp at this; omega))
  rw [← hx.out] at ht'
  clear hn
  go_wp2_with fail
  refine (rnumber_any _ _ hda.out (by omega)).mono ?_
  rintro e w1 ⟨rfl, rfl⟩
  cases hnum : Lx.number tx.data.toList with
  | none =>
    rw [hnum] at ht'
    have hbig : 65535 < rnum tx.data.toList := hrn.out.1.2 hnum
    clear hnum
    go_wp2_with fail
    refine bodyPost_ret (v := .tuple #[tokV 0 tx 0 0 0, .int .i64 10]) (by simp [results, Try.results24, go_sem, tokV]) rfl ⟨?_, balloc _ _⟩
    unfold RTokPost
    rw [ht'.out]
    exact ⟨_, _, _, rfl, by decide⟩
  | some n' =>
    rw [hnum] at ht'
    have hval := hid (hrn.out.2 n' hnum)
    have hbig : rnum tx.data.toList ≤ 65535 := by
      rcases Nat.lt_or_ge 65535 (rnum tx.data.toList) with h | h
      · have := hrn.out.1.1 h; rw [hnum] at this; cases this
      · exact h
    clear hnum
    go_wp2_with fail
    refine bodyPost_ret (v := .tuple #[tokV 3 tx (rnum tx.data.toList) 0 0, .int .i64 0]) (by simp [results, Try.results24, go_sem, tokV]) rfl ⟨?_, balloc _ _⟩
    unfold RTokPost
    rw [ht'.out, hval.out]
    refine ⟨rfl, ?_⟩
    rw [hx.out, hlen'.out]; omega

set_option maxHeartbeats 2000000 in
/-- neither -/
theorem rtoken_mark {s : ByteArray} {i : Nat} (w : World) (hi : i < s.size) (hs : s.size ≤ 140737488355328) (hl : Lx.letter s[i] = false) (hg : Lx.digit s[i] = false) :
    Calls Try.prog 24 #[.string s, .int .i64 i] w fun e w' => RTokPost s i e ∧ Below w.heap.size w w' := by
  have ht := tok_mark hi hl hg
  have hn2 := Nat.le_refl w.heap.size
  by_cases h61 : s[i] = 61 ∨ s[i] = 43 ∨ s[i] = 59
  · rw [if_pos h61] at ht
    have ht' := hid ht
    have htx := extract_eq s i 1
    rw [take_one hi] at htx
    have hc : ((s[i].toNat : Int) == 61) = true ∨ (((s[i].toNat : Int) == 61) = false ∧ ((s[i].toNat : Int) == 43) = true) ∨ (((s[i].toNat : Int) == 61) = false ∧ ((s[i].toNat : Int) == 43) = false ∧ ((s[i].toNat : Int) == 59) = true) := by
      rw [← u8_eq 61 61 rfl, ← u8_eq 43 43 rfl, ← u8_eq 59 59 rfl]
      rcases h61 with h | h | h <;> rw [h] <;> decide
    have hgen : ∃ t : ByteArray, s.extract i (i + 1) = t ∧ t = ⟨[s[i]].toArray⟩ := ⟨_, htx, rfl⟩
    clear ht h61 htx
    obtain ⟨tx, htx, htv⟩ := hgen
    have htv' := hid htv
    clear htv
    rcases hc with hc1 | ⟨hc1, hc2⟩ | ⟨hc1, hc2, hc3⟩
    all_goals
      go_enter Try.func24, Try.ntmps24
      go_wp2_with (first | (go_at_call 30; refine (rletter_any _ _).mono ?_; rintro e w1 ⟨rfl, rfl⟩) | (go_at_call 40; refine (rdigit_any _ _).mono ?_; rintro e w1 ⟨rfl, rfl⟩))
      refine bodyPost_ret (v := .tuple #[tokV 4 tx 0 0 0, .int .i64 0]) (by simp [results, Try.results24, go_sem, tokV]) rfl ⟨?_, balloc _ _⟩
      unfold RTokPost
      rw [ht'.out]
      exact ⟨by rw [htv'.out], by simp; omega⟩
  · rw [if_neg h61] at ht
    have g1 : ((s[i].toNat : Int) == 61) = false := by rw [← u8_eq 61 61 rfl]; simpa using fun h => h61 (Or.inl h)
    have g2 : ((s[i].toNat : Int) == 43) = false := by rw [← u8_eq 43 43 rfl]; simpa using fun h => h61 (Or.inr (Or.inl h))
    have g3 : ((s[i].toNat : Int) == 59) = false := by rw [← u8_eq 59 59 rfl]; simpa using fun h => h61 (Or.inr (Or.inr h))
    clear h61
    by_cases h46 : s[i] = 46 ∧ (s.data.toList.drop (i + 1)).head? = some 46
    · rw [if_pos h46] at ht
      have ht' := hid ht
      clear ht
      have hi1 : i + 1 < s.size := by
        rcases Nat.lt_or_ge (i + 1) s.size with h | h
        · exact h
        · have := h46.2; rw [head_drop_none h] at this; cases this
      have e1 : ((s[i + 1].toNat : Int) == 46) = true := by have := h46.2; rw [head_drop hi1] at this; rw [Option.some.inj this]; decide
      have e0 : ((s[i].toNat : Int) == 46) = true := by rw [h46.1]; decide
      clear h46
      go_enter Try.func24, Try.ntmps24
      go_wp2_with (first | (go_at_call 30; refine (rletter_any _ _).mono ?_; rintro e w1 ⟨rfl, rfl⟩) | (go_at_call 40; refine (rdigit_any _ _).mono ?_; rintro e w1 ⟨rfl, rfl⟩))
      refine bodyPost_ret (v := .tuple #[tokV 4 ⟨#[46, 46]⟩ 0 0 0, .int .i64 0]) (by simp [results, Try.results24, go_sem, tokV]) rfl ⟨?_, balloc _ _⟩
      unfold RTokPost
      rw [ht'.out]
      exact ⟨rfl, by simp; omega⟩
    · rw [if_neg h46] at ht
      have ht' := hid ht
      have hc : decide ((i : Int) + 1 < s.size) = false ∨ (∃ h : (i : Int) + 1 < s.size, ((s[i].toNat : Int) == 46) = false) ∨ (∃ h : i + 1 < s.size, ((s[i].toNat : Int) == 46) = true ∧ ((s[i + 1].toNat : Int) == 46) = false) := by
        rcases Nat.lt_or_ge (i + 1) s.size with h | h
        · refine Or.inr ?_
          by_cases e0 : s[i] = 46
          · refine Or.inr ⟨h, by rw [e0]; decide, ?_⟩
            rw [← u8_eq 46 46 rfl]
            have : s[i + 1] ≠ 46 := fun e1 => h46 ⟨e0, by rw [head_drop h, e1]⟩
            simpa using this
          · refine Or.inl ⟨by omega, ?_⟩
            rw [← u8_eq 46 46 rfl]; simpa using e0
        · exact Or.inl (decide_eq_false (by omega))
      clear ht h46
      rcases hc with hc1 | ⟨hc1, hc2⟩ | ⟨hc1, hc2, hc3⟩
      all_goals
        go_enter Try.func24, Try.ntmps24
        go_wp2_with (first | (go_at_call 30; refine (rletter_any _ _).mono ?_; rintro e w1 ⟨rfl, rfl⟩) | (go_at_call 40; refine (rdigit_any _ _).mono ?_; rintro e w1 ⟨rfl, rfl⟩))
        refine bodyPost_ret (v := badRes) (by simp [results, Try.results24, go_sem, tokV, badRes]) rfl ⟨?_, balloc _ _⟩
        unfold RTokPost
        rw [ht'.out]
        exact ⟨_, _, _, rfl, by decide⟩

theorem rtoken_any {s : ByteArray} {i : Nat} (w : World) (hi : i < s.size) (hs : s.size ≤ 140737488355328) :
    Calls Try.prog 24 #[.string s, .int .i64 i] w fun e w' => RTokPost s i e ∧ Below w.heap.size w w' := by
  cases hl : Lx.letter s[i] with
  | true => exact rtoken_name w hi hs hl
  | false =>
    cases hg : Lx.digit s[i] with
    | true => exact rtoken_digits w hi hs hl hg
    | false => exact rtoken_mark w hi hs hl hg

end Go.Proofs.Ytoegepgdfnokdaa
