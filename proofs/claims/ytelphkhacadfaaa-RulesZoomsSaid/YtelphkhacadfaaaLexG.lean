/- The walks of package lex: mark where there is none; next. -/
import Derived.Test.YtelphkhacadfaaaLexF
namespace Go.Proofs.Ytelphkhacadfaaa
open Go.RowKit Go.Sort

set_option maxHeartbeats 1000000 in
theorem mark_bad {b : Nat} {s : ByteArray} {i : Nat} {w : World} (hr : RdP w b s i) (hi : i < s.size) (hs : s.size ≤ 140737488355328)
    (hc1 : ((s[i].toNat : Int) == 61) = false) (hc2 : ((s[i].toNat : Int) == 43) = false) (hc3 : ((s[i].toNat : Int) == 59) = false)
    (hc : ((s[i].toNat : Int) == 46) = false ∨ (((s[i].toNat : Int) == 46) = true ∧ ((i : Int) + 1 == s.size) = true) ∨ (((s[i].toNat : Int) == 46) = true ∧ ∃ h : i + 1 < s.size, ((s[i + 1].toNat : Int) != 46) = true)) :
    Calls Try.prog 99 #[.pointer (some ⟨b, 0, none⟩)] w fun e w' =>
      e = .returned badRes ∧ RdP w' b s i ∧ Touch b w w' := by
  have hr' := hid hr
  have hlb := RdP.lt hr
  obtain ⟨hz, h0, h1, h2, h3, f1, f2, f3⟩ := Rd.f hr
  clear hr h2 h3 f1 f2 f3
  have hne2 : b ≠ w.heap.size := by omega
  have hn2 := Nat.le_refl w.heap.size
  rcases hc with hc4 | ⟨hc4, hc5⟩ | ⟨hc4, hi1, hc6⟩
  · go_enter Try.func99, Try.ntmps99
    go_wp2_with fail
    go_quiet (fail)
    go_wp2_with fail
    exact bodyPost_ret (v := badRes) (by simp [results, Try.results99, go_sem, badRes, tokV]) rfl ⟨rfl, (by unfold RdP Rd; simp only [Blk.setOther_iff hne2, Blk.drewN_iff]; exact Blk.alloc hr'.out _), (by simp only [Touch.setNew_iff hn2, Touch.drewN_iff]; exact (Touch.refl b w).alloc _)⟩
  · go_enter Try.func99, Try.ntmps99
    go_wp2_with fail
    go_quiet (fail)
    go_wp2_with fail
    have p1 : IntKind.i64.wrap ((i : Int) + 1) = (i : Int) + 1 := IntWalk.i64_in _ (by omega)
    go_quiet (fail)
    go_wp2_with fail
    exact bodyPost_ret (v := badRes) (by simp [results, Try.results99, go_sem, badRes, tokV]) rfl ⟨rfl, (by unfold RdP Rd; simp only [Blk.setOther_iff hne2, Blk.drewN_iff]; exact Blk.alloc hr'.out _), (by simp only [Touch.setNew_iff hn2, Touch.drewN_iff]; exact (Touch.refl b w).alloc _)⟩
  · have hd : ((i : Int) + 1 == s.size) = false := by rw [beq_eq_false_iff_ne]; omega
    go_enter Try.func99, Try.ntmps99
    go_wp2_with fail
    go_quiet (fail)
    go_wp2_with fail
    have p1 : IntKind.i64.wrap ((i : Int) + 1) = (i : Int) + 1 := IntWalk.i64_in _ (by omega)
    have p2 : (0 : Int) ≤ (i : Int) + 1 := by omega
    have p3 : ((i : Int) + 1).toNat = i + 1 := by omega
    have p4 : (i : Int) + 1 < (s.size : Int) := by omega
    go_quiet (fail)
    go_wp2_with fail
    exact bodyPost_ret (v := badRes) (by simp [results, Try.results99, go_sem, badRes, tokV]) rfl ⟨rfl, (by unfold RdP Rd; simp only [Blk.setOther_iff hne2, Blk.drewN_iff]; exact Blk.alloc hr'.out _), (by simp only [Touch.setNew_iff hn2, Touch.drewN_iff]; exact (Touch.refl b w).alloc _)⟩

/-- what 'next' gives back, by the plain lexer -/
def NextPost (b : Nat) (s : ByteArray) (i : Nat) (e : Ending) (w' : World) : Prop :=
  match Lx.tok (s.data.toList.drop i) with
  | .ok (k, t, n) => e = .returned (.tuple #[tokV k ⟨t.toArray⟩ n 0 0, .int .i64 0]) ∧ RdP w' b s (i + t.length) ∧ i + t.length ≤ s.size
  | .error er => ∃ k t n, e = .returned (.tuple #[tokV k t n 0 0, .int .i64 er]) ∧ ((er : Int) != 0) = true

theorem extract_eq (s : ByteArray) (i n : Nat) : s.extract i (i + n) = ⟨((s.data.toList.drop i).take n).toArray⟩ := by
  apply ByteArray.ext
  apply Array.toList_inj.1
  rw [extract_list, Nat.add_sub_cancel_left]

theorem nextPost_name {b : Nat} {s : ByteArray} {i : Nat} {w' : World} (hi : i < s.size) (hl : Lx.letter s[i] = true) (hr : RdP w' b s (i + Lx.runN Lx.inner (s.data.toList.drop i))) : NextPost b s i (.returned (nameRes s i)) w' := by
  have hle := Lx.runN_le Lx.inner (s.data.toList.drop i)
  rw [List.length_drop, list_len] at hle
  have hd : s.data.toList.drop i = s[i] :: s.data.toList.drop (i + 1) := Lx.drop_cons (by simpa using hi)
  have ht : Lx.tok (s.data.toList.drop i) = if 16 < Lx.runN Lx.inner (s.data.toList.drop i) then .error 2 else .ok (if Lx.isWord ((s.data.toList.drop i).takeWhile Lx.inner) then 2 else 1, (s.data.toList.drop i).takeWhile Lx.inner, 0) := by
    conv => lhs; rw [hd]
    simp only [Lx.tok, hl, if_true, ← hd]
    rfl
  have hx : s.extract i (i + Lx.runN Lx.inner (s.data.toList.drop i)) = ⟨((s.data.toList.drop i).takeWhile Lx.inner).toArray⟩ := by rw [extract_eq, take_runN]
  have hlen : ((s.data.toList.drop i).takeWhile Lx.inner).length = Lx.runN Lx.inner (s.data.toList.drop i) := rfl
  unfold NextPost
  rw [ht]
  by_cases h16 : 16 < Lx.runN Lx.inner (s.data.toList.drop i)
  · rw [if_pos h16]
    exact ⟨_, _, _, by unfold nameRes; rw [if_pos h16]; rfl, by decide⟩
  · rw [if_neg h16]
    refine ⟨by unfold nameRes; rw [if_neg h16, hx], ?_, ?_⟩
    · rw [hlen]; exact hr
    · rw [hlen]; omega

theorem nextPost_digits {b : Nat} {s : ByteArray} {i : Nat} {w' : World} (hi : i < s.size) (hl : Lx.letter s[i] = false) (hg : Lx.digit s[i] = true) (hr : RdP w' b s (i + Lx.runN Lx.digit (s.data.toList.drop i))) : NextPost b s i (.returned (digitsRes s i)) w' := by
  have hle := Lx.runN_le Lx.digit (s.data.toList.drop i)
  rw [List.length_drop, list_len] at hle
  have hd : s.data.toList.drop i = s[i] :: s.data.toList.drop (i + 1) := Lx.drop_cons (by simpa using hi)
  have ht : Lx.tok (s.data.toList.drop i) = match Lx.number ((s.data.toList.drop i).takeWhile Lx.digit) with | none => .error 10 | some n => .ok (3, (s.data.toList.drop i).takeWhile Lx.digit, n) := by
    conv => lhs; rw [hd]
    simp only [Lx.tok, hl, hg, if_true, ← hd, Bool.false_eq_true, if_false]
    cases Lx.number ((s.data.toList.drop i).takeWhile Lx.digit) <;> rfl
  have hx : s.extract i (i + Lx.runN Lx.digit (s.data.toList.drop i)) = ⟨((s.data.toList.drop i).takeWhile Lx.digit).toArray⟩ := by rw [extract_eq, take_runN]
  have hlen : ((s.data.toList.drop i).takeWhile Lx.digit).length = Lx.runN Lx.digit (s.data.toList.drop i) := rfl
  unfold NextPost
  rw [ht]
  cases hn : Lx.number ((s.data.toList.drop i).takeWhile Lx.digit) with
  | none => exact ⟨_, _, _, by unfold digitsRes; rw [hn]; rfl, by decide⟩
  | some n =>
    refine ⟨by unfold digitsRes; rw [hn, hx, Lx.number_some hn]; rfl, ?_, ?_⟩
    · rw [hlen]; exact hr
    · rw [hlen]; omega

theorem tok_mark {s : ByteArray} {i : Nat} (hi : i < s.size) (hl : Lx.letter s[i] = false) (hg : Lx.digit s[i] = false) :
    Lx.tok (s.data.toList.drop i) = if s[i] = 61 ∨ s[i] = 43 ∨ s[i] = 59 then .ok (4, [s[i]], 0) else if s[i] = 46 ∧ (s.data.toList.drop (i + 1)).head? = some 46 then .ok (4, [46, 46], 0) else .error 30 := by
  have hd : s.data.toList.drop i = s[i] :: s.data.toList.drop (i + 1) := Lx.drop_cons (by simpa using hi)
  rw [hd]
  simp only [Lx.tok, hl, hg, Bool.false_eq_true, if_false]
theorem head_drop {s : ByteArray} {i : Nat} (hi : i < s.size) : (s.data.toList.drop i).head? = some s[i] := by
  have hd : s.data.toList.drop i = s[i] :: s.data.toList.drop (i + 1) := Lx.drop_cons (by simpa using hi)
  rw [hd]; rfl
theorem head_drop_none {s : ByteArray} {i : Nat} (hi : s.size ≤ i) : (s.data.toList.drop i).head? = none := by
  rw [List.drop_eq_nil_of_le (by simpa using hi)]; rfl
theorem take_one {s : ByteArray} {i : Nat} (hi : i < s.size) : (s.data.toList.drop i).take 1 = [s[i]] := by
  have hd : s.data.toList.drop i = s[i] :: s.data.toList.drop (i + 1) := Lx.drop_cons (by simpa using hi)
  rw [hd]; rfl
theorem take_two {s : ByteArray} {i : Nat} (hi : i + 1 < s.size) : (s.data.toList.drop i).take 2 = [s[i], s[i + 1]] := by
  have hd : s.data.toList.drop i = s[i] :: s.data.toList.drop (i + 1) := Lx.drop_cons (by simp; omega)
  have hd2 : s.data.toList.drop (i + 1) = s[i + 1] :: s.data.toList.drop (i + 2) := Lx.drop_cons (by simpa using hi)
  rw [hd, hd2]; rfl
theorem u8_neq (k : UInt8) (n : Int) (h : (k.toNat : Int) = n) (c : UInt8) : (c != k) = ((c.toNat : Int) != n) := by
  unfold bne; rw [u8_eq k n h]

/-- what 'mark' gives back, whatever stands there -/
theorem mark_any {b : Nat} {s : ByteArray} {i : Nat} {w : World} (hr : RdP w b s i) (hi : i < s.size) (hs : s.size ≤ 140737488355328) (hl : Lx.letter s[i] = false) (hg : Lx.digit s[i] = false) :
    Calls Try.prog 99 #[.pointer (some ⟨b, 0, none⟩)] w fun e w' => NextPost b s i e w' ∧ Touch b w w' := by
  have ht := tok_mark hi hl hg
  by_cases h61 : s[i] = 61 ∨ s[i] = 43 ∨ s[i] = 59
  · rw [if_pos h61] at ht
    refine (mark_one hr hi hs ?_).mono ?_
    · rw [← u8_eq 61 61 rfl, ← u8_eq 43 43 rfl, ← u8_eq 59 59 rfl]
      rcases h61 with h | h | h <;> rw [h] <;> decide
    · rintro e w1 ⟨rfl, hr1, ht1⟩
      refine ⟨?_, ht1⟩
      unfold NextPost
      rw [ht]
      exact ⟨by unfold markRes; rw [extract_eq, take_one hi], hr1, by simp; omega⟩
  · rw [if_neg h61] at ht
    have g1 : ((s[i].toNat : Int) == 61) = false := by rw [← u8_eq 61 61 rfl]; simpa using fun h => h61 (Or.inl h)
    have g2 : ((s[i].toNat : Int) == 43) = false := by rw [← u8_eq 43 43 rfl]; simpa using fun h => h61 (Or.inr (Or.inl h))
    have g3 : ((s[i].toNat : Int) == 59) = false := by rw [← u8_eq 59 59 rfl]; simpa using fun h => h61 (Or.inr (Or.inr h))
    by_cases h46 : s[i] = 46 ∧ (s.data.toList.drop (i + 1)).head? = some 46
    · rw [if_pos h46] at ht
      have hi1 : i + 1 < s.size := by
        rcases Nat.lt_or_ge (i + 1) s.size with h | h
        · exact h
        · have := h46.2; rw [head_drop_none h] at this; cases this
      have e1 : s[i + 1] = 46 := by have := h46.2; rw [head_drop hi1] at this; exact Option.some.inj this
      refine (mark_two hr hi1 hs g1 g2 g3 (by rw [h46.1]; decide) (by rw [e1]; decide)).mono ?_
      rintro e w1 ⟨rfl, hr1, ht1⟩
      refine ⟨?_, ht1⟩
      unfold NextPost
      rw [ht]
      exact ⟨by unfold markRes; rw [extract_eq, take_two hi1, h46.1, e1], hr1, by simp; omega⟩
    · rw [if_neg h46] at ht
      refine (mark_bad hr hi hs g1 g2 g3 ?_).mono ?_
      · by_cases e0 : s[i] = 46
        · refine Or.inr ?_
          have f0 : ((s[i].toNat : Int) == 46) = true := by rw [e0]; decide
          rcases Nat.lt_or_ge (i + 1) s.size with h | h
          · refine Or.inr ⟨f0, h, ?_⟩
            rw [← u8_neq 46 46 rfl]
            have : s[i + 1] ≠ 46 := fun e1 => h46 ⟨e0, by rw [head_drop h, e1]⟩
            simpa using this
          · exact Or.inl ⟨f0, by rw [beq_iff_eq]; omega⟩
        · refine Or.inl ?_
          rw [← u8_eq 46 46 rfl]; simpa using e0
      · rintro e w1 ⟨rfl, hr1, ht1⟩
        refine ⟨?_, ht1⟩
        unfold NextPost
        rw [ht]
        exact ⟨_, _, _, rfl, by decide⟩

theorem NextPost.shape {b : Nat} {s : ByteArray} {i : Nat} {e : Ending} {w : World} (h : NextPost b s i e w) : ∃ (k : Nat) (t : ByteArray) (n er : Nat), e = .returned (.tuple #[tokV k t n 0 0, .int .i64 er]) := by
  unfold NextPost at h
  split at h
  · exact ⟨_, _, _, 0, h.1⟩
  · obtain ⟨k, t, n, he, _⟩ := h; exact ⟨k, t, n, _, he⟩
theorem NextPost.world {b : Nat} {s : ByteArray} {i : Nat} {e : Ending} {w w' : World} (h : NextPost b s i e w) (hw : ∀ j, RdP w b s j → RdP w' b s j) : NextPost b s i e w' := by
  unfold NextPost at *
  split at h
  · exact ⟨h.1, hw _ h.2.1, h.2.2⟩
  · exact h

set_option maxHeartbeats 1000000 in
theorem next_any {b : Nat} {s : ByteArray} {i : Nat} {w : World} (hr : RdP w b s i) (hi : i < s.size) (hs : s.size ≤ 140737488355328) :
    Calls Try.prog 77 #[.pointer (some ⟨b, 0, none⟩)] w fun e w' => NextPost b s i e w' ∧ Touch b w w' := by
  have e1 := hid (show Lx.hdIs Lx.letter (s.data.toList.drop i) = Lx.letter s[i] from Lx.hdIs_lt (by simpa using hi))
  have e2 := hid (show Lx.hdIs Lx.digit (s.data.toList.drop i) = Lx.digit s[i] from Lx.hdIs_lt (by simpa using hi))
  have hr' := hid hr
  have hlb := RdP.lt hr
  have hn2 := Nat.le_refl w.heap.size
  have hne : b ≠ w.heap.size := by omega
  clear hr
  go_enter Try.func77, Try.ntmps77
  go_wp2_with fail
  have B0 := hid (Blk.new w #[.int .i64 0, .string ⟨#[]⟩, .int .i64 0, .int .i64 0, .int .i64 0] 109)
  refine (more_any _ holds_letter (RdP.ext hr'.out (balloc _ _))).mono ?_
  rintro e w1 ⟨rfl, hb1⟩
  have hr1' := hid (RdP.ext (RdP.ext hr'.out (balloc _ _)) hb1)
  have B1 := hid (B0.out.ext hb1)
  have Q1 := hid (((Touch.refl b w).alloc _).below hb1)
  rw [e1.out]
  cases hl : Lx.letter s[i] with
  | true =>
    go_wp2_with fail
    refine (lexname_any hr1'.out hi hs).mono ?_
    rintro e w2 ⟨he, hr2, ht2⟩
    have B2 := hid (B1.out.touch ht2 (Ne.symm hne))
    have N2 := hid (he ▸ nextPost_name hi hl hr2)
    have Q2 := hid (Q1.out.trans ht2)
    clear hr2 he
    obtain ⟨k, t, n, er, rfl⟩ := N2.out.shape
    obtain ⟨d0, d1, d2, d3, d4, df, dz⟩ := B2.out.five
    unfold tokV
    go_wp2_with fail
    exact bodyPost_ret (v := .tuple #[tokV k t n 0 0, .int .i64 er]) (by simp [results, Try.results77, go_sem, tokV, d0, d1, d2, d3, d4]) rfl ⟨N2.out.world fun j hj => (by unfold RdP Rd; simp only [Blk.setOther_iff hne]; exact hj), (by simp only [Touch.setNew_iff hn2]; exact Q2.out)⟩
  | false =>
    go_wp2_with fail
    refine (more_any _ holds_digit hr1'.out).mono ?_
    rintro e w1' ⟨rfl, hb1'⟩
    have hr1' := hid (RdP.ext hr1'.out hb1')
    have B1 := hid (B1.out.ext hb1')
    have Q1 := hid (Q1.out.below hb1')
    rw [e2.out]
    cases hg : Lx.digit s[i] with
    | true =>
      go_wp2_with fail
      refine (lexdigits_any hr1'.out hi hs).mono ?_
      rintro e w2 ⟨he, hr2, ht2⟩
      have B2 := hid (B1.out.touch ht2 (Ne.symm hne))
      have N2 := hid (he ▸ nextPost_digits hi hl hg hr2)
      have Q2 := hid (Q1.out.trans ht2)
      clear hr2 he
      obtain ⟨k, t, n, er, rfl⟩ := N2.out.shape
      obtain ⟨d0, d1, d2, d3, d4, df, dz⟩ := B2.out.five
      unfold tokV
      go_wp2_with fail
      exact bodyPost_ret (v := .tuple #[tokV k t n 0 0, .int .i64 er]) (by simp [results, Try.results77, go_sem, tokV, d0, d1, d2, d3, d4]) rfl ⟨N2.out.world fun j hj => (by unfold RdP Rd; simp only [Blk.setOther_iff hne]; exact hj), (by simp only [Touch.setNew_iff hn2]; exact Q2.out)⟩
    | false =>
      go_wp2_with fail
      refine (mark_any hr1'.out hi hs hl hg).mono ?_
      rintro e w2 ⟨hnp, ht2⟩
      have B2 := hid (B1.out.touch ht2 (Ne.symm hne))
      have N2 := hid hnp
      have Q2 := hid (Q1.out.trans ht2)
      clear hnp
      obtain ⟨k, t, n, er, rfl⟩ := N2.out.shape
      obtain ⟨d0, d1, d2, d3, d4, df, dz⟩ := B2.out.five
      unfold tokV
      go_wp2_with fail
      exact bodyPost_ret (v := .tuple #[tokV k t n 0 0, .int .i64 er]) (by simp [results, Try.results77, go_sem, tokV, d0, d1, d2, d3, d4]) rfl ⟨N2.out.world fun j hj => (by unfold RdP Rd; simp only [Blk.setOther_iff hne]; exact hj), (by simp only [Touch.setNew_iff hn2]; exact Q2.out)⟩

end Go.Proofs.Ytelphkhacadfaaa
