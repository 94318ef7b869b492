/-
  The walks of package lex: mark where there is none; next.
  The walk of lex.Tokens.
  A row of tokens in memory.
  The policy's reader as plain Lean: tokens, a place among them, the first fault. No program, no memory.
-/
import Derived.Test.YteddkgpnklfppaaGreatDoorPk02
import Derived.Deep.DeepMust
import Derived.Test.YteddkgpnklfppaaGreatDoorPk01

namespace Go.Proofs.YteddkgpnklfppaaGreatDoor
open Go.RowKit Go.Sort

set_option maxHeartbeats 1000000 in
theorem mark_bad {b : Nat} {s : ByteArray} {i : Nat} {w : World} (hr : RdP w b s i) (hi : i < s.size) (hs : s.size ≤ 140737488355328)
    (hc1 : ((s[i].toNat : Int) == 61) = false) (hc2 : ((s[i].toNat : Int) == 43) = false) (hc3 : ((s[i].toNat : Int) == 59) = false)
    (hc : ((s[i].toNat : Int) == 46) = false ∨ (((s[i].toNat : Int) == 46) = true ∧ ((i : Int) + 1 == s.size) = true) ∨ (((s[i].toNat : Int) == 46) = true ∧ ∃ h : i + 1 < s.size, ((s[i + 1].toNat : Int) != 46) = true)) :
    Calls Tryz.prog 82 #[.pointer (some ⟨b, 0, none⟩)] w fun e w' =>
      e = .returned badRes ∧ RdP w' b s i ∧ Touch b w w' := by
  have hr' := hid hr
  have hlb := RdP.lt hr
  obtain ⟨hz, h0, h1, h2, h3, f1, f2, f3⟩ := Rd.f hr
  clear hr h2 h3 f1 f2 f3
  have hne2 : b ≠ w.heap.size := by omega
  have hn2 := Nat.le_refl w.heap.size
  rcases hc with hc4 | ⟨hc4, hc5⟩ | ⟨hc4, hi1, hc6⟩
  · go_enter Tryz.func82, Tryz.ntmps82
    go_wp2_with fail
    go_quiet (fail)
    go_wp2_with fail
    exact bodyPost_ret (v := badRes) (by simp [results, Tryz.results82, go_sem, badRes, tokV]) rfl ⟨rfl, (by unfold RdP Rd; simp only [Blk.setOther_iff hne2, Blk.drewN_iff]; exact Blk.alloc hr'.out _), (by simp only [Touch.setNew_iff hn2, Touch.drewN_iff]; exact (Touch.refl b w).alloc _)⟩
  · go_enter Tryz.func82, Tryz.ntmps82
    go_wp2_with fail
    go_quiet (fail)
    go_wp2_with fail
    have p1 : IntKind.i64.wrap ((i : Int) + 1) = (i : Int) + 1 := IntWalk.i64_in _ (by omega)
    go_quiet (fail)
    go_wp2_with fail
    exact bodyPost_ret (v := badRes) (by simp [results, Tryz.results82, go_sem, badRes, tokV]) rfl ⟨rfl, (by unfold RdP Rd; simp only [Blk.setOther_iff hne2, Blk.drewN_iff]; exact Blk.alloc hr'.out _), (by simp only [Touch.setNew_iff hn2, Touch.drewN_iff]; exact (Touch.refl b w).alloc _)⟩
  · have hd : ((i : Int) + 1 == s.size) = false := by rw [beq_eq_false_iff_ne]; omega
    go_enter Tryz.func82, Tryz.ntmps82
    go_wp2_with fail
    go_quiet (fail)
    go_wp2_with fail
    have p1 : IntKind.i64.wrap ((i : Int) + 1) = (i : Int) + 1 := IntWalk.i64_in _ (by omega)
    have p2 : (0 : Int) ≤ (i : Int) + 1 := by omega
    have p3 : ((i : Int) + 1).toNat = i + 1 := by omega
    have p4 : (i : Int) + 1 < (s.size : Int) := by omega
    go_quiet (fail)
    go_wp2_with fail
    exact bodyPost_ret (v := badRes) (by simp [results, Tryz.results82, go_sem, badRes, tokV]) rfl ⟨rfl, (by unfold RdP Rd; simp only [Blk.setOther_iff hne2, Blk.drewN_iff]; exact Blk.alloc hr'.out _), (by simp only [Touch.setNew_iff hn2, Touch.drewN_iff]; exact (Touch.refl b w).alloc _)⟩

/-- what 'next' gives back, by the plain lexer -/
def NextPost (b : Nat) (s : ByteArray) (i : Nat) (e : Ending) (w' : World) : Prop :=
  match Lx.tok (s.data.toList.drop i) with
  | .ok (k, t, n) => e = .returned (.tuple #[tokV k ⟨t.toArray⟩ n 0 0, .int .i64 0]) ∧ RdP w' b s (i + t.length) ∧ i + t.length ≤ s.size
  | .error er => ∃ k t n, e = .returned (.tuple #[tokV k t n 0 0, .int .i64 er]) ∧ ((er : Int) != 0) = true

theorem extract_eq (s : ByteArray) (i n : Nat) : s.extract i (i + n) = ⟨((s.data.toList.drop i).take n).toArray⟩ := by
  apply ByteArray.ext
  apply Array.toList_inj.1
  rw [extract_list, Nat.add_sub_cancel_left]

theorem nextPost_name {b : Nat} {s : ByteArray} {i : Nat} {w' : World} (hi : i < s.size) (hl : Lx.letter s[i] = true) (hr : RdP w' b s (i + Lx.runN Lx.inner (s.data.toList.drop i))) : NextPost b s i (.returned (nameRes s i)) w' := by
  have hle := Lx.runN_le Lx.inner (s.data.toList.drop i)
  rw [List.length_drop, list_len] at hle
  have hd : s.data.toList.drop i = s[i] :: s.data.toList.drop (i + 1) := Lx.drop_cons (by simpa using hi)
  have ht : Lx.tok (s.data.toList.drop i) = if 16 < Lx.runN Lx.inner (s.data.toList.drop i) then .error 2 else .ok (if Lx.isWord ((s.data.toList.drop i).takeWhile Lx.inner) then 2 else 1, (s.data.toList.drop i).takeWhile Lx.inner, 0) := by
    conv => lhs; rw [hd]
    simp only [Lx.tok, hl, if_true, ← hd]
    rfl
  have hx : s.extract i (i + Lx.runN Lx.inner (s.data.toList.drop i)) = ⟨((s.data.toList.drop i).takeWhile Lx.inner).toArray⟩ := by rw [extract_eq, take_runN]
  have hlen : ((s.data.toList.drop i).takeWhile Lx.inner).length = Lx.runN Lx.inner (s.data.toList.drop i) := rfl
  unfold NextPost
  rw [ht]
  by_cases h16 : 16 < Lx.runN Lx.inner (s.data.toList.drop i)
  · rw [if_pos h16]
    exact ⟨_, _, _, by unfold nameRes; rw [if_pos h16]; rfl, by decide⟩
  · rw [if_neg h16]
    refine ⟨by unfold nameRes; rw [if_neg h16, hx], ?_, ?_⟩
    · rw [hlen]; exact hr
    · rw [hlen]; omega

theorem nextPost_digits {b : Nat} {s : ByteArray} {i : Nat} {w' : World} (hi : i < s.size) (hl : Lx.letter s[i] = false) (hg : Lx.digit s[i] = true) (hr : RdP w' b s (i + Lx.runN Lx.digit (s.data.toList.drop i))) : NextPost b s i (.returned (digitsRes s i)) w' := by
  have hle := Lx.runN_le Lx.digit (s.data.toList.drop i)
  rw [List.length_drop, list_len] at hle
  have hd : s.data.toList.drop i = s[i] :: s.data.toList.drop (i + 1) := Lx.drop_cons (by simpa using hi)
  have ht : Lx.tok (s.data.toList.drop i) = match Lx.number ((s.data.toList.drop i).takeWhile Lx.digit) with | none => .error 10 | some n => .ok (3, (s.data.toList.drop i).takeWhile Lx.digit, n) := by
    conv => lhs; rw [hd]
    simp only [Lx.tok, hl, hg, if_true, ← hd, Bool.false_eq_true, if_false]
    cases Lx.number ((s.data.toList.drop i).takeWhile Lx.digit) <;> rfl
  have hx : s.extract i (i + Lx.runN Lx.digit (s.data.toList.drop i)) = ⟨((s.data.toList.drop i).takeWhile Lx.digit).toArray⟩ := by rw [extract_eq, take_runN]
  have hlen : ((s.data.toList.drop i).takeWhile Lx.digit).length = Lx.runN Lx.digit (s.data.toList.drop i) := rfl
  unfold NextPost
  rw [ht]
  cases hn : Lx.number ((s.data.toList.drop i).takeWhile Lx.digit) with
  | none => exact ⟨_, _, _, by unfold digitsRes; rw [hn]; rfl, by decide⟩
  | some n =>
    refine ⟨by unfold digitsRes; rw [hn, hx, Lx.number_some hn]; rfl, ?_, ?_⟩
    · rw [hlen]; exact hr
    · rw [hlen]; omega

theorem tok_mark {s : ByteArray} {i : Nat} (hi : i < s.size) (hl : Lx.letter s[i] = false) (hg : Lx.digit s[i] = false) :
    Lx.tok (s.data.toList.drop i) = if s[i] = 61 ∨ s[i] = 43 ∨ s[i] = 59 then .ok (4, [s[i]], 0) else if s[i] = 46 ∧ (s.data.toList.drop (i + 1)).head? = some 46 then .ok (4, [46, 46], 0) else .error 30 := by
  have hd : s.data.toList.drop i = s[i] :: s.data.toList.drop (i + 1) := Lx.drop_cons (by simpa using hi)
  rw [hd]
  simp only [Lx.tok, hl, hg, Bool.false_eq_true, if_false]
theorem head_drop {s : ByteArray} {i : Nat} (hi : i < s.size) : (s.data.toList.drop i).head? = some s[i] := by
  have hd : s.data.toList.drop i = s[i] :: s.data.toList.drop (i + 1) := Lx.drop_cons (by simpa using hi)
  rw [hd]; rfl
theorem head_drop_none {s : ByteArray} {i : Nat} (hi : s.size ≤ i) : (s.data.toList.drop i).head? = none := by
  rw [List.drop_eq_nil_of_le (by simpa using hi)]; rfl
theorem take_one {s : ByteArray} {i : Nat} (hi : i < s.size) : (s.data.toList.drop i).take 1 = [s[i]] := by
  have hd : s.data.toList.drop i = s[i] :: s.data.toList.drop (i + 1) := Lx.drop_cons (by simpa using hi)
  rw [hd]; rfl
theorem take_two {s : ByteArray} {i : Nat} (hi : i + 1 < s.size) : (s.data.toList.drop i).take 2 = [s[i], s[i + 1]] := by
  have hd : s.data.toList.drop i = s[i] :: s.data.toList.drop (i + 1) := Lx.drop_cons (by simp; omega)
  have hd2 : s.data.toList.drop (i + 1) = s[i + 1] :: s.data.toList.drop (i + 2) := Lx.drop_cons (by simpa using hi)
  rw [hd, hd2]; rfl
theorem u8_neq (k : UInt8) (n : Int) (h : (k.toNat : Int) = n) (c : UInt8) : (c != k) = ((c.toNat : Int) != n) := by
  unfold bne; rw [u8_eq k n h]

/-- what 'mark' gives back, whatever stands there -/
theorem mark_any {b : Nat} {s : ByteArray} {i : Nat} {w : World} (hr : RdP w b s i) (hi : i < s.size) (hs : s.size ≤ 140737488355328) (hl : Lx.letter s[i] = false) (hg : Lx.digit s[i] = false) :
    Calls Tryz.prog 82 #[.pointer (some ⟨b, 0, none⟩)] w fun e w' => NextPost b s i e w' ∧ Touch b w w' := by
  have ht := tok_mark hi hl hg
  by_cases h61 : s[i] = 61 ∨ s[i] = 43 ∨ s[i] = 59
  · rw [if_pos h61] at ht
    refine (mark_one hr hi hs ?_).mono ?_
    · rw [← u8_eq 61 61 rfl, ← u8_eq 43 43 rfl, ← u8_eq 59 59 rfl]
      rcases h61 with h | h | h <;> rw [h] <;> decide
    · rintro e w1 ⟨rfl, hr1, ht1⟩
      refine ⟨?_, ht1⟩
      unfold NextPost
      rw [ht]
      exact ⟨by unfold markRes; rw [extract_eq, take_one hi], hr1, by simp; omega⟩
  · rw [if_neg h61] at ht
    have g1 : ((s[i].toNat : Int) == 61) = false := by rw [← u8_eq 61 61 rfl]; simpa using fun h => h61 (Or.inl h)
    have g2 : ((s[i].toNat : Int) == 43) = false := by rw [← u8_eq 43 43 rfl]; simpa using fun h => h61 (Or.inr (Or.inl h))
    have g3 : ((s[i].toNat : Int) == 59) = false := by rw [← u8_eq 59 59 rfl]; simpa using fun h => h61 (Or.inr (Or.inr h))
    by_cases h46 : s[i] = 46 ∧ (s.data.toList.drop (i + 1)).head? = some 46
    · rw [if_pos h46] at ht
      have hi1 : i + 1 < s.size := by
        rcases Nat.lt_or_ge (i + 1) s.size with h | h
        · exact h
        · have := h46.2; rw [head_drop_none h] at this; cases this
      have e1 : s[i + 1] = 46 := by have := h46.2; rw [head_drop hi1] at this; exact Option.some.inj this
      refine (mark_two hr hi1 hs g1 g2 g3 (by rw [h46.1]; decide) (by rw [e1]; decide)).mono ?_
      rintro e w1 ⟨rfl, hr1, ht1⟩
      refine ⟨?_, ht1⟩
      unfold NextPost
      rw [ht]
      exact ⟨by unfold markRes; rw [extract_eq, take_two hi1, h46.1, e1], hr1, by simp; omega⟩
    · rw [if_neg h46] at ht
      refine (mark_bad hr hi hs g1 g2 g3 ?_).mono ?_
      · by_cases e0 : s[i] = 46
        · refine Or.inr ?_
          have f0 : ((s[i].toNat : Int) == 46) = true := by rw [e0]; decide
          rcases Nat.lt_or_ge (i + 1) s.size with h | h
          · refine Or.inr ⟨f0, h, ?_⟩
            rw [← u8_neq 46 46 rfl]
            have : s[i + 1] ≠ 46 := fun e1 => h46 ⟨e0, by rw [head_drop h, e1]⟩
            simpa using this
          · exact Or.inl ⟨f0, by rw [beq_iff_eq]; omega⟩
        · refine Or.inl ?_
          rw [← u8_eq 46 46 rfl]; simpa using e0
      · rintro e w1 ⟨rfl, hr1, ht1⟩
        refine ⟨?_, ht1⟩
        unfold NextPost
        rw [ht]
        exact ⟨_, _, _, rfl, by decide⟩

theorem NextPost.shape {b : Nat} {s : ByteArray} {i : Nat} {e : Ending} {w : World} (h : NextPost b s i e w) : ∃ (k : Nat) (t : ByteArray) (n er : Nat), e = .returned (.tuple #[tokV k t n 0 0, .int .i64 er]) := by
  unfold NextPost at h
  split at h
  · exact ⟨_, _, _, 0, h.1⟩
  · obtain ⟨k, t, n, he, _⟩ := h; exact ⟨k, t, n, _, he⟩
theorem NextPost.world {b : Nat} {s : ByteArray} {i : Nat} {e : Ending} {w w' : World} (h : NextPost b s i e w) (hw : ∀ j, RdP w b s j → RdP w' b s j) : NextPost b s i e w' := by
  unfold NextPost at *
  split at h
  · exact ⟨h.1, hw _ h.2.1, h.2.2⟩
  · exact h

set_option maxHeartbeats 1000000 in
theorem next_any {b : Nat} {s : ByteArray} {i : Nat} {w : World} (hr : RdP w b s i) (hi : i < s.size) (hs : s.size ≤ 140737488355328) :
    Calls Tryz.prog 48 #[.pointer (some ⟨b, 0, none⟩)] w fun e w' => NextPost b s i e w' ∧ Touch b w w' := by
  have e1 := hid (show Lx.hdIs Lx.letter (s.data.toList.drop i) = Lx.letter s[i] from Lx.hdIs_lt (by simpa using hi))
  have e2 := hid (show Lx.hdIs Lx.digit (s.data.toList.drop i) = Lx.digit s[i] from Lx.hdIs_lt (by simpa using hi))
  have hr' := hid hr
  have hlb := RdP.lt hr
  have hn2 := Nat.le_refl w.heap.size
  have hne : b ≠ w.heap.size := by omega
  clear hr
  go_enter Tryz.func48, Tryz.ntmps48
  go_wp2_with fail
  have B0 := hid (Blk.new w #[.int .i64 0, .string ⟨#[]⟩, .int .i64 0, .int .i64 0, .int .i64 0] 124)
  refine (more_any _ holds_letter (RdP.ext hr'.out (balloc _ _))).mono ?_
  rintro e w1 ⟨rfl, hb1⟩
  have hr1' := hid (RdP.ext (RdP.ext hr'.out (balloc _ _)) hb1)
  have B1 := hid (B0.out.ext hb1)
  have Q1 := hid (((Touch.refl b w).alloc _).below hb1)
  rw [e1.out]
  cases hl : Lx.letter s[i] with
  | true =>
    go_wp2_with fail
    refine (lexname_any hr1'.out hi hs).mono ?_
    rintro e w2 ⟨he, hr2, ht2⟩
    have B2 := hid (B1.out.touch ht2 (Ne.symm hne))
    have N2 := hid (he ▸ nextPost_name hi hl hr2)
    have Q2 := hid (Q1.out.trans ht2)
    clear hr2 he
    obtain ⟨k, t, n, er, rfl⟩ := N2.out.shape
    obtain ⟨d0, d1, d2, d3, d4, df, dz⟩ := B2.out.five
    unfold tokV
    go_wp2_with fail
    exact bodyPost_ret (v := .tuple #[tokV k t n 0 0, .int .i64 er]) (by simp [results, Tryz.results48, go_sem, tokV, d0, d1, d2, d3, d4]) rfl ⟨N2.out.world fun j hj => (by unfold RdP Rd; simp only [Blk.setOther_iff hne]; exact hj), (by simp only [Touch.setNew_iff hn2]; exact Q2.out)⟩
  | false =>
    go_wp2_with fail
    refine (more_any _ holds_digit hr1'.out).mono ?_
    rintro e w1' ⟨rfl, hb1'⟩
    have hr1' := hid (RdP.ext hr1'.out hb1')
    have B1 := hid (B1.out.ext hb1')
    have Q1 := hid (Q1.out.below hb1')
    rw [e2.out]
    cases hg : Lx.digit s[i] with
    | true =>
      go_wp2_with fail
      refine (lexdigits_any hr1'.out hi hs).mono ?_
      rintro e w2 ⟨he, hr2, ht2⟩
      have B2 := hid (B1.out.touch ht2 (Ne.symm hne))
      have N2 := hid (he ▸ nextPost_digits hi hl hg hr2)
      have Q2 := hid (Q1.out.trans ht2)
      clear hr2 he
      obtain ⟨k, t, n, er, rfl⟩ := N2.out.shape
      obtain ⟨d0, d1, d2, d3, d4, df, dz⟩ := B2.out.five
      unfold tokV
      go_wp2_with fail
      exact bodyPost_ret (v := .tuple #[tokV k t n 0 0, .int .i64 er]) (by simp [results, Tryz.results48, go_sem, tokV, d0, d1, d2, d3, d4]) rfl ⟨N2.out.world fun j hj => (by unfold RdP Rd; simp only [Blk.setOther_iff hne]; exact hj), (by simp only [Touch.setNew_iff hn2]; exact Q2.out)⟩
    | false =>
      go_wp2_with fail
      refine (mark_any hr1'.out hi hs hl hg).mono ?_
      rintro e w2 ⟨hnp, ht2⟩
      have B2 := hid (B1.out.touch ht2 (Ne.symm hne))
      have N2 := hid hnp
      have Q2 := hid (Q1.out.trans ht2)
      clear hnp
      obtain ⟨k, t, n, er, rfl⟩ := N2.out.shape
      obtain ⟨d0, d1, d2, d3, d4, df, dz⟩ := B2.out.five
      unfold tokV
      go_wp2_with fail
      exact bodyPost_ret (v := .tuple #[tokV k t n 0 0, .int .i64 er]) (by simp [results, Tryz.results48, go_sem, tokV, d0, d1, d2, d3, d4]) rfl ⟨N2.out.world fun j hj => (by unfold RdP Rd; simp only [Blk.setOther_iff hne]; exact hj), (by simp only [Touch.setNew_iff hn2]; exact Q2.out)⟩

end Go.Proofs.YteddkgpnklfppaaGreatDoor

namespace Go.Proofs.YteddkgpnklfppaaGreatDoor
open Go.RowKit Go.Sort

theorem Tryz.infoTok : (Tryz.prog.info? 124).map (fun i => (i.zero, i.size, i.bytes)) = some (some (.agg #[.int .i64 0, .string ⟨#[]⟩, .int .i64 0, .int .i64 0, .int .i64 0]), 5, 48) := by kernel_rfl

/-- a token's cells -/
def tokCells (t : Lx.Tok) : List Value := [.int .i64 t.kind, .string ⟨t.text.toArray⟩, .int .i64 t.n, .int .i64 t.line, .int .i64 t.col]
def toksCells (ts : List Lx.Tok) : List Value := ts.flatMap tokCells
theorem toksCells_snoc (ts : List Lx.Tok) (t : Lx.Tok) : toksCells (ts ++ [t]) = toksCells ts ++ tokCells t := by simp [toksCells, tokCells]
theorem toksCells_len (ts : List Lx.Tok) : (toksCells ts).length = ts.length * 5 := by
  induction ts with
  | nil => rfl
  | cons t ts ih => simp only [toksCells, List.flatMap_cons, List.length_append, List.length_cons] at *; rw [ih]; simp [tokCells]; omega

theorem tokCells_one (t : Lx.Tok) : ∀ u ∈ tokCells t, u.oneCell' = true := by
  intro u hu
  simp only [tokCells, List.mem_cons, List.not_mem_nil, or_false] at hu
  rcases hu with rfl | rfl | rfl | rfl | rfl <;> rfl

/-- what 'Tokens' gives back, by the plain lexer -/
def TokensPost (L : Lx.Bytes) (e : Ending) (w' : World) : Prop :=
  match Lx.tokens L with
  | .ok ts => ∃ v, e = .returned (.tuple #[v, .agg #[.int .i64 0, .int .i64 0, .int .i64 0]]) ∧ Row w' v ts.length 5 (toksCells ts)
  | .error (er, l, c) => ∃ v, e = .returned (.tuple #[v, .agg #[.int .i64 er, .int .i64 l, .int .i64 c]]) ∧ Row w' v 0 5 [] ∧ er ≠ 0

/-- the loop's own: 'rest' is still to be read -/
def Toking (L : Lx.Bytes) (f i : Nat) (ts : List Lx.Tok) : Prop := L.length - i < f ∧ Lx.toks L (L.length + 1) 0 = (Lx.toks L f i).map (ts ++ ·)

theorem Toking.begin (L : Lx.Bytes) : Toking L (L.length + 1) 0 [] := ⟨by omega, by cases Lx.toks L (L.length + 1) 0 <;> rfl⟩
theorem Toking.ok {L : Lx.Bytes} {f i k n : Nat} {t : Lx.Bytes} {ts : List Lx.Tok} (h : Toking L (f + 1) i ts) (hlt : i + Lx.skipN false (L.drop i) < L.length)
    (ht : Lx.tok (L.drop (i + Lx.skipN false (L.drop i))) = .ok (k, t, n)) :
    Toking L f (i + Lx.skipN false (L.drop i) + t.length) (ts ++ [Lx.tokAt L (i + Lx.skipN false (L.drop i)) k t n]) := by
  have hp := Lx.tok_pos ht
  refine ⟨by have := h.1; omega, ?_⟩
  rw [h.2, Lx.toks_ok hlt ht]
  cases Lx.toks L f (i + Lx.skipN false (L.drop i) + t.length) with
  | error e => rfl
  | ok l => simp [Except.map]
theorem Toking.end {L : Lx.Bytes} {f i : Nat} {ts : List Lx.Tok} (h : Toking L f i ts) (hlt : L.length ≤ i + Lx.skipN false (L.drop i)) (h512 : L.length ≤ 512) : Lx.tokens L = .ok ts := by
  unfold Lx.tokens
  rw [if_neg (by omega), h.2, Lx.toks_end (by have := h.1; omega) hlt]
  simp [Except.map]
theorem Toking.err {L : Lx.Bytes} {f i er : Nat} {ts : List Lx.Tok} (h : Toking L f i ts) (hlt : i + Lx.skipN false (L.drop i) < L.length) (h512 : L.length ≤ 512)
    (ht : Lx.tok (L.drop (i + Lx.skipN false (L.drop i))) = .error er) : Lx.tokens L = .error (Lx.mkFault er (Lx.posOf (L.take (i + Lx.skipN false (L.drop i))))) := by
  unfold Lx.tokens
  rw [if_neg (by omega), h.2, Lx.toks_err (by have := h.1; omega) hlt ht]
  rfl

set_option maxRecDepth 100000 in
set_option maxHeartbeats 2000000 in
theorem tokens_any (s : ByteArray) (w : World) (hs : s.size ≤ 140737488355328) :
    Calls Tryz.prog 28 #[.string s] w fun e w' => TokensPost s.data.toList e w' ∧ Below w.heap.size w w' := by
  obtain ⟨i0, hinf, hz0, hz1, hz2⟩ := info_parts Tryz.infoTok
  have hn2 := Nat.le_refl w.heap.size
  go_enter Tryz.func28, Tryz.ntmps28
  go_wp2_with fail
  have B0 := hid (Blk.new w #[.int .i64 0, .int .i64 0, .int .i64 0] 33)
  refine (begin_any s _).mono ?_
  rintro e w1 ⟨b, rfl, hlb, hr1, hb1⟩
  simp only [World.size_alloc] at hlb
  have hr1' := hid hr1
  have B1 := hid (B0.out.ext hb1)
  have Q1 := hid ((balloc w _).trans (hb1.mono (by simp)))
  clear hr1
  by_cases h512 : 512 < s.size
  · go_wp2_with fail
    refine (place_any hr1'.out).mono ?_
    rintro e w2 ⟨rfl, hb2⟩
    obtain ⟨d0, d1, d2, df, dz⟩ := (B1.out.ext hb2).three
    go_wp2_with fail
    refine bodyPost_ret (v := .tuple #[.slice none 0 0, .agg #[.int .i64 2, .int .i64 1, .int .i64 1]]) (by simp [results, Tryz.results28, go_sem, d0, d1, d2]; exact ⟨rfl, rfl⟩) rfl ⟨?_, (by simp only [below_setNew_iff hn2]; exact bthen Q1.out hb2)⟩
    unfold TokensPost Lx.tokens
    rw [if_pos (by simpa using h512)]
    exact ⟨_, rfl, Row.nil _ _, by decide⟩
  · have h512' : s.size ≤ 512 := by omega
    clear h512
    go_wp2_with fail
    go_loopg [5] (s.size + 1) (fun g u wr => ∃ (i n : Nat) (ts : List Lx.Tok), i ≤ s.size ∧ n ≤ i ∧ n = ts.length ∧ Toking s.data.toList g i ts ∧ RdP wr b s i ∧ Blk wr w.heap.size #[.int .i64 0, .int .i64 0, .int .i64 0] 33 ∧
      wr.ownsRow (b + 1) 124 5 u n (toksCells ts) ∧ Below w.heap.size w wr)
    case atStart => exact ⟨0, 0, [], Nat.zero_le _, Nat.le_refl _, rfl, by have := Toking.begin s.data.toList; rwa [list_len] at this, hr1'.out, B1.out, World.ownsRow_nil _ _ _ _, Q1.out⟩
    case round =>
      obtain ⟨i, n, ts, hi, hni, hnl, htk, hr, hB, hown, hQ⟩ := hrel
      have hnl' := hid hnl
      have htk' := hid htk
      have hr' := hid hr
      have hB' := hid hB
      have hown' := hid hown
      have hQ' := hid hQ
      have hgk : 0 < gk := by have := htk.1; omega
      have hsk := Lx.skipN_le false (s.data.toList.drop i)
      rw [List.length_drop, list_len] at hsk
      clear hnl htk hr hB hown hQ
      go_wp2_with fail
      refine (skip_any hr'.out hi hs).mono ?_
      rintro e w2 ⟨rfl, hr2, ht2⟩
      have hB2 := hid (hB'.out.touch ht2 (by omega))
      have hown2 := hid (owns_touch hown'.out ht2 (by omega))
      have hQ2 := hid (hQ'.out.trans (ht2.to_below hQ'.out.size (by omega)))
      have htE := hid (fun h => Toking.end htk'.out h (by rw [list_len]; exact h512'))
      have htR := hid (fun er h1 h2 => Toking.err (er := er) htk'.out h1 (by rw [list_len]; exact h512') h2)
      obtain ⟨gk', rfl⟩ : ∃ g', gk = g' + 1 := ⟨gk - 1, by omega⟩
      have htO := hid (fun k t n h1 h2 => Toking.ok (k := k) (t := t) (n := n) htk'.out h1 h2)
      have hale : i + Lx.skipN false (s.data.toList.drop i) ≤ s.size := by omega
      have hnale : n ≤ i + Lx.skipN false (s.data.toList.drop i) := by omega
      generalize ha : i + Lx.skipN false (s.data.toList.drop i) = a at *
      have hr2' := hid hr2
      clear hr2 ha
      go_wp2_with fail
      refine (place_any hr2'.out).mono ?_
      rintro e w3 ⟨rfl, hb3⟩
      have hB3 := hid (hB2.out.ext hb3)
      have hown3 := hid (owns_ext hown2.out hb3)
      have hQ3 := hid (bthen hQ2.out hb3)
      have hr3 := hid (RdP.ext hr2'.out hb3)
      obtain ⟨z0, c0, c1, c2, c3, f1, f2, f3⟩ := Rd.f hr3.out
      have hne : b ≠ w3.heap.size := by omega
      by_cases hend : a = s.size
      · subst hend
        obtain ⟨d0, d1, d2, df, dz⟩ := hB3.out.three
        go_wp2_with fail
        refine bodyPost_ret (v := .tuple #[u5, .agg #[.int .i64 0, .int .i64 0, .int .i64 0]]) (by simp [results, Tryz.results28, go_sem, d0, d1, d2, dz]) rfl ⟨?_, Below.alloc (by simp only [below_setNew_iff hn2]; exact hQ3.out) (by simp; omega) _⟩
        unfold TokensPost
        rw [htE.out (by simp)]
        refine ⟨u5, rfl, ?_⟩
        rw [← hnl'.out]
        exact Row.of_owns (owns_touch hown3.out (((((Touch.refl w.heap.size w3).setCell 0 _).setCell 1 _).setCell 2 _).alloc _) (by omega))
      · have halt : a < s.size := by omega
        have hd : ((a : Int) == s.size) = false := by rw [beq_eq_false_iff_ne]; omega
        clear hend
        go_wp2_with fail
        have hr3a := hid (RdP.ext hr3.out (balloc w3 (.cells #[.int .i64 (Lx.posOf (s.data.toList.take a)).1, .int .i64 (Lx.posOf (s.data.toList.take a)).2] 31)))
        refine (next_any hr3a.out halt hs).mono ?_
        rintro e w4 ⟨hnp, ht4⟩
        have B4 := hid ((Blk.new w3 #[.int .i64 (Lx.posOf (s.data.toList.take a)).1, .int .i64 (Lx.posOf (s.data.toList.take a)).2] 31).touch ht4 (by omega))
        have hB4 := hid ((hB3.out.alloc _).touch ht4 (by omega))
        have hown4 := hid (owns_touch (hown3.out.alloc _) ht4 (by omega))
        have hQ4 := hid ((hQ3.out.alloc hQ3.out.size _).trans (ht4.to_below (by simp; omega) (by omega)))
        have hz4 := ht4.size
        simp only [World.size_alloc] at hz4
        have hlen : a < s.data.toList.length := by simpa using halt
        unfold NextPost at hnp
        cases htk2 : Lx.tok (s.data.toList.drop a) with
        | error er =>
          rw [htk2] at hnp
          obtain ⟨k, t, m, rfl, her⟩ := hnp
          have hfin := hid (htR.out er hlen htk2)
          clear htk2 hlen
          unfold tokV
          obtain ⟨d0, d1, d2, df, dz⟩ := hB4.out.three
          obtain ⟨p0, p1, pf, pz⟩ := B4.out.two
          have nn : w.heap.size ≠ w3.heap.size := by have := hB3.out.lt; omega
          go_wp2_with fail
          go_region_held3 (fun w' => w'.cell? ⟨w3.heap.size, 0, none⟩ = some (.int .i64 (Lx.posOf (s.data.toList.take a)).1) ∧ w'.cell? ⟨w3.heap.size, 1, none⟩ = some (.int .i64 (Lx.posOf (s.data.toList.take a)).2)) (go_keep) (first | fail)
          go_wp2_with fail
          refine bodyPost_ret (v := .tuple #[.slice none 0 0, .agg #[.int .i64 er, .int .i64 (Lx.posOf (s.data.toList.take a)).1, .int .i64 (Lx.posOf (s.data.toList.take a)).2]]) (by simp [results, Tryz.results28, go_sem, d0, d1, d2, dz]) rfl ⟨?_, ?_⟩
          · unfold TokensPost
            rw [hfin.out]
            exact ⟨_, rfl, Row.nil _ _, by intro h0; rw [h0] at her; simp at her⟩
          · exact Below.drew (Below.alloc (by simp only [below_setNew_iff hn2]; exact hQ4.out) (by simp; omega) _)
        | ok x =>
          obtain ⟨k, t, m⟩ := x
          rw [htk2] at hnp
          obtain ⟨rfl, hr5, hle5⟩ := hnp
          have htk5 := hid (htO.out k t m hlen htk2)
          clear hlen
          unfold tokV
          obtain ⟨p0, p1, pf, pz⟩ := B4.out.two
          have q1 : 1 ≤ t.length := Lx.tok_pos htk2
          clear htk2
          have hcap : n + 1 ≤ maxLen := by unfold maxLen; omega
          have hc1 := cells_new (w4.alloc (.cells (tokCells (Lx.tokAt s.data.toList a k t m)).toArray 124)) (tokCells (Lx.tokAt s.data.toList a k t m)) 124 (k := w4.heap.size + 1) (by simp)
          have hc1' := hid hc1
          clear hc1
          go_wp2_with (first | (at_builtin; refine wpList_append_own _ rfl _ _ 73 rfl (b + 1) 124 i0 (.agg #[.int .i64 0, .string ⟨#[]⟩, .int .i64 0, .int .i64 0, .int .i64 0]) 5 48 Tryz.underlying73 hinf hz0 hz1 hz2 rfl (by decide) _ _ _ rfl ((hown4.out.alloc _).alloc _) ⟨w4.heap.size + 1, 0, none⟩ 1 1 (tokCells (Lx.tokAt s.data.toList a k t m)) rfl rfl hc1'.out (tokCells_one _) hcap (by omega) (by simp; omega) ?_; intro v' w5 hown5 hgrow _))
          go_roundg gk'
          case measure => omega
          case rel =>
            have hown4a := (hown4.out.alloc (.cells (tokCells (Lx.tokAt s.data.toList a k t m)).toArray 124)).alloc (.cells (tokCells (Lx.tokAt s.data.toList a k t m)).toArray 124)
            refine ⟨a + t.length, n + 1, ts ++ [Lx.tokAt s.data.toList a k t m], hle5, by omega, by rw [List.length_append, ← hnl'.out]; rfl, htk5.out, ?_, ?_, ?_, ?_⟩
            · exact Blk.grown ((Blk.alloc hr5 _).alloc _) hgrow (own_ne hown4a (by omega))
            · exact Blk.grown ((Blk.alloc hB4.out _).alloc _) hgrow (own_ne hown4a (by omega))
            · rw [toksCells_snoc]; exact hown5
            · exact ((hQ4.out.alloc hQ4.out.size _).alloc (by simp; omega) _).grown hgrow (by simp; omega) (fun k hk => by have := (hown4a.lt k hk).1; omega)

end Go.Proofs.YteddkgpnklfppaaGreatDoor

namespace Go.Proofs.YteddkgpnklfppaaGreatDoor
open Go.RowKit Go.Sort

theorem toksCells_get {ts : List Lx.Tok} {i : Nat} (hi : i < ts.length) : ∀ f, f < 5 → (toksCells ts)[i * 5 + f]? = (tokCells ts[i])[f]? := by
  intro f hf
  induction ts generalizing i with
  | nil => simp at hi
  | cons t ts ih =>
    have e : toksCells (t :: ts) = tokCells t ++ toksCells ts := rfl
    rw [e]
    cases i with
    | zero => rw [List.getElem?_append_left (by simp [tokCells]; omega)]; simp
    | succ i =>
      rw [List.getElem?_append_right (by simp [tokCells]; omega)]
      have e2 : (i + 1) * 5 + f - (tokCells t).length = i * 5 + f := by simp [tokCells]; omega
      rw [e2, ih (by simpa using hi)]
      simp

/-- a row of tokens: each cell, where it lies -/
structure TokRow (w : World) (g off cap : Nat) (ts : List Lx.Tok) : Prop where
  cap : ts.length ≤ cap
  lt : g < w.heap.size
  cell : ∀ (i : Nat) (hi : i < ts.length) (f : Nat) (u : Value), (tokCells ts[i])[f]? = some u → w.cell? ⟨g, off + i * 5 + f, none⟩ = some u
theorem tokRow_of {w : World} {v : Value} {ts : List Lx.Tok} (h : Row w v ts.length 5 (toksCells ts)) :
    (v = .slice none 0 0 ∧ ts = []) ∨ ∃ g off cap, v = .slice (some ⟨g, off, none⟩) ts.length cap ∧ TokRow w g off cap ts := by
  rcases h.2 with ⟨hv, hn⟩ | ⟨g, off, cap, hv, hn, hg, hc⟩
  · exact .inl ⟨hv, List.eq_nil_of_length_eq_zero hn⟩
  · refine .inr ⟨g, off, cap, hv, hn, hg, fun i hi f u hu => ?_⟩
    have hf : f < 5 := by
      rcases Nat.lt_or_ge f 5 with h5 | h5
      · exact h5
      · rw [List.getElem?_eq_none (by simpa [tokCells] using h5)] at hu; cases hu
    rw [show off + i * 5 + f = off + (i * 5 + f) by omega]
    exact hc _ _ (by rw [toksCells_get hi f hf]; exact hu)

/-- a token's cells, each by its own name -/
structure TokAt (w : World) (g o : Nat) (k : Int) (x : ByteArray) (n l c : Int) : Prop where
  c0 : w.cell? ⟨g, o, none⟩ = some (.int .i64 k)
  c1 : w.cell? ⟨g, o + 1, none⟩ = some (.string x)
  c2 : w.cell? ⟨g, o + 2, none⟩ = some (.int .i64 n)
  c3 : w.cell? ⟨g, o + 3, none⟩ = some (.int .i64 l)
  c4 : w.cell? ⟨g, o + 3 + 1, none⟩ = some (.int .i64 c)
theorem TokRow.at {w : World} {g off cap : Nat} {ts : List Lx.Tok} (h : TokRow w g off cap ts) {i : Nat} (hi : i < ts.length) :
    TokAt w g (off + i * 5) ts[i].kind ⟨ts[i].text.toArray⟩ ts[i].n ts[i].line ts[i].col :=
  ⟨h.cell i hi 0 _ rfl, h.cell i hi 1 _ rfl, h.cell i hi 2 _ rfl, h.cell i hi 3 _ rfl, h.cell i hi 4 _ rfl⟩
theorem tokRow_ext {w w' : World} {g off cap : Nat} {ts : List Lx.Tok} (h : TokRow w g off cap ts) (hb : Below w.heap.size w w') : TokRow w' g off cap ts :=
  ⟨h.cap, Nat.lt_of_lt_of_le h.lt hb.size, fun i hi f u hu => by rw [hb.cell (by exact h.lt)]; exact h.cell i hi f u hu⟩
theorem TokRow.touch {w w' : World} {g off cap b : Nat} {ts : List Lx.Tok} (h : TokRow w g off cap ts) (hb : Touch b w w') (hn : g ≠ b) : TokRow w' g off cap ts :=
  ⟨h.cap, Nat.lt_of_lt_of_le h.lt hb.size, fun i hi f u hu => ((tcell hb).1 g _ h.lt hn).trans (h.cell i hi f u hu)⟩

end Go.Proofs.YteddkgpnklfppaaGreatDoor

namespace Go.Proofs.YteddkgpnklfppaaGreatDoor.Po
open Lx

structure St where
  at_ : Nat
  f : Fault

structure Who where
  any : Bool
  name : ByteArray
  n : Int
  line : Int
  col : Int
structure Box where
  x0 : Int
  y0 : Int
  x1 : Int
  y1 : Int
structure Decl where
  kind : Int
  name : ByteArray
  n : Int
  boxes : List Box
  role : Who
  lo : Int
  hi : Int
  label : Who
  place : Who
  zoom : Int
  line : Int
  col : Int

def zeroTok : Tok := ⟨0, [], 0, 0, 0⟩
def zeroWho : Who := ⟨false, ⟨#[]⟩, 0, 0, 0⟩
def txt (l : Bytes) : ByteArray := ⟨l.toArray⟩

section
variable (T : List Tok) (e : Nat × Nat)
def place (st : St) : Nat × Nat := match T[st.at_]? with | some t => (t.line, t.col) | none => e
def wrong (st : St) : St := if st.f.1 = 0 then { st with f := mkFault 31 (place T e st) } else st
def is (x : Bytes) (st : St) : Bool := st.f.1 == 0 && match T[st.at_]? with | some t => t.text == x | none => false
def kindIs (k : Nat) (st : St) : Bool := st.f.1 == 0 && match T[st.at_]? with | some t => t.kind == k | none => false
def on (st : St) : St := { st with at_ := st.at_ + 1 }
def took (x : Bytes) (st : St) : St := if is T x st then on st else st
def want (x : Bytes) (st : St) : St := if is T x st then on st else wrong T e st
def takeSt (k : Nat) (st : St) : St := if kindIs T k st then on st else wrong T e st
def takeTok (k : Nat) (st : St) : Tok := if kindIs T k st then (T[st.at_]?).getD zeroTok else zeroTok

def wAny : Bytes := [97, 110, 121]
def wAll : Bytes := [97, 108, 108]
def whoV (st : St) : Who :=
  if is T wAny st then ⟨true, ⟨#[]⟩, 0, (place T e st).1, (place T e st).2⟩
  else if kindIs T 1 st then ⟨false, txt (takeTok T 1 st).text, 0, (place T e st).1, (place T e st).2⟩
  else ⟨false, ⟨#[]⟩, (takeTok T 3 st).n, (place T e st).1, (place T e st).2⟩
def whoS (st : St) : St := if is T wAny st then on st else if kindIs T 1 st then takeSt T e 1 st else takeSt T e 3 st
def whereV (st : St) : Who :=
  if is T wAll st then ⟨true, ⟨#[]⟩, 0, (place T e st).1, (place T e st).2⟩
  else ⟨false, txt (takeTok T 1 st).text, 0, (place T e st).1, (place T e st).2⟩
def whereS (st : St) : St := if is T wAll st then on st else takeSt T e 1 st
def loV (st : St) : Nat := if is T wAny st then 0 else (takeTok T 3 st).n
def hiV (st : St) : Nat :=
  if is T wAny st then 7
  else if is T [46, 46] (takeSt T e 3 st) then (takeTok T 3 (on (takeSt T e 3 st))).n else (takeTok T 3 st).n
def tiersS (st : St) : St :=
  if is T wAny st then on st
  else if is T [46, 46] (takeSt T e 3 st) then takeSt T e 3 (on (takeSt T e 3 st)) else takeSt T e 3 st
def boxV (st : St) : Box :=
  let s1 := takeSt T e 3 st
  let s2 := takeSt T e 3 s1
  let s3 := takeSt T e 3 s2
  ⟨(takeTok T 3 st).n, (takeTok T 3 s1).n, (takeTok T 3 s2).n, (takeTok T 3 s3).n⟩
def boxS (st : St) : St := takeSt T e 3 (takeSt T e 3 (takeSt T e 3 (takeSt T e 3 st)))
def namedV (D : Decl) (st : St) : Decl := { D with name := txt (takeTok T 1 st).text, n := (takeTok T 3 (want T e [61] (takeSt T e 1 st))).n }
def namedS (st : St) : St := takeSt T e 3 (want T e [61] (takeSt T e 1 st))
def wRole : Bytes := [114, 111, 108, 101]
def wTier : Bytes := [116, 105, 101, 114]
def wLabel : Bytes := [108, 97, 98, 101, 108]
def wIn : Bytes := [105, 110]
def wZoom : Bytes := [122, 111, 111, 109]
def wRegion : Bytes := [114, 101, 103, 105, 111, 110]
def wAllow : Bytes := [97, 108, 108, 111, 119]
def wCap : Bytes := [99, 97, 112]
def wCloak : Bytes := [99, 108, 111, 97, 107]
def cloakV (D : Decl) (st : St) : Decl := { D with role := whoV T e (want T e wRole st) }
def cloakS (st : St) : St := whoS T e (want T e wRole st)
def rs1 (st : St) : St := want T e wTier (cloakS T e st)
def rs2 (st : St) : St := want T e wLabel (tiersS T e (rs1 T e st))
def rs3 (st : St) : St := want T e wIn (whoS T e (rs2 T e st))
def rs4 (st : St) : St := want T e wZoom (whereS T e (rs3 T e st))
def ruleV (D : Decl) (st : St) : Decl := { D with role := whoV T e (want T e wRole st), lo := loV T (rs1 T e st), hi := hiV T e (rs1 T e st), label := whoV T e (rs2 T e st), place := whereV T e (rs3 T e st), zoom := (takeTok T 3 (rs4 T e st)).n }
def ruleS (st : St) : St := takeSt T e 3 (rs4 T e st)
def moreV : Nat → St → List Box
  | 0, _ => []
  | f + 1, st => if is T [43] st then boxV T e (on st) :: moreV f (boxS T e (on st)) else []
def moreS : Nat → St → St
  | 0, st => st
  | f + 1, st => if is T [43] st then moreS f (boxS T e (on st)) else st
def boxesV (st : St) : List Box := boxV T e st :: moreV T e (T.length + 1) (boxS T e st)
def boxesS (st : St) : St := moreS T e (T.length + 1) (boxS T e st)
def zeroDecl : Decl := ⟨0, ⟨#[]⟩, 0, [], zeroWho, 0, 0, zeroWho, zeroWho, 0, 0, 0⟩
def regionV (D : Decl) (st : St) : Decl := { D with name := txt (takeTok T 1 st).text, boxes := boxesV T e (want T e [61] (takeSt T e 1 st)) }
def regionS (st : St) : St := boxesS T e (want T e [61] (takeSt T e 1 st))
/-- a declaration's beginning: its kind, its place -/
def declAt (st : St) (k : Int) : Decl := { zeroDecl with kind := k, line := (place T e st).1, col := (place T e st).2 }
def declV (st : St) : Decl :=
  if is T wRole st then namedV T e (declAt T e st 1) (on st)
  else if is T wLabel st then namedV T e (declAt T e st 2) (on st)
  else if is T wRegion st then regionV T e (declAt T e st 3) (on st)
  else if is T wAllow st then ruleV T e (declAt T e st 4) (on st)
  else if is T wCap st then ruleV T e (declAt T e st 5) (on st)
  else if is T wCloak st then cloakV T e (declAt T e st 6) (on st)
  else ruleV T e (declAt T e st 0) (wrong T e st)
def declS (st : St) : St := want T e [59] (
  if is T wRole st then namedS T e (on st)
  else if is T wLabel st then namedS T e (on st)
  else if is T wRegion st then regionS T e (on st)
  else if is T wAllow st then ruleS T e (on st)
  else if is T wCap st then ruleS T e (on st)
  else if is T wCloak st then cloakS T e (on st)
  else ruleS T e (wrong T e st))
/-- the declarations of all tokens, as long as there is no fault -/
def parseV : Nat → St → List Decl
  | 0, _ => []
  | f + 1, st => if st.at_ < T.length ∧ st.f.1 = 0 then declV T e st :: parseV f (declS T e st) else []
def parseS : Nat → St → St
  | 0, st => st
  | f + 1, st => if st.at_ < T.length ∧ st.f.1 = 0 then parseS f (declS T e st) else st
end

/-- behind so many numbers -/
def nth (T : List Tok) (e : Nat × Nat) (st : St) : Nat → St
  | 0 => st
  | k + 1 => takeSt T e 3 (nth T e st k)
def num (T : List Tok) (e : Nat × Nat) (st : St) (k : Nat) : Nat := (takeTok T 3 (nth T e st k)).n
def upto (T : List Tok) (e : Nat × Nat) (st : St) (k j : Nat) : Nat := if j < k then num T e st j else 0
theorem takeSt_le (T : List Tok) (e : Nat × Nat) (k : Nat) (st : St) : st.at_ ≤ (takeSt T e k st).at_ := by
  unfold takeSt
  split
  · show st.at_ ≤ st.at_ + 1; omega
  · unfold wrong
    split
    · exact Nat.le_refl _
    · exact Nat.le_refl _
theorem boxS_le (T : List Tok) (e : Nat × Nat) (st : St) : st.at_ ≤ (boxS T e st).at_ := by
  unfold boxS
  have h1 := takeSt_le T e 3 st
  have h2 := takeSt_le T e 3 (takeSt T e 3 st)
  have h3 := takeSt_le T e 3 (takeSt T e 3 (takeSt T e 3 st))
  have h4 := takeSt_le T e 3 (takeSt T e 3 (takeSt T e 3 (takeSt T e 3 st)))
  omega
theorem lt_of_is {T : List Tok} {x : Bytes} {st : St} (h : is T x st = true) : st.at_ < T.length := by
  rcases Nat.lt_or_ge st.at_ T.length with h1 | h1
  · exact h1
  · unfold is at h; rw [List.getElem?_eq_none h1] at h; simp at h
theorem took_on {T : List Tok} {x : Bytes} {st : St} (h : is T x st = true) : took T x st = on st := by unfold took; rw [if_pos h]
theorem took_not {T : List Tok} {x : Bytes} {st : St} (h : is T x st = false) : took T x st = st := by unfold took; rw [if_neg (by rw [h]; decide)]
theorem want_on {T : List Tok} {e : Nat × Nat} {x : Bytes} {st : St} (h : is T x st = true) : want T e x st = on st := by unfold want; rw [if_pos h]
theorem want_not {T : List Tok} {e : Nat × Nat} {x : Bytes} {st : St} (h : is T x st = false) : want T e x st = wrong T e st := by unfold want; rw [if_neg (by rw [h]; decide)]
theorem takeSt_on {T : List Tok} {e : Nat × Nat} {k : Nat} {st : St} (h : kindIs T k st = true) : takeSt T e k st = on st := by unfold takeSt; rw [if_pos h]
theorem takeSt_not {T : List Tok} {e : Nat × Nat} {k : Nat} {st : St} (h : kindIs T k st = false) : takeSt T e k st = wrong T e st := by unfold takeSt; rw [if_neg (by rw [h]; decide)]
theorem takeTok_on {T : List Tok} {k : Nat} {st : St} {t : Tok} (h : kindIs T k st = true) (ht : T[st.at_]? = some t) : takeTok T k st = t := by unfold takeTok; rw [if_pos h, ht]; rfl
theorem takeTok_not {T : List Tok} {k : Nat} {st : St} (h : kindIs T k st = false) : takeTok T k st = zeroTok := by unfold takeTok; rw [if_neg (by rw [h]; decide)]
theorem lt_of_kindIs {T : List Tok} {k : Nat} {st : St} (h : kindIs T k st = true) : st.at_ < T.length := by
  rcases Nat.lt_or_ge st.at_ T.length with h1 | h1
  · exact h1
  · unfold kindIs at h; rw [List.getElem?_eq_none h1] at h; simp at h

/-- boxes so far, and what is still to be read -/
structure Boxing (T : List Tok) (e : Nat × Nat) (st0 : St) (f : Nat) (bs : List Box) (st : St) : Prop where
  val : boxesV T e st0 = bs ++ moreV T e f st
  state : boxesS T e st0 = moreS T e f st
  fuel : T.length < f + st.at_
  len : bs.length + f = T.length + 2
theorem Boxing.begin (T : List Tok) (e : Nat × Nat) (st : St) : Boxing T e st (T.length + 1) [boxV T e st] (boxS T e st) := ⟨rfl, rfl, by omega, by simp; omega⟩
theorem Boxing.pos {T : List Tok} {e : Nat × Nat} {st0 st : St} {f : Nat} {bs : List Box} (h : Boxing T e st0 f bs st) (hi : is T [43] st = true) : 0 < f := by
  have h1 := lt_of_is hi
  have := h.fuel
  omega
theorem Boxing.step {T : List Tok} {e : Nat × Nat} {st0 st : St} {f : Nat} {bs : List Box} (h : Boxing T e st0 (f + 1) bs st) (hi : is T [43] st = true) : Boxing T e st0 f (bs ++ [boxV T e (on st)]) (boxS T e (on st)) := by
  refine ⟨?_, ?_, ?_, ?_⟩
  · rw [h.val, moreV, if_pos hi]; simp
  · rw [h.state, moreS, if_pos hi]
  · have h1 := h.fuel
    have h2 := boxS_le T e (on st)
    have h3 : (on st).at_ = st.at_ + 1 := rfl
    omega
  · have := h.len; simp; omega
theorem Boxing.stop {T : List Tok} {e : Nat × Nat} {st0 st : St} {f : Nat} {bs : List Box} (h : Boxing T e st0 f bs st) (hi : is T [43] st = false) : boxesV T e st0 = bs ∧ boxesS T e st0 = st := by
  have h1 := h.val
  have h2 := h.state
  cases f with
  | zero => rw [moreV, List.append_nil] at h1; rw [moreS] at h2; exact ⟨h1, h2⟩
  | succ f => rw [moreV, if_neg (by rw [hi]; decide), List.append_nil] at h1; rw [moreS, if_neg (by rw [hi]; decide)] at h2; exact ⟨h1, h2⟩

end Go.Proofs.YteddkgpnklfppaaGreatDoor.Po
