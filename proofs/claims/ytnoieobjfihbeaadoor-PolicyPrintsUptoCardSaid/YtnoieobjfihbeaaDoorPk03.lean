/-
  Plain laws of the policy's reader: what every step keeps; where faults are. No program.
  Plain laws of the lexer: two texts, a line's end between. No program.
-/
import Derived.Test.YtnoieobjfihbeaaDoorPk02
import Derived.Test.YtnoieobjfihbeaaDoorPk01

namespace Go.Proofs.YtnoieobjfihbeaaDoor.Po
open Lx

section
variable {T : List Tok} {e : Nat × Nat} {Q : St → Prop}
/-- what 'on' and 'wrong' keep -/
structure Keeps (T : List Tok) (e : Nat × Nat) (Q : St → Prop) : Prop where
  on : ∀ a, a.at_ < T.length → Q a → Q (Po.on a)
  wrong : ∀ a, Q a → Q (Po.wrong T e a)
theorem Keeps.want (k : Keeps T e Q) (x : Bytes) {a : St} (h : Q a) : Q (Po.want T e x a) := by
  unfold Po.want; split
  · rename_i hi; exact k.on _ (lt_of_is hi) h
  · exact k.wrong _ h
theorem Keeps.take (k : Keeps T e Q) (n : Nat) {a : St} (h : Q a) : Q (takeSt T e n a) := by
  unfold takeSt; split
  · rename_i hi; exact k.on _ (lt_of_kindIs hi) h
  · exact k.wrong _ h
theorem Keeps.who (k : Keeps T e Q) {a : St} (h : Q a) : Q (whoS T e a) := by
  unfold whoS; split
  · rename_i hi; exact k.on _ (lt_of_is hi) h
  · split
    · exact k.take _ h
    · exact k.take _ h
theorem Keeps.where_ (k : Keeps T e Q) {a : St} (h : Q a) : Q (whereS T e a) := by
  unfold whereS; split
  · rename_i hi; exact k.on _ (lt_of_is hi) h
  · exact k.take _ h
theorem Keeps.tiers (k : Keeps T e Q) {a : St} (h : Q a) : Q (tiersS T e a) := by
  unfold tiersS; split
  · rename_i hi; exact k.on _ (lt_of_is hi) h
  · split
    · rename_i hi; exact k.take _ (k.on _ (lt_of_is hi) (k.take _ h))
    · exact k.take _ h
theorem Keeps.box (k : Keeps T e Q) {a : St} (h : Q a) : Q (boxS T e a) := k.take _ (k.take _ (k.take _ (k.take _ h)))
theorem Keeps.more (k : Keeps T e Q) (f : Nat) : ∀ {a : St}, Q a → Q (moreS T e f a) := by
  induction f with
  | zero => intro a h; exact h
  | succ f ih =>
    intro a h
    unfold moreS
    split
    · rename_i hi; exact ih (k.box (k.on _ (lt_of_is hi) h))
    · exact h
theorem Keeps.named (k : Keeps T e Q) {a : St} (h : Q a) : Q (namedS T e a) := k.take _ (k.want _ (k.take _ h))
theorem Keeps.region (k : Keeps T e Q) {a : St} (h : Q a) : Q (regionS T e a) := k.more _ (k.box (k.want _ (k.take _ h)))
theorem Keeps.cloak (k : Keeps T e Q) {a : St} (h : Q a) : Q (cloakS T e a) := k.who (k.want _ h)
theorem Keeps.rule (k : Keeps T e Q) {a : St} (h : Q a) : Q (ruleS T e a) := by
  unfold ruleS rs4 rs3 rs2 rs1
  exact k.take _ (k.want _ (k.where_ (k.want _ (k.who (k.want _ (k.tiers (k.want _ (k.cloak h))))))))
theorem Keeps.decl (k : Keeps T e Q) {a : St} (h : Q a) : Q (declS T e a) := by
  unfold declS
  refine k.want _ ?_
  have ho : ∀ {x : Bytes}, is T x a = true → Q (Po.on a) := fun hi => k.on _ (lt_of_is hi) h
  split
  · rename_i hi; exact k.named (ho hi)
  · split
    · rename_i hi; exact k.named (ho hi)
    · split
      · rename_i hi; exact k.region (ho hi)
      · split
        · rename_i hi; exact k.rule (ho hi)
        · split
          · rename_i hi; exact k.rule (ho hi)
          · split
            · rename_i hi; exact k.cloak (ho hi)
            · exact k.rule (k.wrong _ h)
theorem Keeps.parse (k : Keeps T e Q) (f : Nat) : ∀ {a : St}, Q a → Q (parseS T e f a) := by
  induction f with
  | zero => intro a h; exact h
  | succ f ih =>
    intro a h
    unfold parseS
    split
    · exact ih (k.decl h)
    · exact h
end

/-- the lexer's errors are none of the reader's -/
theorem tok_code {l : Bytes} {er : Nat} (h : tok l = .error er) : er ≠ 31 := by
  unfold tok at h
  split at h
  · cases h; decide
  · split at h
    · simp only at h
      split at h
      · cases h; decide
      · cases h
    · split at h
      · simp only at h
        split at h
        · cases h; decide
        · cases h
      · split at h
        · cases h
        · split at h
          · cases h
          · cases h; decide
theorem toks_code (L : Bytes) (f : Nat) : ∀ (i : Nat) (x : Fault), toks L f i = .error x → x.1 ≠ 31 := by
  induction f with
  | zero => intro i x h; simp [toks] at h
  | succ f ih =>
    intro i x h
    simp only [toks] at h
    split at h
    · cases h
    · split at h
      · rename_i er ht
        cases h
        exact tok_code ht
      · rename_i k w n ht
        cases hr : toks L f (i + skipN false (L.drop i) + w.length) with
        | error y =>
          rw [hr] at h
          simp only [Except.map, Except.error.injEq] at h
          subst h
          exact ih _ _ hr
        | ok us => rw [hr] at h; cases h
theorem tokens_code {L : Bytes} {x : Fault} (h : tokens L = .error x) : x.1 ≠ 31 := by
  unfold tokens at h
  split at h
  · cases h; decide
  · exact toks_code L _ _ _ h

/-- a place of a text, or its end -/
def AtPlace (L : Bytes) (l c : Nat) : Prop := ∃ i, i ≤ L.length ∧ posOf (L.take i) = (l, c)
theorem placed_mem {L : Bytes} {a : Nat} {ts : List Tok} (h : Placed L a ts) : ∀ t ∈ ts, AtPlace L t.line t.col := by
  induction h with
  | nil => intro t ht; simp at ht
  | cons h1 h2 h3 h4 h5 h6 ih =>
    intro t ht
    rcases List.mem_cons.1 ht with rfl | ht
    · exact ⟨_, by omega, h4⟩
    · exact ih t ht
/-- a fault of the reader stands at a place of the text -/
theorem parse_fault {L : Bytes} {er l c : Nat} (h : parse L = .error (er, l, c)) (h31 : er = 31) : AtPlace L l c := by
  subst h31
  unfold parse at h
  cases hk : tokens L with
  | error f =>
    rw [hk] at h
    simp only [Except.error.injEq] at h
    subst h
    exact absurd rfl (tokens_code hk)
  | ok T =>
    rw [hk] at h
    simp only at h
    have hpl := placed_mem (tokens_placed hk)
    have k : Keeps T (posOf L) fun st => st.f.1 = 0 ∨ AtPlace L st.f.2.1 st.f.2.2 := by
      refine ⟨fun a _ h => h, fun a h => ?_⟩
      unfold wrong
      split
      · refine .inr ?_
        unfold place mkFault
        cases ht : T[a.at_]? with
        | none => exact ⟨L.length, Nat.le_refl _, by rw [List.take_length]⟩
        | some t => exact hpl t (List.mem_of_getElem? ht)
      · exact h
    split at h
    · cases h
    · rename_i hne
      have := k.parse (T.length + 1) (a := st0) (.inl rfl)
      simp only [Except.error.injEq] at h
      rw [h] at this hne
      rcases this with h0 | h0
      · exact absurd h0 hne
      · exact h0

end Go.Proofs.YtnoieobjfihbeaaDoor.Po

namespace Go.Proofs.YtnoieobjfihbeaaDoor.Lx

theorem toks_fuel (L : Bytes) : ∀ (f g i : Nat), L.length < f + i → L.length < g + i → toks L f i = toks L g i := by
  intro f
  induction f with
  | zero =>
    intro g i h1 h2
    have hl : L.length ≤ i + skipN false (L.drop i) := by omega
    cases g with
    | zero => rfl
    | succ g => simp only [toks]; rw [if_pos hl]
  | succ f ih =>
    intro g i h1 h2
    cases g with
    | zero =>
      have hl : L.length ≤ i + skipN false (L.drop i) := by omega
      simp only [toks]; rw [if_pos hl]
    | succ g =>
      simp only [toks]
      by_cases hl : L.length ≤ i + skipN false (L.drop i)
      · rw [if_pos hl, if_pos hl]
      · rw [if_neg hl, if_neg hl]
        cases ht : tok (L.drop (i + skipN false (L.drop i))) with
        | error er => rfl
        | ok x =>
          obtain ⟨k, w, n⟩ := x
          have := tok_pos ht
          simp only
          rw [ih g (i + skipN false (L.drop i) + w.length) (by omega) (by omega)]

/-- a token moved on by so many lines -/
def down (k : Nat) (t : Tok) : Tok := { t with line := t.line + k }
theorem fold_down (k : Nat) (l : Bytes) : ∀ p : Nat × Nat, l.foldl adv (p.1 + k, p.2) = ((l.foldl adv p).1 + k, (l.foldl adv p).2) := by
  induction l with
  | nil => intro p; rfl
  | cons c l ih =>
    intro p
    rw [List.foldl_cons, List.foldl_cons, ← ih]
    congr 1
    unfold adv
    split
    · show (p.1 + k + 1, 1) = (p.1 + 1 + k, 1); rw [Nat.add_right_comm]
    · rfl
theorem posOf_down (x y : Bytes) : posOf (x ++ 10 :: y) = ((posOf y).1 + (posOf x).1, (posOf y).2) := by
  unfold posOf
  rw [List.foldl_append, List.foldl_cons]
  have h : adv (x.foldl adv (1, 1)) 10 = (((1, 1) : Nat × Nat).1 + (x.foldl adv (1, 1)).1, ((1, 1) : Nat × Nat).2) := by
    unfold adv
    rw [if_pos rfl, Nat.add_comm]
  rw [h, fold_down]

theorem drop_snd (x y : Bytes) (j : Nat) : (x ++ 10 :: y).drop (x.length + 1 + j) = y.drop j := by
  rw [List.drop_append, List.drop_eq_nil_of_le (by omega), List.nil_append, show x.length + 1 + j - x.length = j + 1 by omega, List.drop_succ_cons]
theorem take_snd (x y : Bytes) (j : Nat) : (x ++ 10 :: y).take (x.length + 1 + j) = x ++ 10 :: y.take j := by
  rw [List.take_append, List.take_of_length_le (by omega), show x.length + 1 + j - x.length = j + 1 by omega, List.take_succ_cons]
/-- the second text's tokens -/
theorem toks_snd (x y : Bytes) (f : Nat) : ∀ (j : Nat) (ts : List Tok), toks y f j = .ok ts → toks (x ++ 10 :: y) f (x.length + 1 + j) = .ok (ts.map (down (posOf x).1)) := by
  have hlen : (x ++ 10 :: y).length = x.length + 1 + y.length := by simp; omega
  induction f with
  | zero => intro j ts h; simp only [toks, Except.ok.injEq] at h ⊢; subst h; rfl
  | succ f ih =>
    intro j ts h
    simp only [toks] at h ⊢
    rw [drop_snd]
    by_cases hl : y.length ≤ j + skipN false (y.drop j)
    · rw [if_pos hl] at h
      rw [if_pos (by omega)]
      cases h
      rfl
    · rw [if_neg hl] at h
      rw [if_neg (by omega), show x.length + 1 + j + skipN false (y.drop j) = x.length + 1 + (j + skipN false (y.drop j)) by omega, drop_snd]
      cases ht : tok (y.drop (j + skipN false (y.drop j))) with
      | error er => rw [ht] at h; cases h
      | ok z =>
        obtain ⟨k, w, n⟩ := z
        rw [ht] at h
        simp only at h ⊢
        cases hr : toks y f (j + skipN false (y.drop j) + w.length) with
        | error er => rw [hr] at h; cases h
        | ok us =>
          rw [hr] at h
          simp only [Except.map, Except.ok.injEq] at h
          subst h
          rw [show x.length + 1 + (j + skipN false (y.drop j)) + w.length = x.length + 1 + (j + skipN false (y.drop j) + w.length) by omega, ih _ us hr, take_snd, posOf_down]
          simp only [Except.map, List.map_cons, down]

theorem skipN_join (y : Bytes) : ∀ (b : Bool) (x : Bytes), skipN b (x ++ 10 :: y) = if skipN b x < x.length then skipN b x else x.length + 1 + skipN false y
  | true, [] => by show skipN true (10 :: y) = _; simp [skipN]
  | false, [] => by show skipN false (10 :: y) = _; simp [skipN, blank]
  | true, c :: x => by
    have h := skipN_join y (c != 10) x
    have e1 : skipN true (c :: (x ++ 10 :: y)) = 1 + skipN (c != 10) (x ++ 10 :: y) := rfl
    have e2 : skipN true (c :: x) = 1 + skipN (c != 10) x := rfl
    rw [List.cons_append, e1, e2, List.length_cons, h]
    by_cases hl : skipN (c != 10) x < x.length
    · rw [if_pos hl, if_pos (by omega)]
    · rw [if_neg hl, if_neg (by omega)]; omega
  | false, c :: x => by
    have h1 := skipN_join y true x
    have h2 := skipN_join y false x
    have e1 : ∀ z, skipN false (c :: z) = if c == 35 then 1 + skipN true z else if blank c then 1 + skipN false z else 0 := fun z => rfl
    rw [List.cons_append, e1, e1, List.length_cons, h1, h2]
    cases c == 35 with
    | true =>
      simp only [if_true]
      by_cases hl : skipN true x < x.length
      · rw [if_pos hl, if_pos (by omega)]
      · rw [if_neg hl, if_neg (by omega)]; omega
    | false =>
      simp only [if_false, Bool.false_eq_true]
      cases blank c with
      | true =>
        simp only [if_true]
        by_cases hl : skipN false x < x.length
        · rw [if_pos hl, if_pos (by omega)]
        · rw [if_neg hl, if_neg (by omega)]; omega
      | false => simp
theorem takeWhile_join {p : UInt8 → Bool} (hp : p 10 = false) (y : Bytes) : ∀ x : Bytes, (x ++ 10 :: y).takeWhile p = x.takeWhile p
  | [] => by simp [hp]
  | c :: x => by
    have h := takeWhile_join hp y x
    rw [List.cons_append, List.takeWhile_cons, List.takeWhile_cons, h]
theorem tok_join {x y : Bytes} {k n : Nat} {w : Bytes} (h : tok x = .ok (k, w, n)) : tok (x ++ 10 :: y) = .ok (k, w, n) := by
  cases x with
  | nil => simp [tok] at h
  | cons c x =>
    rw [List.cons_append, tok_cons]
    rw [tok_cons] at h
    have h1 := takeWhile_join (p := inner) (by decide) y (c :: x)
    have h2 := takeWhile_join (p := digit) (by decide) y (c :: x)
    rw [List.cons_append] at h1 h2
    rw [h1, h2]
    cases x with
    | nil =>
      simp only [List.nil_append, List.head?_cons, List.head?_nil, reduceCtorEq, and_false, if_false] at h ⊢
      split at h
      · rename_i hc; rw [if_pos hc]; exact h
      · rename_i hc
        rw [if_neg hc]
        split at h
        · rename_i hd; rw [if_pos hd]; exact h
        · rename_i hd
          rw [if_neg hd]
          split at h
          · rename_i hm; rw [if_pos hm]; exact h
          · cases h
    | cons d x => simpa using h

/-- the first text's tokens, then the rest -/
theorem toks_fst (x y : Bytes) (us : List Tok) (g : Nat) (hg : toks (x ++ 10 :: y) g (x.length + 1) = .ok us) (hgf : y.length < g) (f : Nat) : ∀ (i : Nat) (ts : List Tok), i ≤ x.length → x.length < f + i → toks x f i = .ok ts →
    toks (x ++ 10 :: y) (f + g) i = .ok (ts ++ us) := by
  have hlen : (x ++ 10 :: y).length = x.length + 1 + y.length := by simp; omega
  induction f with
  | zero => intro i ts hi hf h; omega
  | succ f ih =>
    intro i ts hi hf h
    have hdr : ∀ a, a ≤ x.length → (x ++ 10 :: y).drop a = x.drop a ++ 10 :: y := fun a ha => by rw [List.drop_append, show a - x.length = 0 by omega, List.drop_zero]
    have hsk := skipN_join y false (x.drop i)
    rw [List.length_drop] at hsk
    simp only [toks] at h
    by_cases hl : x.length ≤ i + skipN false (x.drop i)
    · rw [if_pos hl] at h
      cases h
      rw [if_neg (by omega)] at hsk
      rw [List.nil_append, ← hg]
      have hg2 : 0 < g := by omega
      obtain ⟨g', rfl⟩ : ∃ g', g = g' + 1 := ⟨g - 1, by omega⟩
      rw [show f + 1 + (g' + 1) = (f + g' + 1) + 1 by omega]
      have hFg : g' ≤ f + g' + 1 := by omega
      generalize f + g' + 1 = F at hFg
      have hd2 := drop_snd x y 0
      rw [Nat.add_zero, List.drop_zero] at hd2
      simp only [toks]
      rw [hdr i hi, hsk, hd2]
      have e1 : i + (x.length - i + 1 + skipN false y) = x.length + 1 + skipN false y := by omega
      rw [e1]
      by_cases hl2 : (x ++ 10 :: y).length ≤ x.length + 1 + skipN false y
      · rw [if_pos hl2, if_pos hl2]
      · rw [if_neg hl2, if_neg hl2]
        cases ht : tok ((x ++ 10 :: y).drop (x.length + 1 + skipN false y)) with
        | error er => rfl
        | ok z =>
          obtain ⟨k, w, n⟩ := z
          have := tok_pos ht
          simp only
          rw [toks_fuel (x ++ 10 :: y) F g' (x.length + 1 + skipN false y + w.length) (by omega) (by omega)]
    · rw [if_neg hl] at h
      rw [if_pos (by omega)] at hsk
      rw [show f + 1 + g = (f + g) + 1 by omega]
      simp only [toks]
      rw [hdr i hi, hsk, if_neg (by omega), hdr _ (by omega)]
      cases ht : tok (x.drop (i + skipN false (x.drop i))) with
      | error er => rw [ht] at h; cases h
      | ok z =>
        obtain ⟨k, w, n⟩ := z
        rw [ht] at h
        rw [tok_join ht]
        have hp := tok_pos ht
        have hle := tok_le ht
        rw [List.length_drop] at hle
        simp only at h ⊢
        cases hr : toks x f (i + skipN false (x.drop i) + w.length) with
        | error er => rw [hr] at h; cases h
        | ok vs =>
          rw [hr] at h
          simp only [Except.map, Except.ok.injEq] at h
          subst h
          rw [ih _ vs (by omega) (by omega) hr]
          have htk : (x ++ 10 :: y).take (i + skipN false (x.drop i)) = x.take (i + skipN false (x.drop i)) := by rw [List.take_append, show i + skipN false (x.drop i) - x.length = 0 by omega, List.take_zero, List.append_nil]
          rw [htk]
          rfl
theorem tokens_join {x y : Bytes} {ts us : List Tok} (hx : tokens x = .ok ts) (hy : tokens y = .ok us) (hl : x.length + y.length ≤ 511) : tokens (x ++ 10 :: y) = .ok (ts ++ us.map (down (posOf x).1)) := by
  have hlen : (x ++ 10 :: y).length = x.length + 1 + y.length := by simp; omega
  unfold tokens at *
  rw [if_neg (by omega)] at hx hy
  rw [if_neg (by omega)]
  have h2 := toks_snd x y (y.length + 1) 0 us hy
  rw [Nat.add_zero] at h2
  have h1 := toks_fst x y _ (y.length + 1) h2 (by omega) (x.length + 1) 0 ts (Nat.zero_le _) (by omega) hx
  rw [toks_fuel _ ((x ++ 10 :: y).length + 1) (x.length + 1 + (y.length + 1)) 0 (by omega) (by omega)]
  exact h1

end Go.Proofs.YtnoieobjfihbeaaDoor.Lx
