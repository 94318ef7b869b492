/- Plain laws of the lexer, more: what is lexed again; places; names. No program. -/
import Derived.Test.YtoegepgdfnokdaaLexPlain
namespace Go.Proofs.Ytoegepgdfnokdaa.Lx

/-! ### without places -/
abbrev T3 := Nat × Bytes × Nat
def strip (t : Tok) : T3 := (t.kind, t.text, t.n)
def lexL : Nat → Bytes → Except Nat (List T3)
  | 0, _ => .ok []
  | f + 1, l =>
    if l.length ≤ skipN false l then .ok []
    else match tok (l.drop (skipN false l)) with
      | .error e => .error e
      | .ok (k, t, n) => (lexL f (l.drop (skipN false l + t.length))).map ((k, t, n) :: ·)

theorem lexL_toks (L : Bytes) : ∀ (f i : Nat), lexL f (L.drop i) = match toks L f i with | .error (e, _, _) => .error e | .ok ts => .ok (ts.map strip) := by
  intro f
  induction f with
  | zero => intro i; rfl
  | succ f ih =>
    intro i
    simp only [lexL, toks]
    have e1 : ((L.drop i).length ≤ skipN false (L.drop i)) ↔ (L.length ≤ i + skipN false (L.drop i)) := by rw [List.length_drop]; omega
    by_cases h : L.length ≤ i + skipN false (L.drop i)
    · rw [if_pos h, if_pos (e1.2 h)]; rfl
    · rw [if_neg h, if_neg (fun x => h (e1.1 x)), List.drop_drop]
      cases ht : tok (L.drop (i + skipN false (L.drop i))) with
      | error e => rfl
      | ok x =>
        obtain ⟨k, t, n⟩ := x
        simp only
        rw [List.drop_drop, ← Nat.add_assoc, ih]
        cases hr : toks L f (i + skipN false (L.drop i) + t.length) with
        | error x => rfl
        | ok us => rfl

/-- a token that is read as it is, whatever stands behind that is no byte of a name -/
def Plain (t : T3) : Prop := 0 < t.2.1.length ∧ ∀ rest, hdIs inner rest = false → tok (t.2.1 ++ rest) = .ok t ∧ skipN false (t.2.1 ++ rest) = 0

theorem takeWhile_app {p : UInt8 → Bool} {l rest : Bytes} (h : l.all p = true) (hr : hdIs p rest = false) : (l ++ rest).takeWhile p = l := by
  induction l with
  | nil =>
    cases rest with
    | nil => rfl
    | cons c r => simp only [hdIs] at hr; simp [hr]
  | cons c l ih =>
    simp only [List.all_cons, Bool.and_eq_true] at h
    rw [List.cons_append, List.takeWhile_cons_of_pos h.1, ih h.2]
theorem all_takeWhile (p : UInt8 → Bool) (l : Bytes) : (l.takeWhile p).all p = true := by
  induction l with
  | nil => rfl
  | cons c l ih =>
    by_cases h : p c = true
    · rw [List.takeWhile_cons_of_pos h]; simp [h, ih]
    · rw [List.takeWhile_cons_of_neg h]; rfl
theorem not_skip_letter {c : UInt8} (h : letter c = true) : (c == 35) = false ∧ blank c = false := by
  unfold letter at h
  simp only [Bool.and_eq_true, decide_eq_true_eq] at h
  have h1 : 97 ≤ c.toNat := h.1
  constructor
  · rw [beq_eq_false_iff_ne]; intro e; subst e; exact absurd h1 (by decide)
  · unfold blank; rw [Bool.or_eq_false_iff, beq_eq_false_iff_ne, beq_eq_false_iff_ne]
    exact ⟨fun e => by subst e; exact absurd h1 (by decide), fun e => by subst e; exact absurd h1 (by decide)⟩
theorem not_skip_digit {c : UInt8} (h : digit c = true) : (c == 35) = false ∧ blank c = false := by
  unfold digit at h
  simp only [Bool.and_eq_true, decide_eq_true_eq] at h
  have h1 : 48 ≤ c.toNat := h.1
  constructor
  · rw [beq_eq_false_iff_ne]; intro e; subst e; exact absurd h1 (by decide)
  · unfold blank; rw [Bool.or_eq_false_iff, beq_eq_false_iff_ne, beq_eq_false_iff_ne]
    exact ⟨fun e => by subst e; exact absurd h1 (by decide), fun e => by subst e; exact absurd h1 (by decide)⟩
theorem skipN_head {c : UInt8} {l : Bytes} (h : (c == 35) = false ∧ blank c = false) : skipN false (c :: l) = 0 := by simp [skipN, h.1, h.2]
theorem hd_digit {l : Bytes} (h : hdIs inner l = false) : hdIs digit l = false := by
  cases l with
  | nil => rfl
  | cons c l =>
    simp only [hdIs, inner, Bool.or_eq_false_iff] at h ⊢
    exact h.1.2
theorem tok_cons (c : UInt8) (l : Bytes) : tok (c :: l) = 
    if letter c then
      if 16 < ((c :: l).takeWhile inner).length then .error 2 else .ok (if isWord ((c :: l).takeWhile inner) then 2 else 1, (c :: l).takeWhile inner, 0)
    else if digit c then
      match number ((c :: l).takeWhile digit) with
      | none => .error 10
      | some n => .ok (3, (c :: l).takeWhile digit, n)
    else if c = 61 ∨ c = 43 ∨ c = 59 then .ok (4, [c], 0)
    else if c = 46 ∧ l.head? = some 46 then .ok (4, [46, 46], 0)
    else .error 30 := rfl

theorem plain_of_tok {l : Bytes} {k n : Nat} {t : Bytes} (h : tok l = .ok (k, t, n)) : Plain (k, t, n) := by
  refine ⟨tok_pos h, ?_⟩
  intro rest hr
  simp only
  cases l with
  | nil => simp [tok] at h
  | cons c l =>
    rw [tok_cons] at h
    by_cases hl : letter c = true
    · rw [if_pos hl] at h
      split at h
      · cases h
      · rename_i h16
        have h2 := Except.ok.inj h
        simp only [Prod.mk.injEq] at h2
        obtain ⟨h3, h4, h5⟩ := h2
        have hall : t.all inner = true := by rw [← h4]; exact all_takeWhile _ _
        have ht : t = c :: (l.takeWhile inner) := by rw [← h4, List.takeWhile_cons_of_pos (by simp [inner, hl])]
        have htw := takeWhile_app hall hr
        have e : t ++ rest = c :: (l.takeWhile inner ++ rest) := by rw [ht]; rfl
        constructor
        · rw [e, tok_cons, if_pos hl, ← e, htw, ← h4, if_neg h16, h3, h5]
        · rw [e]; exact skipN_head (not_skip_letter hl)
    · rw [if_neg hl] at h
      by_cases hg : digit c = true
      · rw [if_pos hg] at h
        split at h
        · cases h
        · rename_i m hm
          have h2 := Except.ok.inj h
          simp only [Prod.mk.injEq] at h2
          obtain ⟨h3, h4, h5⟩ := h2
          have hall : t.all digit = true := by rw [← h4]; exact all_takeWhile _ _
          have ht : t = c :: (l.takeWhile digit) := by rw [← h4, List.takeWhile_cons_of_pos hg]
          have htw := takeWhile_app hall (hd_digit hr)
          have e : t ++ rest = c :: (l.takeWhile digit ++ rest) := by rw [ht]; rfl
          constructor
          · rw [e, tok_cons, if_neg hl, if_pos hg, ← e, htw, ← h4, hm, h3, h5]
          · rw [e]; exact skipN_head (not_skip_digit hg)
      · rw [if_neg hg] at h
        by_cases hm : c = 61 ∨ c = 43 ∨ c = 59
        · rw [if_pos hm] at h
          have h2 := Except.ok.inj h
          simp only [Prod.mk.injEq] at h2
          obtain ⟨h3, h4, h5⟩ := h2
          have e : t ++ rest = c :: rest := by rw [← h4]; rfl
          constructor
          · rw [e, tok_cons, if_neg hl, if_neg hg, if_pos hm, h3, h4, h5]
          · rw [e]; rcases hm with rfl | rfl | rfl <;> rfl
        · rw [if_neg hm] at h
          split at h
          · rename_i hd
            have h2 := Except.ok.inj h
            simp only [Prod.mk.injEq] at h2
            obtain ⟨h3, h4, h5⟩ := h2
            have e : t ++ rest = 46 :: 46 :: rest := by rw [← h4]; rfl
            constructor
            · rw [e, tok_cons, if_neg (by decide), if_neg (by decide), if_neg (by decide), if_pos ⟨rfl, rfl⟩, h3, h4, h5]
            · rw [e]; rfl
          · cases h

theorem plain_toks (L : Bytes) : ∀ (f i : Nat) (ts : List Tok), toks L f i = .ok ts → ∀ t ∈ ts, Plain (strip t) := by
  intro f
  induction f with
  | zero =>
    intro i ts h
    simp only [toks, Except.ok.injEq] at h
    subst h
    simp
  | succ f ih =>
    intro i ts h
    simp only [toks] at h
    split at h
    · simp only [Except.ok.injEq] at h
      subst h
      simp
    · cases ht : tok (L.drop (i + skipN false (L.drop i))) with
      | error e => rw [ht] at h; cases h
      | ok x =>
        obtain ⟨k, t, n⟩ := x
        rw [ht] at h
        simp only at h
        cases hr : toks L f (i + skipN false (L.drop i) + t.length) with
        | error e => rw [hr] at h; cases h
        | ok us =>
          rw [hr] at h
          simp only [Except.map, Except.ok.injEq] at h
          subst h
          intro u hu
          rcases List.mem_cons.1 hu with rfl | hu
          · exact plain_of_tok ht
          · exact ih _ us hr u hu

/-- what may stand between -/
structure Sep (sep : Bytes) : Prop where
  skip : ∀ x, skipN false (sep ++ x) = sep.length + skipN false x
  head : ∀ x, hdIs inner (sep ++ x) = false
/-- what may stand behind all -/
structure Tail (z : Bytes) : Prop where
  skip : skipN false z = z.length
  head : hdIs inner z = false

theorem lexL_one {f : Nat} {t : T3} {rest : Bytes} (h : Plain t) (hr : hdIs inner rest = false) : lexL (f + 1) (t.2.1 ++ rest) = (lexL f rest).map (t :: ·) := by
  obtain ⟨h1, h2⟩ := h
  obtain ⟨h3, h4⟩ := h2 rest hr
  obtain ⟨k, t, n⟩ := t
  simp only at *
  simp only [lexL]
  rw [h4, if_neg (by rw [List.length_append]; omega), List.drop_zero, h3]
  simp only [Nat.zero_add, List.drop_left]
theorem lexL_sep {f : Nat} {sep x : Bytes} (h : Sep sep) : lexL f (sep ++ x) = lexL f x := by
  cases f with
  | zero => rfl
  | succ f =>
    simp only [lexL]
    rw [h.skip, List.length_append]
    by_cases hx : x.length ≤ skipN false x
    · rw [if_pos (by omega), if_pos hx]
    · rw [if_neg (by omega), if_neg hx]
      have e : ∀ m, (sep ++ x).drop (sep.length + m) = x.drop m := fun m => by rw [← List.drop_drop, List.drop_left]
      rw [e]
      cases tok (x.drop (skipN false x)) with
      | error e => rfl
      | ok y =>
        obtain ⟨k, t, n⟩ := y
        simp only
        rw [Nat.add_assoc, e]
theorem lexL_tail {f : Nat} {z : Bytes} (h : Tail z) : lexL f z = .ok [] := by
  cases f with
  | zero => rfl
  | succ f => simp only [lexL]; rw [if_pos (by rw [h.skip]; omega)]
theorem head_rest {sep z : Bytes} (hs : Sep sep) (hz : Tail z) (us : List T3) : hdIs inner ((us.flatMap fun u => sep ++ u.2.1) ++ z) = false := by
  cases us with
  | nil => simpa using hz.head
  | cons u us => simp only [List.flatMap_cons, List.append_assoc]; exact hs.head _
theorem relex_rest {sep z : Bytes} (hs : Sep sep) (hz : Tail z) : ∀ (us : List T3) (f : Nat), us.length ≤ f → (∀ u ∈ us, Plain u) → lexL f ((us.flatMap fun u => sep ++ u.2.1) ++ z) = .ok us := by
  intro us
  induction us with
  | nil => intro f _ _; simpa using lexL_tail hz
  | cons u us ih =>
    intro f hf hp
    simp only [List.length_cons] at hf
    obtain ⟨f, rfl⟩ : ∃ g, f = g + 1 := ⟨f - 1, by omega⟩
    simp only [List.flatMap_cons, List.append_assoc]
    rw [lexL_sep hs, lexL_one (hp u List.mem_cons_self) (head_rest hs hz us), ih f (by omega) (fun v hv => hp v (List.mem_cons_of_mem _ hv))]
    rfl
theorem relex {sep z : Bytes} (hs : Sep sep) (hz : Tail z) {u : T3} {us : List T3} {f : Nat} (hf : us.length < f) (hp : ∀ v ∈ u :: us, Plain v) :
    lexL f (u.2.1 ++ ((us.flatMap fun v => sep ++ v.2.1) ++ z)) = .ok (u :: us) := by
  obtain ⟨f, rfl⟩ : ∃ g, f = g + 1 := ⟨f - 1, by omega⟩
  rw [lexL_one (hp u List.mem_cons_self) (head_rest hs hz us), relex_rest hs hz us f (by omega) (fun v hv => hp v (List.mem_cons_of_mem _ hv))]
  rfl

end Go.Proofs.Ytoegepgdfnokdaa.Lx
