/-
  The lexer as plain Lean over lists of bytes: no program, no memory.
  Plain laws of the lexer: no program.
  Plain laws of the lexer, more: what is lexed again; places; names. No program.
  Plain laws of the lexer: what each law says. No program.
-/
import Derived.KernelRfl

namespace Go.Proofs.YtnoieobjfihbeaaDoor.Lx

abbrev Bytes := List UInt8

def letter (c : UInt8) : Bool := decide (97 ≤ c) && decide (c ≤ 122)
def digit (c : UInt8) : Bool := decide (48 ≤ c) && decide (c ≤ 57)
def inner (c : UInt8) : Bool := letter c || digit c || c == 45
def blank (c : UInt8) : Bool := c == 32 || c == 10

/-- role label region allow cap cloak any all tier in zoom -/
def words : List Bytes := [[114, 111, 108, 101], [108, 97, 98, 101, 108], [114, 101, 103, 105, 111, 110], [97, 108, 108, 111, 119], [99, 97, 112],
  [99, 108, 111, 97, 107], [97, 110, 121], [97, 108, 108], [116, 105, 101, 114], [105, 110], [122, 111, 111, 109]]
def isWord (s : Bytes) : Bool := words.contains s

/-- A name, as a whole. -/
def isName (s : Bytes) : Bool :=
  match s with
  | [] => false
  | c :: _ => decide (s.length ≤ 16) && letter c && s.all inner && !isWord s

structure Tok where
  kind : Nat
  text : Bytes
  n : Nat
  line : Nat
  col : Nat
  deriving DecidableEq, Repr

/-- a place: line, column -/
def adv (p : Nat × Nat) (c : UInt8) : Nat × Nat := if c = 10 then (p.1 + 1, 1) else (p.1, p.2 + 1)
def posOf (l : Bytes) : Nat × Nat := l.foldl adv (1, 1)

/-- how many bytes stand ahead of the next token; the Bool: in a remark -/
def skipN : Bool → Bytes → Nat
  | _, [] => 0
  | true, c :: l => 1 + skipN (c != 10) l
  | false, c :: l => if c == 35 then 1 + skipN true l else if blank c then 1 + skipN false l else 0

def numAcc (n : Nat) (l : Bytes) : Nat := l.foldl (fun n c => 10 * n + (c.toNat - 48)) n
/-- digits' number -/
def number (w : Bytes) : Option Nat :=
  if (1 < w.length ∧ w.head? = some 48) ∨ 65535 < numAcc 0 w then none else some (numAcc 0 w)

/-- the token at the beginning: kind, text, number; or the error -/
def tok : Bytes → Except Nat (Nat × Bytes × Nat)
  | [] => .error 30
  | c :: l =>
    if letter c then
      let w := (c :: l).takeWhile inner
      if 16 < w.length then .error 2 else .ok (if isWord w then 2 else 1, w, 0)
    else if digit c then
      let w := (c :: l).takeWhile digit
      match number w with
      | none => .error 10
      | some n => .ok (3, w, n)
    else if c = 61 ∨ c = 43 ∨ c = 59 then .ok (4, [c], 0)
    else if c = 46 ∧ l.head? = some 46 then .ok (4, [46, 46], 0)
    else .error 30

abbrev Fault := Nat × Nat × Nat
def mkFault (e : Nat) (p : Nat × Nat) : Fault := (e, p.1, p.2)

def toks (L : Bytes) : Nat → Nat → Except Fault (List Tok)
  | 0, _ => .ok []
  | f + 1, i =>
    let a := i + skipN false (L.drop i)
    if L.length ≤ a then .ok []
    else match tok (L.drop a) with
      | .error e => .error (mkFault e (posOf (L.take a)))
      | .ok (k, w, n) => (toks L f (a + w.length)).map (⟨k, w, n, (posOf (L.take a)).1, (posOf (L.take a)).2⟩ :: ·)

/-- a text's tokens -/
def tokens (L : Bytes) : Except Fault (List Tok) :=
  if 512 < L.length then .error (2, 1, 1) else toks L (L.length + 1) 0


/-! ### laws for the walks -/

def hdIs (p : UInt8 → Bool) (l : Bytes) : Bool := match l with | [] => false | c :: _ => p c
def runN (p : UInt8 → Bool) (l : Bytes) : Nat := (l.takeWhile p).length

theorem drop_cons {L : Bytes} {i : Nat} (h : i < L.length) : L.drop i = L[i] :: L.drop (i + 1) := List.drop_eq_getElem_cons h
theorem hdIs_lt {p : UInt8 → Bool} {L : Bytes} {i : Nat} (h : i < L.length) : hdIs p (L.drop i) = p L[i] := by rw [drop_cons h]; rfl
theorem hdIs_ge {p : UInt8 → Bool} {L : Bytes} {i : Nat} (h : L.length ≤ i) : hdIs p (L.drop i) = false := by rw [List.drop_eq_nil_of_le h]; rfl
theorem lt_of_hdIs {p : UInt8 → Bool} {L : Bytes} {i : Nat} (h : hdIs p (L.drop i) = true) : i < L.length := by
  rcases Nat.lt_or_ge i L.length with h' | h'
  · exact h'
  · rw [hdIs_ge h'] at h; cases h
theorem runN_stop {p : UInt8 → Bool} {l : Bytes} (h : hdIs p l = false) : runN p l = 0 := by
  cases l with
  | nil => rfl
  | cons c l => simp only [hdIs] at h; simp [runN, h]
theorem runN_step {p : UInt8 → Bool} {L : Bytes} {i : Nat} (h : hdIs p (L.drop i) = true) : runN p (L.drop i) = 1 + runN p (L.drop (i + 1)) := by
  have hl := lt_of_hdIs h
  rw [hdIs_lt hl] at h
  rw [drop_cons hl]
  unfold runN
  rw [List.takeWhile_cons_of_pos h, List.length_cons]
  omega
theorem runN_le (p : UInt8 → Bool) (l : Bytes) : runN p l ≤ l.length := by
  unfold runN
  exact (List.takeWhile_prefix p).length_le
theorem posOf_succ {L : Bytes} {i : Nat} (h : i < L.length) : posOf (L.take (i + 1)) = adv (posOf (L.take i)) L[i] := by
  unfold posOf
  rw [List.take_succ_eq_append_getElem h, List.foldl_append]
  rfl
theorem posOf_go (l : Bytes) : ∀ (p : Nat × Nat) (n : Nat), 1 ≤ p.1 → p.1 ≤ n + 1 → p.2 ≤ n + 1 → 1 ≤ (l.foldl adv p).1 ∧ (l.foldl adv p).1 ≤ n + l.length + 1 ∧ (l.foldl adv p).2 ≤ n + l.length + 1 := by
  induction l with
  | nil => intro p n _ h1 h2; simp; omega
  | cons c l ih =>
    intro p n h0 h1 h2
    have := ih (adv p c) (n + 1) (by unfold adv; split <;> simp <;> omega) (by unfold adv; split <;> simp <;> omega) (by unfold adv; split <;> simp <;> omega)
    simp only [List.foldl_cons, List.length_cons]
    omega
theorem posOf_le (l : Bytes) : 1 ≤ (posOf l).1 ∧ (posOf l).1 ≤ l.length + 1 ∧ (posOf l).2 ≤ l.length + 1 := by
  have := posOf_go l (1, 1) 0 (by simp) (by simp) (by simp)
  unfold posOf
  omega

theorem skipN_le : ∀ (b : Bool) (l : Bytes), skipN b l ≤ l.length
  | _, [] => by simp [skipN]
  | true, c :: l => by have := skipN_le (c != 10) l; simp only [skipN, List.length_cons]; omega
  | false, c :: l => by
    have h1 := skipN_le true l
    have h2 := skipN_le false l
    simp only [skipN, List.length_cons]
    split
    · omega
    · split <;> omega
/-- a row of blanks first -/
theorem skipN_blanks : ∀ (l : Bytes), skipN false l = runN blank l + skipN false (l.drop (runN blank l))
  | [] => by simp [skipN, runN]
  | c :: l => by
    by_cases hb : blank c = true
    · have h35 : (c == 35) = false := by
        simp only [blank, Bool.or_eq_true, beq_iff_eq] at hb
        rcases hb with rfl | rfl <;> rfl
      have e1 : runN blank (c :: l) = runN blank l + 1 := by simp [runN, hb]
      rw [e1, List.drop_succ_cons]
      simp only [skipN, h35, hb, if_true, Bool.false_eq_true, if_false]
      have := skipN_blanks l
      omega
    · have e1 : runN blank (c :: l) = 0 := by simp [runN, hb]
      rw [e1]; simp
def not10 (c : UInt8) : Bool := c != 10
theorem skipN_true : ∀ (l : Bytes), skipN true l = runN not10 l + (if (l.drop (runN not10 l)).isEmpty then 0 else 1 + skipN false (l.drop (runN not10 l + 1)))
  | [] => by simp [skipN, runN]
  | c :: l => by
    by_cases hb : not10 c = true
    · have e1 : runN not10 (c :: l) = runN not10 l + 1 := by simp [runN, hb]
      have := skipN_true l
      have e2 : (c != 10) = true := hb
      rw [e1, List.drop_succ_cons, List.drop_succ_cons]
      simp only [skipN, e2]
      omega
    · have e1 : runN not10 (c :: l) = 0 := by simp [runN, hb]
      have e2 : (c != 10) = false := by simpa [not10] using hb
      rw [e1]
      simp [skipN, e2]
/-- a remark: what the program's loop does -/
theorem skipN_remark {l : Bytes} (h : hdIs (· == 35) l = true) : skipN false l = runN not10 l + skipN false (l.drop (runN not10 l)) := by
  cases l with
  | nil => cases h
  | cons c l =>
    simp only [hdIs, beq_iff_eq] at h
    subst h
    have e1 : runN not10 (35 :: l) = runN not10 l + 1 := by unfold runN; rw [List.takeWhile_cons_of_pos (by rfl), List.length_cons]
    rw [e1, List.drop_succ_cons]
    have e3 : skipN false (35 :: l) = 1 + skipN true l := by simp [skipN]
    rw [e3, skipN_true l]
    by_cases he : (l.drop (runN not10 l)).isEmpty = true
    · rw [if_pos he]
      have he' : l.drop (runN not10 l) = [] := by simpa using he
      rw [he']; simp [skipN]; omega
    · rw [if_neg he]
      have hne : l.drop (runN not10 l) ≠ [] := by simpa using he
      have hlt : runN not10 l < l.length := by
        rcases Nat.lt_or_ge (runN not10 l) l.length with h' | h'
        · exact h'
        · exact absurd (List.drop_eq_nil_of_le h') hne
      have hc : l[runN not10 l] = 10 := by
        have h2 := List.drop_eq_getElem_cons hlt
        have h3 : l.dropWhile not10 = l.drop (runN not10 l) := by
          have := List.takeWhile_append_dropWhile (p := not10) (l := l)
          have h4 := congrArg (List.drop (runN not10 l)) this
          simp only [runN, List.drop_left] at h4
          exact h4
        have h5 := List.head?_dropWhile_not not10 l
        rw [h3, h2] at h5
        simp only [List.head?_cons, not10] at h5
        simpa using h5
      rw [List.drop_eq_getElem_cons hlt, hc]
      have e4 : skipN false (10 :: l.drop (runN not10 l + 1)) = 1 + skipN false (l.drop (runN not10 l + 1)) := by simp [skipN, blank]
      rw [e4]; omega
theorem skipN_stop {l : Bytes} (h : hdIs blank l = false) (h' : hdIs (· == 35) l = false) : skipN false l = 0 := by
  cases l with
  | nil => rfl
  | cons c l => simp only [hdIs] at h h'; simp [skipN, h, h']
theorem hdIs_drop_runN (p : UInt8 → Bool) (l : Bytes) : hdIs p (l.drop (runN p l)) = false := by
  induction l with
  | nil => rfl
  | cons c l ih =>
    by_cases hb : p c = true
    · have e1 : runN p (c :: l) = runN p l + 1 := by simp [runN, hb]
      rw [e1, List.drop_succ_cons]; exact ih
    · have e1 : runN p (c :: l) = 0 := by simp [runN, hb]
      rw [e1]; simpa [hdIs] using hb

def numRet (L : Bytes) : Nat := if 1 < L.length ∧ L.head? = some 48 then 0 else min 65536 (numAcc 0 L)
theorem number_ok {L : Bytes} (h : ¬ (1 < L.length ∧ L.head? = some 48)) : (number L).isSome = decide (min 65536 (numAcc 0 L) ≤ 65535) := by
  unfold number
  by_cases h2 : 65535 < numAcc 0 L
  · rw [if_pos (Or.inr h2), decide_eq_false (by omega)]; rfl
  · rw [if_neg (by intro h3; rcases h3 with h3 | h3 <;> contradiction), decide_eq_true (by omega)]; rfl
theorem number_some {L : Bytes} {n : Nat} (h : number L = some n) : numRet L = n := by
  unfold number at h
  split at h
  · cases h
  · rename_i h2
    have h3 : ¬ (1 < L.length ∧ L.head? = some 48) := fun x => h2 (Or.inl x)
    have h4 : ¬ 65535 < numAcc 0 L := fun x => h2 (Or.inr x)
    unfold numRet
    rw [if_neg h3]
    have := Option.some.inj h
    omega
theorem numAcc_succ {L : Bytes} {k : Nat} (h : k < L.length) : numAcc 0 (L.take (k + 1)) = 10 * numAcc 0 (L.take k) + (L[k].toNat - 48) := by
  unfold numAcc
  rw [List.take_succ_eq_append_getElem h, List.foldl_append]
  rfl

theorem toks_end {L : Bytes} {f i : Nat} (hf : 0 < f) (h : L.length ≤ i + skipN false (L.drop i)) : toks L f i = .ok [] := by
  cases f with
  | zero => omega
  | succ f => simp only [toks]; rw [if_pos h]
theorem toks_err {L : Bytes} {f i er : Nat} (hf : 0 < f) (h : i + skipN false (L.drop i) < L.length) (ht : tok (L.drop (i + skipN false (L.drop i))) = .error er) :
    toks L f i = .error (mkFault er (posOf (L.take (i + skipN false (L.drop i))))) := by
  cases f with
  | zero => omega
  | succ f => simp only [toks]; rw [if_neg (by omega), ht]
def tokAt (L : Bytes) (a k : Nat) (t : Bytes) (n : Nat) : Tok := ⟨k, t, n, (posOf (L.take a)).1, (posOf (L.take a)).2⟩
theorem toks_ok {L : Bytes} {f i k n : Nat} {t : Bytes} (h : i + skipN false (L.drop i) < L.length) (ht : tok (L.drop (i + skipN false (L.drop i))) = .ok (k, t, n)) :
    toks L (f + 1) i = (toks L f (i + skipN false (L.drop i) + t.length)).map (tokAt L (i + skipN false (L.drop i)) k t n :: ·) := by
  simp only [toks]; rw [if_neg (by omega), ht]; rfl
theorem tok_pos {l : Bytes} {k n : Nat} {t : Bytes} (h : tok l = .ok (k, t, n)) : 0 < t.length := by
  unfold tok at h
  split at h
  · cases h
  · rename_i c l
    split at h
    · rename_i hl
      simp only at h
      split at h
      · cases h
      · have := Except.ok.inj h
        simp only [Prod.mk.injEq] at this
        rw [← this.2.1, List.takeWhile_cons_of_pos (by simp [inner, hl])]
        simp
    · split at h
      · rename_i hl
        simp only at h
        split at h
        · cases h
        · have := Except.ok.inj h
          simp only [Prod.mk.injEq] at this
          rw [← this.2.1, List.takeWhile_cons_of_pos hl]
          simp
      · split at h
        · have := Except.ok.inj h
          simp only [Prod.mk.injEq] at this
          rw [← this.2.1]; simp
        · split at h
          · have := Except.ok.inj h
            simp only [Prod.mk.injEq] at this
            rw [← this.2.1]; simp
          · cases h

end Go.Proofs.YtnoieobjfihbeaaDoor.Lx

namespace Go.Proofs.YtnoieobjfihbeaaDoor.Lx

theorem take_takeWhile (p : UInt8 → Bool) (l : Bytes) : l.take (l.takeWhile p).length = l.takeWhile p := by
  have h := List.takeWhile_append_dropWhile (p := p) (l := l)
  have h2 := congrArg (List.take (l.takeWhile p).length) h
  rw [List.take_left] at h2
  exact h2.symm
/-- a token's text stands at the beginning -/
theorem tok_prefix {l : Bytes} {k n : Nat} {t : Bytes} (h : tok l = .ok (k, t, n)) : l.take t.length = t := by
  unfold tok at h
  split at h
  · cases h
  · rename_i c l
    split at h
    · simp only at h
      split at h
      · cases h
      · have := Except.ok.inj h
        simp only [Prod.mk.injEq] at this
        rw [← this.2.1]; exact take_takeWhile _ _
    · split at h
      · simp only at h
        split at h
        · cases h
        · have := Except.ok.inj h
          simp only [Prod.mk.injEq] at this
          rw [← this.2.1]; exact take_takeWhile _ _
      · split at h
        · have := Except.ok.inj h
          simp only [Prod.mk.injEq] at this
          rw [← this.2.1]; rfl
        · split at h
          · rename_i hc
            have := Except.ok.inj h
            simp only [Prod.mk.injEq] at this
            rw [← this.2.1, hc.1]
            cases l with
            | nil => simp at hc
            | cons d l => simp only [List.head?_cons, Option.some.injEq] at hc; rw [hc.2]; rfl
          · cases h
theorem tok_le {l : Bytes} {k n : Nat} {t : Bytes} (h : tok l = .ok (k, t, n)) : t.length ≤ l.length := by
  have := congrArg List.length (tok_prefix h)
  rw [List.length_take] at this
  omega

theorem toks_bound (L : Bytes) : ∀ (f i : Nat) (ts : List Tok), i ≤ L.length → toks L f i = .ok ts → ts.length + i ≤ L.length ∧ ∀ t ∈ ts, t.text.length ≤ L.length := by
  intro f
  induction f with
  | zero =>
    intro i ts hi h
    simp only [toks, Except.ok.injEq] at h
    subst h
    exact ⟨by simpa using hi, by simp⟩
  | succ f ih =>
    intro i ts hi h
    simp only [toks] at h
    split at h
    · simp only [Except.ok.injEq] at h
      subst h
      exact ⟨by simpa using hi, by simp⟩
    · rename_i hlt
      cases ht : tok (L.drop (i + skipN false (L.drop i))) with
      | error e => rw [ht] at h; cases h
      | ok x =>
        obtain ⟨k, t, n⟩ := x
        rw [ht] at h
        simp only at h
        have hp := tok_pos ht
        have hle := tok_le ht
        rw [List.length_drop] at hle
        cases hr : toks L f (i + skipN false (L.drop i) + t.length) with
        | error e => rw [hr] at h; cases h
        | ok us =>
          rw [hr] at h
          simp only [Except.map, Except.ok.injEq] at h
          obtain ⟨h1, h2⟩ := ih _ us (by omega) hr
          subst h
          refine ⟨by simp only [List.length_cons]; omega, ?_⟩
          intro u hu
          rcases List.mem_cons.1 hu with rfl | hu
          · simp only; omega
          · exact h2 u hu
theorem tokens_bound {L : Bytes} {ts : List Tok} (h : tokens L = .ok ts) : ts.length ≤ 512 ∧ ∀ t ∈ ts, t.text.length ≤ 512 := by
  unfold tokens at h
  split at h
  · cases h
  · rename_i hl
    obtain ⟨h1, h2⟩ := toks_bound L _ 0 ts (Nat.zero_le _) h
    exact ⟨by omega, fun t ht => by have := h2 t ht; omega⟩

end Go.Proofs.YtnoieobjfihbeaaDoor.Lx

namespace Go.Proofs.YtnoieobjfihbeaaDoor.Lx

/-! ### without places -/
abbrev T3 := Nat × Bytes × Nat
def strip (t : Tok) : T3 := (t.kind, t.text, t.n)
def lexL : Nat → Bytes → Except Nat (List T3)
  | 0, _ => .ok []
  | f + 1, l =>
    if l.length ≤ skipN false l then .ok []
    else match tok (l.drop (skipN false l)) with
      | .error e => .error e
      | .ok (k, t, n) => (lexL f (l.drop (skipN false l + t.length))).map ((k, t, n) :: ·)

theorem lexL_toks (L : Bytes) : ∀ (f i : Nat), lexL f (L.drop i) = match toks L f i with | .error (e, _, _) => .error e | .ok ts => .ok (ts.map strip) := by
  intro f
  induction f with
  | zero => intro i; rfl
  | succ f ih =>
    intro i
    simp only [lexL, toks]
    have e1 : ((L.drop i).length ≤ skipN false (L.drop i)) ↔ (L.length ≤ i + skipN false (L.drop i)) := by rw [List.length_drop]; omega
    by_cases h : L.length ≤ i + skipN false (L.drop i)
    · rw [if_pos h, if_pos (e1.2 h)]; rfl
    · rw [if_neg h, if_neg (fun x => h (e1.1 x)), List.drop_drop]
      cases ht : tok (L.drop (i + skipN false (L.drop i))) with
      | error e => rfl
      | ok x =>
        obtain ⟨k, t, n⟩ := x
        simp only
        rw [List.drop_drop, ← Nat.add_assoc, ih]
        cases hr : toks L f (i + skipN false (L.drop i) + t.length) with
        | error x => rfl
        | ok us => rfl

/-- a token that is read as it is, whatever stands behind that is no byte of a name -/
def Plain (t : T3) : Prop := 0 < t.2.1.length ∧ ∀ rest, hdIs inner rest = false → tok (t.2.1 ++ rest) = .ok t ∧ skipN false (t.2.1 ++ rest) = 0

theorem takeWhile_app {p : UInt8 → Bool} {l rest : Bytes} (h : l.all p = true) (hr : hdIs p rest = false) : (l ++ rest).takeWhile p = l := by
  induction l with
  | nil =>
    cases rest with
    | nil => rfl
    | cons c r => simp only [hdIs] at hr; simp [hr]
  | cons c l ih =>
    simp only [List.all_cons, Bool.and_eq_true] at h
    rw [List.cons_append, List.takeWhile_cons_of_pos h.1, ih h.2]
theorem all_takeWhile (p : UInt8 → Bool) (l : Bytes) : (l.takeWhile p).all p = true := by
  induction l with
  | nil => rfl
  | cons c l ih =>
    by_cases h : p c = true
    · rw [List.takeWhile_cons_of_pos h]; simp [h, ih]
    · rw [List.takeWhile_cons_of_neg h]; rfl
theorem not_skip_letter {c : UInt8} (h : letter c = true) : (c == 35) = false ∧ blank c = false := by
  unfold letter at h
  simp only [Bool.and_eq_true, decide_eq_true_eq] at h
  have h1 : 97 ≤ c.toNat := h.1
  constructor
  · rw [beq_eq_false_iff_ne]; intro e; subst e; exact absurd h1 (by decide)
  · unfold blank; rw [Bool.or_eq_false_iff, beq_eq_false_iff_ne, beq_eq_false_iff_ne]
    exact ⟨fun e => by subst e; exact absurd h1 (by decide), fun e => by subst e; exact absurd h1 (by decide)⟩
theorem not_skip_digit {c : UInt8} (h : digit c = true) : (c == 35) = false ∧ blank c = false := by
  unfold digit at h
  simp only [Bool.and_eq_true, decide_eq_true_eq] at h
  have h1 : 48 ≤ c.toNat := h.1
  constructor
  · rw [beq_eq_false_iff_ne]; intro e; subst e; exact absurd h1 (by decide)
  · unfold blank; rw [Bool.or_eq_false_iff, beq_eq_false_iff_ne, beq_eq_false_iff_ne]
    exact ⟨fun e => by subst e; exact absurd h1 (by decide), fun e => by subst e; exact absurd h1 (by decide)⟩
theorem skipN_head {c : UInt8} {l : Bytes} (h : (c == 35) = false ∧ blank c = false) : skipN false (c :: l) = 0 := by simp [skipN, h.1, h.2]
theorem hd_digit {l : Bytes} (h : hdIs inner l = false) : hdIs digit l = false := by
  cases l with
  | nil => rfl
  | cons c l =>
    simp only [hdIs, inner, Bool.or_eq_false_iff] at h ⊢
    exact h.1.2
theorem tok_cons (c : UInt8) (l : Bytes) : tok (c :: l) = 
    if letter c then
      if 16 < ((c :: l).takeWhile inner).length then .error 2 else .ok (if isWord ((c :: l).takeWhile inner) then 2 else 1, (c :: l).takeWhile inner, 0)
    else if digit c then
      match number ((c :: l).takeWhile digit) with
      | none => .error 10
      | some n => .ok (3, (c :: l).takeWhile digit, n)
    else if c = 61 ∨ c = 43 ∨ c = 59 then .ok (4, [c], 0)
    else if c = 46 ∧ l.head? = some 46 then .ok (4, [46, 46], 0)
    else .error 30 := rfl

theorem plain_of_tok {l : Bytes} {k n : Nat} {t : Bytes} (h : tok l = .ok (k, t, n)) : Plain (k, t, n) := by
  refine ⟨tok_pos h, ?_⟩
  intro rest hr
  simp only
  cases l with
  | nil => simp [tok] at h
  | cons c l =>
    rw [tok_cons] at h
    by_cases hl : letter c = true
    · rw [if_pos hl] at h
      split at h
      · cases h
      · rename_i h16
        have h2 := Except.ok.inj h
        simp only [Prod.mk.injEq] at h2
        obtain ⟨h3, h4, h5⟩ := h2
        have hall : t.all inner = true := by rw [← h4]; exact all_takeWhile _ _
        have ht : t = c :: (l.takeWhile inner) := by rw [← h4, List.takeWhile_cons_of_pos (by simp [inner, hl])]
        have htw := takeWhile_app hall hr
        have e : t ++ rest = c :: (l.takeWhile inner ++ rest) := by rw [ht]; rfl
        constructor
        · rw [e, tok_cons, if_pos hl, ← e, htw, ← h4, if_neg h16, h3, h5]
        · rw [e]; exact skipN_head (not_skip_letter hl)
    · rw [if_neg hl] at h
      by_cases hg : digit c = true
      · rw [if_pos hg] at h
        split at h
        · cases h
        · rename_i m hm
          have h2 := Except.ok.inj h
          simp only [Prod.mk.injEq] at h2
          obtain ⟨h3, h4, h5⟩ := h2
          have hall : t.all digit = true := by rw [← h4]; exact all_takeWhile _ _
          have ht : t = c :: (l.takeWhile digit) := by rw [← h4, List.takeWhile_cons_of_pos hg]
          have htw := takeWhile_app hall (hd_digit hr)
          have e : t ++ rest = c :: (l.takeWhile digit ++ rest) := by rw [ht]; rfl
          constructor
          · rw [e, tok_cons, if_neg hl, if_pos hg, ← e, htw, ← h4, hm, h3, h5]
          · rw [e]; exact skipN_head (not_skip_digit hg)
      · rw [if_neg hg] at h
        by_cases hm : c = 61 ∨ c = 43 ∨ c = 59
        · rw [if_pos hm] at h
          have h2 := Except.ok.inj h
          simp only [Prod.mk.injEq] at h2
          obtain ⟨h3, h4, h5⟩ := h2
          have e : t ++ rest = c :: rest := by rw [← h4]; rfl
          constructor
          · rw [e, tok_cons, if_neg hl, if_neg hg, if_pos hm, h3, h4, h5]
          · rw [e]; rcases hm with rfl | rfl | rfl <;> rfl
        · rw [if_neg hm] at h
          split at h
          · rename_i hd
            have h2 := Except.ok.inj h
            simp only [Prod.mk.injEq] at h2
            obtain ⟨h3, h4, h5⟩ := h2
            have e : t ++ rest = 46 :: 46 :: rest := by rw [← h4]; rfl
            constructor
            · rw [e, tok_cons, if_neg (by decide), if_neg (by decide), if_neg (by decide), if_pos ⟨rfl, rfl⟩, h3, h4, h5]
            · rw [e]; rfl
          · cases h

theorem plain_toks (L : Bytes) : ∀ (f i : Nat) (ts : List Tok), toks L f i = .ok ts → ∀ t ∈ ts, Plain (strip t) := by
  intro f
  induction f with
  | zero =>
    intro i ts h
    simp only [toks, Except.ok.injEq] at h
    subst h
    simp
  | succ f ih =>
    intro i ts h
    simp only [toks] at h
    split at h
    · simp only [Except.ok.injEq] at h
      subst h
      simp
    · cases ht : tok (L.drop (i + skipN false (L.drop i))) with
      | error e => rw [ht] at h; cases h
      | ok x =>
        obtain ⟨k, t, n⟩ := x
        rw [ht] at h
        simp only at h
        cases hr : toks L f (i + skipN false (L.drop i) + t.length) with
        | error e => rw [hr] at h; cases h
        | ok us =>
          rw [hr] at h
          simp only [Except.map, Except.ok.injEq] at h
          subst h
          intro u hu
          rcases List.mem_cons.1 hu with rfl | hu
          · exact plain_of_tok ht
          · exact ih _ us hr u hu

/-- what may stand between -/
structure Sep (sep : Bytes) : Prop where
  skip : ∀ x, skipN false (sep ++ x) = sep.length + skipN false x
  head : ∀ x, hdIs inner (sep ++ x) = false
/-- what may stand behind all -/
structure Tail (z : Bytes) : Prop where
  skip : skipN false z = z.length
  head : hdIs inner z = false

theorem lexL_one {f : Nat} {t : T3} {rest : Bytes} (h : Plain t) (hr : hdIs inner rest = false) : lexL (f + 1) (t.2.1 ++ rest) = (lexL f rest).map (t :: ·) := by
  obtain ⟨h1, h2⟩ := h
  obtain ⟨h3, h4⟩ := h2 rest hr
  obtain ⟨k, t, n⟩ := t
  simp only at *
  simp only [lexL]
  rw [h4, if_neg (by rw [List.length_append]; omega), List.drop_zero, h3]
  simp only [Nat.zero_add, List.drop_left]
theorem lexL_sep {f : Nat} {sep x : Bytes} (h : Sep sep) : lexL f (sep ++ x) = lexL f x := by
  cases f with
  | zero => rfl
  | succ f =>
    simp only [lexL]
    rw [h.skip, List.length_append]
    by_cases hx : x.length ≤ skipN false x
    · rw [if_pos (by omega), if_pos hx]
    · rw [if_neg (by omega), if_neg hx]
      have e : ∀ m, (sep ++ x).drop (sep.length + m) = x.drop m := fun m => by rw [← List.drop_drop, List.drop_left]
      rw [e]
      cases tok (x.drop (skipN false x)) with
      | error e => rfl
      | ok y =>
        obtain ⟨k, t, n⟩ := y
        simp only
        rw [Nat.add_assoc, e]
theorem lexL_tail {f : Nat} {z : Bytes} (h : Tail z) : lexL f z = .ok [] := by
  cases f with
  | zero => rfl
  | succ f => simp only [lexL]; rw [if_pos (by rw [h.skip]; omega)]
theorem head_rest {sep z : Bytes} (hs : Sep sep) (hz : Tail z) (us : List T3) : hdIs inner ((us.flatMap fun u => sep ++ u.2.1) ++ z) = false := by
  cases us with
  | nil => simpa using hz.head
  | cons u us => simp only [List.flatMap_cons, List.append_assoc]; exact hs.head _
theorem relex_rest {sep z : Bytes} (hs : Sep sep) (hz : Tail z) : ∀ (us : List T3) (f : Nat), us.length ≤ f → (∀ u ∈ us, Plain u) → lexL f ((us.flatMap fun u => sep ++ u.2.1) ++ z) = .ok us := by
  intro us
  induction us with
  | nil => intro f _ _; simpa using lexL_tail hz
  | cons u us ih =>
    intro f hf hp
    simp only [List.length_cons] at hf
    obtain ⟨f, rfl⟩ : ∃ g, f = g + 1 := ⟨f - 1, by omega⟩
    simp only [List.flatMap_cons, List.append_assoc]
    rw [lexL_sep hs, lexL_one (hp u List.mem_cons_self) (head_rest hs hz us), ih f (by omega) (fun v hv => hp v (List.mem_cons_of_mem _ hv))]
    rfl
theorem relex {sep z : Bytes} (hs : Sep sep) (hz : Tail z) {u : T3} {us : List T3} {f : Nat} (hf : us.length < f) (hp : ∀ v ∈ u :: us, Plain v) :
    lexL f (u.2.1 ++ ((us.flatMap fun v => sep ++ v.2.1) ++ z)) = .ok (u :: us) := by
  obtain ⟨f, rfl⟩ : ∃ g, f = g + 1 := ⟨f - 1, by omega⟩
  rw [lexL_one (hp u List.mem_cons_self) (head_rest hs hz us), relex_rest hs hz us f (by omega) (fun v hv => hp v (List.mem_cons_of_mem _ hv))]
  rfl

end Go.Proofs.YtnoieobjfihbeaaDoor.Lx

namespace Go.Proofs.YtnoieobjfihbeaaDoor.Lx

def joinL (b : Bytes) : List Tok → Bytes
  | [] => []
  | t :: ts => t.text ++ ts.flatMap fun u => b ++ u.text

theorem flatMap_ge {sep : Bytes} : ∀ (us : List T3), (∀ u ∈ us, Plain u) → us.length ≤ (us.flatMap fun u => sep ++ u.2.1).length
  | [], _ => by simp
  | u :: us, h => by
    have h1 := flatMap_ge (sep := sep) us (fun v hv => h v (List.mem_cons_of_mem _ hv))
    have h2 := (h u List.mem_cons_self).1
    simp only [List.flatMap_cons, List.length_append, List.length_cons]
    omega
theorem flatMap_strip (sep : Bytes) (ts : List Tok) : ((ts.map strip).flatMap fun v => sep ++ v.2.1) = ts.flatMap fun u => sep ++ u.text := by
  induction ts with
  | nil => rfl
  | cons t ts ih => simp only [List.map_cons, List.flatMap_cons, ih]; rfl

theorem tokens_relex {L sep z : Bytes} {ts : List Tok} (h : tokens L = .ok ts) (hs : Sep sep) (hz : Tail z) (hM : (joinL sep ts ++ z).length ≤ 512) :
    ∃ us, tokens (joinL sep ts ++ z) = .ok us ∧ us.map strip = ts.map strip := by
  have hp : ∀ t ∈ ts, Plain (strip t) := by
    unfold tokens at h
    split at h
    · cases h
    · exact plain_toks L _ 0 ts h
  have hp2 : ∀ v ∈ ts.map strip, Plain v := by
    intro v hv
    obtain ⟨t, ht, rfl⟩ := List.mem_map.1 hv
    exact hp t ht
  have key : lexL ((joinL sep ts ++ z).length + 1) ((joinL sep ts ++ z).drop 0) = .ok (ts.map strip) := by
    rw [List.drop_zero]
    cases ts with
    | nil => simp only [joinL, List.nil_append]; exact lexL_tail hz
    | cons t ts =>
      simp only [joinL, List.append_assoc, List.map_cons]
      rw [← flatMap_strip]
      refine relex (u := strip t) hs hz ?_ (by simpa using hp2)
      have h1 := flatMap_ge (sep := sep) (ts.map strip) (fun v hv => hp2 v (by rw [List.map_cons]; exact List.mem_cons_of_mem _ hv))
      simp only [List.length_append] at *
      omega
  rw [lexL_toks] at key
  unfold tokens
  rw [if_neg (by omega)]
  cases hr : toks (joinL sep ts ++ z) ((joinL sep ts ++ z).length + 1) 0 with
  | error x => rw [hr] at key; obtain ⟨e, l, c⟩ := x; cases key
  | ok us => rw [hr] at key; exact ⟨us, rfl, Except.ok.inj key⟩

theorem skip32 (l : Bytes) : skipN false (32 :: l) = 1 + skipN false l := rfl
theorem skip10 (l : Bytes) : skipN false (10 :: l) = 1 + skipN false l := rfl
theorem skip35 (l : Bytes) : skipN false (35 :: l) = 1 + skipN true l := rfl
theorem sep_blank : Sep [32] := ⟨fun x => skip32 x, fun _x => rfl⟩
theorem skip_in (r x : Bytes) (h : r.all (fun c => c != 10) = true) : skipN true (r ++ 10 :: x) = r.length + 1 + skipN false x := by
  induction r with
  | nil => simp only [List.nil_append, skipN, List.length_nil]; have : ((10 : UInt8) != 10) = false := rfl; rw [this]
  | cons c r ih =>
    simp only [List.all_cons, Bool.and_eq_true] at h
    simp only [List.cons_append, skipN, List.length_cons]
    rw [h.1, ih h.2]; omega
theorem tail_nil : Tail [] := ⟨rfl, rfl⟩
theorem tail_hash : Tail [32, 35] := ⟨rfl, rfl⟩
/-- a remark on a line of its own -/
def remark : Bytes := [10, 35, 32, 97, 32, 114, 101, 109, 97, 114, 107, 44, 32, 114, 111, 108, 101, 32, 110, 117, 114, 115, 101, 32, 61, 32, 51, 59, 10]
theorem sep_remark : Sep remark := ⟨fun x => by
  have e : remark ++ x = 10 :: 35 :: ([32, 97, 32, 114, 101, 109, 97, 114, 107, 44, 32, 114, 111, 108, 101, 32, 110, 117, 114, 115, 101, 32, 61, 32, 51, 59] ++ 10 :: x) := rfl
  rw [e, skip10, skip35, skip_in _ _ (by rfl)]
  have : remark.length = 29 := rfl
  rw [this]
  simp only [List.length_cons, List.length_nil]
  omega, fun _ => rfl⟩
/-- so many blanks, and a line's end -/
theorem sep_blanks : ∀ n : Nat, Sep (List.replicate n 32 ++ [10])
  | 0 => ⟨fun x => skip10 x, fun x => rfl⟩
  | n + 1 => by
    have ih := sep_blanks n
    refine ⟨fun x => ?_, fun x => rfl⟩
    have e : List.replicate (n + 1) (32 : UInt8) ++ [10] ++ x = 32 :: (List.replicate n 32 ++ [10] ++ x) := by rw [List.replicate_succ]; rfl
    rw [e, skip32, ih.skip]
    simp
    omega

/-! ### places rise -/
theorem adv_lt (p : Nat × Nat) (c : UInt8) : p.1 < (adv p c).1 ∨ (p.1 = (adv p c).1 ∧ p.2 < (adv p c).2) := by
  unfold adv; split <;> simp
theorem fold_le (l : Bytes) : ∀ p : Nat × Nat, p.1 < (l.foldl adv p).1 ∨ (p.1 = (l.foldl adv p).1 ∧ p.2 ≤ (l.foldl adv p).2) := by
  induction l with
  | nil => intro p; right; simp
  | cons c l ih =>
    intro p
    have h1 := adv_lt p c
    have h2 := ih (adv p c)
    simp only [List.foldl_cons]
    omega
theorem posOf_ne {L : Bytes} {a b : Nat} (hab : a < b) (hb : b ≤ L.length) : posOf (L.take a) ≠ posOf (L.take b) := by
  have e : L.take b = L.take a ++ L[a] :: (L.drop (a + 1)).take (b - a - 1) := by
    have h1 : L.take b = (L.take b).take a ++ (L.take b).drop a := (List.take_append_drop a _).symm
    rw [List.take_take, Nat.min_eq_left (by omega), List.drop_take, drop_cons (by omega)] at h1
    obtain ⟨m, hm⟩ : ∃ m, b - a = m + 1 := ⟨b - a - 1, by omega⟩
    rw [hm, List.take_succ_cons] at h1
    rw [h1, show b - a - 1 = m by omega]
  intro h
  unfold posOf at h
  rw [e, List.foldl_append, List.foldl_cons] at h
  generalize List.foldl adv (1, 1) (L.take a) = p at h
  have h1 := adv_lt p L[a]
  have h2 := fold_le ((L.drop (a + 1)).take (b - a - 1)) (adv p L[a])
  rw [← h] at h2
  omega

/-- tokens, one behind another, each where it lies -/
inductive Placed (L : Bytes) : Nat → List Tok → Prop
  | nil (i : Nat) : Placed L i []
  | cons {i a : Nat} {t : Tok} {ts : List Tok} (hi : i ≤ a) (ha : a + t.text.length ≤ L.length) (hp : 0 < t.text.length) (hpos : posOf (L.take a) = (t.line, t.col)) (ht : (L.drop a).take t.text.length = t.text)
      (h : Placed L (a + t.text.length) ts) : Placed L i (t :: ts)
theorem placed_toks (L : Bytes) : ∀ (f i : Nat) (ts : List Tok), i ≤ L.length → toks L f i = .ok ts → Placed L i ts := by
  intro f
  induction f with
  | zero =>
    intro i ts _ h
    simp only [toks, Except.ok.injEq] at h
    subst h
    exact .nil i
  | succ f ih =>
    intro i ts hi h
    simp only [toks] at h
    split at h
    · simp only [Except.ok.injEq] at h
      subst h
      exact .nil i
    · rename_i hlt
      cases ht : tok (L.drop (i + skipN false (L.drop i))) with
      | error e => rw [ht] at h; cases h
      | ok x =>
        obtain ⟨k, t, n⟩ := x
        rw [ht] at h
        simp only at h
        have hle := tok_le ht
        rw [List.length_drop] at hle
        cases hr : toks L f (i + skipN false (L.drop i) + t.length) with
        | error e => rw [hr] at h; cases h
        | ok us =>
          rw [hr] at h
          simp only [Except.map, Except.ok.injEq] at h
          subst h
          exact .cons (a := i + skipN false (L.drop i)) (by omega) (by show _ + t.length ≤ _; omega) (tok_pos ht) rfl (tok_prefix ht) (ih (i + skipN false (L.drop i) + t.length) us (by omega) hr)
theorem tokens_placed {L : Bytes} {ts : List Tok} (h : tokens L = .ok ts) : Placed L 0 ts := by
  unfold tokens at h
  split at h
  · cases h
  · exact placed_toks L _ 0 ts (Nat.zero_le _) h

/-! ### names -/
theorem tokens_word : ∀ w ∈ words, tokens w = .ok [⟨2, w, 0, 1, 1⟩] := by
  intro w hw
  simp only [words, List.mem_cons, List.not_mem_nil, or_false] at hw
  rcases hw with rfl | rfl | rfl | rfl | rfl | rfl | rfl | rfl | rfl | rfl | rfl <;> rfl
theorem word_isName {L : Bytes} (h : isWord L = true) : isName L = false := by
  unfold isName
  split
  · rfl
  · rw [h]; simp
theorem toks_at_end (L : Bytes) (f : Nat) : toks L f L.length = .ok [] := by
  cases f with
  | zero => rfl
  | succ f => simp only [toks]; rw [if_pos (by omega)]
theorem tokens_name {L : Bytes} (h : isName L = true) : tokens L = .ok [⟨1, L, 0, 1, 1⟩] := by
  cases L with
  | nil => simp [isName] at h
  | cons c l =>
    simp only [isName, Bool.and_eq_true, decide_eq_true_eq, Bool.not_eq_true'] at h
    obtain ⟨⟨⟨h16, hl⟩, hall⟩, hw⟩ := h
    have htw : (c :: l).takeWhile inner = c :: l := by have := takeWhile_app (rest := []) hall rfl; rwa [List.append_nil] at this
    have hs : skipN false (c :: l) = 0 := skipN_head (not_skip_letter hl)
    unfold tokens
    rw [if_neg (by omega)]
    simp only [toks, List.drop_zero]
    rw [hs, if_neg (by simp)]
    rw [Nat.add_zero, List.drop_zero, tok_cons, if_pos hl, htw, if_neg (by omega), hw]
    simp only [Bool.false_eq_true, if_false, Nat.zero_add]
    rw [toks_at_end]
    rfl
/-- one token, which is all -/
theorem tokens_single {L : Bytes} {t : Tok} (h : tokens L = .ok [t]) (ht : t.text = L) : isName L = decide (t.kind = 1) ∧ isWord L = decide (t.kind = 2) := by
  have hne : 0 < L.length := by
    cases tokens_placed h with
    | cons _ _ hp _ _ _ => rw [ht] at hp; exact hp
  have hp : Plain (strip t) := by
    unfold tokens at h
    split at h
    · cases h
    · exact plain_toks L _ 0 [t] h t List.mem_cons_self
  have htok := (hp.2 [] rfl).1
  simp only [strip, List.append_nil, ht] at htok
  cases L with
  | nil => simp at hne
  | cons c l =>
    rw [tok_cons] at htok
    by_cases hl : letter c = true
    · rw [if_pos hl] at htok
      split at htok
      · cases htok
      · rename_i h16
        have h2 := Except.ok.inj htok
        simp only [Prod.mk.injEq] at h2
        obtain ⟨h3, h4, _⟩ := h2
        rw [h4] at h3 h16
        have hall : (c :: l).all inner = true := by have := all_takeWhile inner (c :: l); rwa [h4] at this
        have e1 : isName (c :: l) = !isWord (c :: l) := by
          unfold isName
          simp only [hl, hall, Bool.and_true]
          rw [decide_eq_true (by omega)]; rfl
        rw [e1]
        cases hw : isWord (c :: l) with
        | true => rw [hw] at h3; simp only [if_true] at h3; rw [← h3]; exact ⟨rfl, rfl⟩
        | false => rw [hw] at h3; simp only [Bool.false_eq_true, if_false] at h3; rw [← h3]; exact ⟨rfl, rfl⟩
    · have e1 : isName (c :: l) = false := by
        unfold isName
        simp only [Bool.not_eq_true] at hl
        simp [hl]
      have e2 : isWord (c :: l) = false := by
        cases hw : isWord (c :: l) with
        | false => rfl
        | true =>
          have h5 := List.contains_iff_mem.1 hw
          have h6 : ∀ w ∈ words, ∀ x ∈ w.head?, letter x = true := by decide +kernel
          exact absurd (h6 _ h5 c rfl) hl
      rw [e1, e2]
      rw [if_neg hl] at htok
      have hk : t.kind ≠ 1 ∧ t.kind ≠ 2 := by
        split at htok
        · split at htok
          · cases htok
          · have h2 := Except.ok.inj htok
            simp only [Prod.mk.injEq] at h2
            omega
        · split at htok
          · have h2 := Except.ok.inj htok
            simp only [Prod.mk.injEq] at h2
            omega
          · split at htok
            · have h2 := Except.ok.inj htok
              simp only [Prod.mk.injEq] at h2
              omega
            · cases htok
      exact ⟨(decide_eq_false hk.1).symm, (decide_eq_false hk.2).symm⟩
/-- otherwise: neither -/
theorem not_single {L : Bytes} (h : ∀ t, tokens L = .ok [t] → t.text ≠ L) : isName L = false ∧ isWord L = false := by
  constructor
  · cases hn : isName L with
    | false => rfl
    | true => exact absurd rfl (h _ (tokens_name hn))
  · cases hn : isWord L with
    | false => rfl
    | true => exact absurd rfl (h _ (tokens_word L (List.contains_iff_mem.1 hn)))

end Go.Proofs.YtnoieobjfihbeaaDoor.Lx
