/- The lexer as plain Lean over lists of bytes: no program, no memory. -/
import Derived.KernelRfl
namespace Go.Proofs.Ytelphkhacadfaaa.Lx

abbrev Bytes := List UInt8

def letter (c : UInt8) : Bool := decide (97 ≤ c) && decide (c ≤ 122)
def digit (c : UInt8) : Bool := decide (48 ≤ c) && decide (c ≤ 57)
def inner (c : UInt8) : Bool := letter c || digit c || c == 45
def blank (c : UInt8) : Bool := c == 32 || c == 10

/-- role label region allow cap cloak any all tier in zoom -/
def words : List Bytes := [[114, 111, 108, 101], [108, 97, 98, 101, 108], [114, 101, 103, 105, 111, 110], [97, 108, 108, 111, 119], [99, 97, 112],
  [99, 108, 111, 97, 107], [97, 110, 121], [97, 108, 108], [116, 105, 101, 114], [105, 110], [122, 111, 111, 109]]
def isWord (s : Bytes) : Bool := words.contains s

/-- A name, as a whole. -/
def isName (s : Bytes) : Bool :=
  match s with
  | [] => false
  | c :: _ => decide (s.length ≤ 16) && letter c && s.all inner && !isWord s

structure Tok where
  kind : Nat
  text : Bytes
  n : Nat
  line : Nat
  col : Nat
  deriving DecidableEq, Repr

/-- a place: line, column -/
def adv (p : Nat × Nat) (c : UInt8) : Nat × Nat := if c = 10 then (p.1 + 1, 1) else (p.1, p.2 + 1)
def posOf (l : Bytes) : Nat × Nat := l.foldl adv (1, 1)

/-- how many bytes stand ahead of the next token; the Bool: in a remark -/
def skipN : Bool → Bytes → Nat
  | _, [] => 0
  | true, c :: l => 1 + skipN (c != 10) l
  | false, c :: l => if c == 35 then 1 + skipN true l else if blank c then 1 + skipN false l else 0

def numAcc (n : Nat) (l : Bytes) : Nat := l.foldl (fun n c => 10 * n + (c.toNat - 48)) n
/-- digits' number -/
def number (w : Bytes) : Option Nat :=
  if (1 < w.length ∧ w.head? = some 48) ∨ 65535 < numAcc 0 w then none else some (numAcc 0 w)

/-- the token at the beginning: kind, text, number; or the error -/
def tok : Bytes → Except Nat (Nat × Bytes × Nat)
  | [] => .error 30
  | c :: l =>
    if letter c then
      let w := (c :: l).takeWhile inner
      if 16 < w.length then .error 2 else .ok (if isWord w then 2 else 1, w, 0)
    else if digit c then
      let w := (c :: l).takeWhile digit
      match number w with
      | none => .error 10
      | some n => .ok (3, w, n)
    else if c = 61 ∨ c = 43 ∨ c = 59 then .ok (4, [c], 0)
    else if c = 46 ∧ l.head? = some 46 then .ok (4, [46, 46], 0)
    else .error 30

abbrev Fault := Nat × Nat × Nat
def mkFault (e : Nat) (p : Nat × Nat) : Fault := (e, p.1, p.2)

def toks (L : Bytes) : Nat → Nat → Except Fault (List Tok)
  | 0, _ => .ok []
  | f + 1, i =>
    let a := i + skipN false (L.drop i)
    if L.length ≤ a then .ok []
    else match tok (L.drop a) with
      | .error e => .error (mkFault e (posOf (L.take a)))
      | .ok (k, w, n) => (toks L f (a + w.length)).map (⟨k, w, n, (posOf (L.take a)).1, (posOf (L.take a)).2⟩ :: ·)

/-- a text's tokens -/
def tokens (L : Bytes) : Except Fault (List Tok) :=
  if 512 < L.length then .error (2, 1, 1) else toks L (L.length + 1) 0


/-! ### laws for the walks -/

def hdIs (p : UInt8 → Bool) (l : Bytes) : Bool := match l with | [] => false | c :: _ => p c
def runN (p : UInt8 → Bool) (l : Bytes) : Nat := (l.takeWhile p).length

theorem drop_cons {L : Bytes} {i : Nat} (h : i < L.length) : L.drop i = L[i] :: L.drop (i + 1) := List.drop_eq_getElem_cons h
theorem hdIs_lt {p : UInt8 → Bool} {L : Bytes} {i : Nat} (h : i < L.length) : hdIs p (L.drop i) = p L[i] := by rw [drop_cons h]; rfl
theorem hdIs_ge {p : UInt8 → Bool} {L : Bytes} {i : Nat} (h : L.length ≤ i) : hdIs p (L.drop i) = false := by rw [List.drop_eq_nil_of_le h]; rfl
theorem lt_of_hdIs {p : UInt8 → Bool} {L : Bytes} {i : Nat} (h : hdIs p (L.drop i) = true) : i < L.length := by
  rcases Nat.lt_or_ge i L.length with h' | h'
  · exact h'
  · rw [hdIs_ge h'] at h; cases h
theorem runN_stop {p : UInt8 → Bool} {l : Bytes} (h : hdIs p l = false) : runN p l = 0 := by
  cases l with
  | nil => rfl
  | cons c l => simp only [hdIs] at h; simp [runN, h]
theorem runN_step {p : UInt8 → Bool} {L : Bytes} {i : Nat} (h : hdIs p (L.drop i) = true) : runN p (L.drop i) = 1 + runN p (L.drop (i + 1)) := by
  have hl := lt_of_hdIs h
  rw [hdIs_lt hl] at h
  rw [drop_cons hl]
  unfold runN
  rw [List.takeWhile_cons_of_pos h, List.length_cons]
  omega
theorem runN_le (p : UInt8 → Bool) (l : Bytes) : runN p l ≤ l.length := by
  unfold runN
  exact (List.takeWhile_prefix p).length_le
theorem posOf_succ {L : Bytes} {i : Nat} (h : i < L.length) : posOf (L.take (i + 1)) = adv (posOf (L.take i)) L[i] := by
  unfold posOf
  rw [List.take_succ_eq_append_getElem h, List.foldl_append]
  rfl
theorem posOf_go (l : Bytes) : ∀ (p : Nat × Nat) (n : Nat), 1 ≤ p.1 → p.1 ≤ n + 1 → p.2 ≤ n + 1 → 1 ≤ (l.foldl adv p).1 ∧ (l.foldl adv p).1 ≤ n + l.length + 1 ∧ (l.foldl adv p).2 ≤ n + l.length + 1 := by
  induction l with
  | nil => intro p n _ h1 h2; simp; omega
  | cons c l ih =>
    intro p n h0 h1 h2
    have := ih (adv p c) (n + 1) (by unfold adv; split <;> simp <;> omega) (by unfold adv; split <;> simp <;> omega) (by unfold adv; split <;> simp <;> omega)
    simp only [List.foldl_cons, List.length_cons]
    omega
theorem posOf_le (l : Bytes) : 1 ≤ (posOf l).1 ∧ (posOf l).1 ≤ l.length + 1 ∧ (posOf l).2 ≤ l.length + 1 := by
  have := posOf_go l (1, 1) 0 (by simp) (by simp) (by simp)
  unfold posOf
  omega

theorem skipN_le : ∀ (b : Bool) (l : Bytes), skipN b l ≤ l.length
  | _, [] => by simp [skipN]
  | true, c :: l => by have := skipN_le (c != 10) l; simp only [skipN, List.length_cons]; omega
  | false, c :: l => by
    have h1 := skipN_le true l
    have h2 := skipN_le false l
    simp only [skipN, List.length_cons]
    split
    · omega
    · split <;> omega
/-- a row of blanks first -/
theorem skipN_blanks : ∀ (l : Bytes), skipN false l = runN blank l + skipN false (l.drop (runN blank l))
  | [] => by simp [skipN, runN]
  | c :: l => by
    by_cases hb : blank c = true
    · have h35 : (c == 35) = false := by
        simp only [blank, Bool.or_eq_true, beq_iff_eq] at hb
        rcases hb with rfl | rfl <;> rfl
      have e1 : runN blank (c :: l) = runN blank l + 1 := by simp [runN, hb]
      rw [e1, List.drop_succ_cons]
      simp only [skipN, h35, hb, if_true, Bool.false_eq_true, if_false]
      have := skipN_blanks l
      omega
    · have e1 : runN blank (c :: l) = 0 := by simp [runN, hb]
      rw [e1]; simp
def not10 (c : UInt8) : Bool := c != 10
theorem skipN_true : ∀ (l : Bytes), skipN true l = runN not10 l + (if (l.drop (runN not10 l)).isEmpty then 0 else 1 + skipN false (l.drop (runN not10 l + 1)))
  | [] => by simp [skipN, runN]
  | c :: l => by
    by_cases hb : not10 c = true
    · have e1 : runN not10 (c :: l) = runN not10 l + 1 := by simp [runN, hb]
      have := skipN_true l
      have e2 : (c != 10) = true := hb
      rw [e1, List.drop_succ_cons, List.drop_succ_cons]
      simp only [skipN, e2]
      omega
    · have e1 : runN not10 (c :: l) = 0 := by simp [runN, hb]
      have e2 : (c != 10) = false := by simpa [not10] using hb
      rw [e1]
      simp [skipN, e2]
/-- a remark: what the program's loop does -/
theorem skipN_remark {l : Bytes} (h : hdIs (· == 35) l = true) : skipN false l = runN not10 l + skipN false (l.drop (runN not10 l)) := by
  cases l with
  | nil => cases h
  | cons c l =>
    simp only [hdIs, beq_iff_eq] at h
    subst h
    have e1 : runN not10 (35 :: l) = runN not10 l + 1 := by unfold runN; rw [List.takeWhile_cons_of_pos (by rfl), List.length_cons]
    rw [e1, List.drop_succ_cons]
    have e3 : skipN false (35 :: l) = 1 + skipN true l := by simp [skipN]
    rw [e3, skipN_true l]
    by_cases he : (l.drop (runN not10 l)).isEmpty = true
    · rw [if_pos he]
      have he' : l.drop (runN not10 l) = [] := by simpa using he
      rw [he']; simp [skipN]; omega
    · rw [if_neg he]
      have hne : l.drop (runN not10 l) ≠ [] := by simpa using he
      have hlt : runN not10 l < l.length := by
        rcases Nat.lt_or_ge (runN not10 l) l.length with h' | h'
        · exact h'
        · exact absurd (List.drop_eq_nil_of_le h') hne
      have hc : l[runN not10 l] = 10 := by
        have h2 := List.drop_eq_getElem_cons hlt
        have h3 : l.dropWhile not10 = l.drop (runN not10 l) := by
          have := List.takeWhile_append_dropWhile (p := not10) (l := l)
          have h4 := congrArg (List.drop (runN not10 l)) this
          simp only [runN, List.drop_left] at h4
          exact h4
        have h5 := List.head?_dropWhile_not not10 l
        rw [h3, h2] at h5
        simp only [List.head?_cons, not10] at h5
        simpa using h5
      rw [List.drop_eq_getElem_cons hlt, hc]
      have e4 : skipN false (10 :: l.drop (runN not10 l + 1)) = 1 + skipN false (l.drop (runN not10 l + 1)) := by simp [skipN, blank]
      rw [e4]; omega
theorem skipN_stop {l : Bytes} (h : hdIs blank l = false) (h' : hdIs (· == 35) l = false) : skipN false l = 0 := by
  cases l with
  | nil => rfl
  | cons c l => simp only [hdIs] at h h'; simp [skipN, h, h']
theorem hdIs_drop_runN (p : UInt8 → Bool) (l : Bytes) : hdIs p (l.drop (runN p l)) = false := by
  induction l with
  | nil => rfl
  | cons c l ih =>
    by_cases hb : p c = true
    · have e1 : runN p (c :: l) = runN p l + 1 := by simp [runN, hb]
      rw [e1, List.drop_succ_cons]; exact ih
    · have e1 : runN p (c :: l) = 0 := by simp [runN, hb]
      rw [e1]; simpa [hdIs] using hb

def numRet (L : Bytes) : Nat := if 1 < L.length ∧ L.head? = some 48 then 0 else min 65536 (numAcc 0 L)
theorem number_ok {L : Bytes} (h : ¬ (1 < L.length ∧ L.head? = some 48)) : (number L).isSome = decide (min 65536 (numAcc 0 L) ≤ 65535) := by
  unfold number
  by_cases h2 : 65535 < numAcc 0 L
  · rw [if_pos (Or.inr h2), decide_eq_false (by omega)]; rfl
  · rw [if_neg (by intro h3; rcases h3 with h3 | h3 <;> contradiction), decide_eq_true (by omega)]; rfl
theorem number_some {L : Bytes} {n : Nat} (h : number L = some n) : numRet L = n := by
  unfold number at h
  split at h
  · cases h
  · rename_i h2
    have h3 : ¬ (1 < L.length ∧ L.head? = some 48) := fun x => h2 (Or.inl x)
    have h4 : ¬ 65535 < numAcc 0 L := fun x => h2 (Or.inr x)
    unfold numRet
    rw [if_neg h3]
    have := Option.some.inj h
    omega
theorem numAcc_succ {L : Bytes} {k : Nat} (h : k < L.length) : numAcc 0 (L.take (k + 1)) = 10 * numAcc 0 (L.take k) + (L[k].toNat - 48) := by
  unfold numAcc
  rw [List.take_succ_eq_append_getElem h, List.foldl_append]
  rfl

theorem toks_end {L : Bytes} {f i : Nat} (hf : 0 < f) (h : L.length ≤ i + skipN false (L.drop i)) : toks L f i = .ok [] := by
  cases f with
  | zero => omega
  | succ f => simp only [toks]; rw [if_pos h]
theorem toks_err {L : Bytes} {f i er : Nat} (hf : 0 < f) (h : i + skipN false (L.drop i) < L.length) (ht : tok (L.drop (i + skipN false (L.drop i))) = .error er) :
    toks L f i = .error (mkFault er (posOf (L.take (i + skipN false (L.drop i))))) := by
  cases f with
  | zero => omega
  | succ f => simp only [toks]; rw [if_neg (by omega), ht]
def tokAt (L : Bytes) (a k : Nat) (t : Bytes) (n : Nat) : Tok := ⟨k, t, n, (posOf (L.take a)).1, (posOf (L.take a)).2⟩
theorem toks_ok {L : Bytes} {f i k n : Nat} {t : Bytes} (h : i + skipN false (L.drop i) < L.length) (ht : tok (L.drop (i + skipN false (L.drop i))) = .ok (k, t, n)) :
    toks L (f + 1) i = (toks L f (i + skipN false (L.drop i) + t.length)).map (tokAt L (i + skipN false (L.drop i)) k t n :: ·) := by
  simp only [toks]; rw [if_neg (by omega), ht]; rfl
theorem tok_pos {l : Bytes} {k n : Nat} {t : Bytes} (h : tok l = .ok (k, t, n)) : 0 < t.length := by
  unfold tok at h
  split at h
  · cases h
  · rename_i c l
    split at h
    · rename_i hl
      simp only at h
      split at h
      · cases h
      · have := Except.ok.inj h
        simp only [Prod.mk.injEq] at this
        rw [← this.2.1, List.takeWhile_cons_of_pos (by simp [inner, hl])]
        simp
    · split at h
      · rename_i hl
        simp only at h
        split at h
        · cases h
        · have := Except.ok.inj h
          simp only [Prod.mk.injEq] at this
          rw [← this.2.1, List.takeWhile_cons_of_pos hl]
          simp
      · split at h
        · have := Except.ok.inj h
          simp only [Prod.mk.injEq] at this
          rw [← this.2.1]; simp
        · split at h
          · have := Except.ok.inj h
            simp only [Prod.mk.injEq] at this
            rw [← this.2.1]; simp
          · cases h

end Go.Proofs.Ytelphkhacadfaaa.Lx
