/- The policy's reader as plain Lean: tokens, a place among them, the first fault. No program, no memory. -/
import Derived.Test.YtelphkhacadfaaaLexSpec
namespace Go.Proofs.Ytelphkhacadfaaa.Po
open Lx

structure St where
  at_ : Nat
  f : Fault

structure Who where
  any : Bool
  name : ByteArray
  n : Int
  line : Int
  col : Int
structure Box where
  x0 : Int
  y0 : Int
  x1 : Int
  y1 : Int
structure Decl where
  kind : Int
  name : ByteArray
  n : Int
  boxes : List Box
  role : Who
  lo : Int
  hi : Int
  label : Who
  place : Who
  zoom : Int
  line : Int
  col : Int

def zeroTok : Tok := ⟨0, [], 0, 0, 0⟩
def zeroWho : Who := ⟨false, ⟨#[]⟩, 0, 0, 0⟩
def txt (l : Bytes) : ByteArray := ⟨l.toArray⟩

section
variable (T : List Tok) (e : Nat × Nat)
def place (st : St) : Nat × Nat := match T[st.at_]? with | some t => (t.line, t.col) | none => e
def wrong (st : St) : St := if st.f.1 = 0 then { st with f := mkFault 31 (place T e st) } else st
def is (x : Bytes) (st : St) : Bool := st.f.1 == 0 && match T[st.at_]? with | some t => t.text == x | none => false
def kindIs (k : Nat) (st : St) : Bool := st.f.1 == 0 && match T[st.at_]? with | some t => t.kind == k | none => false
def on (st : St) : St := { st with at_ := st.at_ + 1 }
def took (x : Bytes) (st : St) : St := if is T x st then on st else st
def want (x : Bytes) (st : St) : St := if is T x st then on st else wrong T e st
def takeSt (k : Nat) (st : St) : St := if kindIs T k st then on st else wrong T e st
def takeTok (k : Nat) (st : St) : Tok := if kindIs T k st then (T[st.at_]?).getD zeroTok else zeroTok

def wAny : Bytes := [97, 110, 121]
def wAll : Bytes := [97, 108, 108]
def whoV (st : St) : Who :=
  if is T wAny st then ⟨true, ⟨#[]⟩, 0, (place T e st).1, (place T e st).2⟩
  else if kindIs T 1 st then ⟨false, txt (takeTok T 1 st).text, 0, (place T e st).1, (place T e st).2⟩
  else ⟨false, ⟨#[]⟩, (takeTok T 3 st).n, (place T e st).1, (place T e st).2⟩
def whoS (st : St) : St := if is T wAny st then on st else if kindIs T 1 st then takeSt T e 1 st else takeSt T e 3 st
def whereV (st : St) : Who :=
  if is T wAll st then ⟨true, ⟨#[]⟩, 0, (place T e st).1, (place T e st).2⟩
  else ⟨false, txt (takeTok T 1 st).text, 0, (place T e st).1, (place T e st).2⟩
def whereS (st : St) : St := if is T wAll st then on st else takeSt T e 1 st
def loV (st : St) : Nat := if is T wAny st then 0 else (takeTok T 3 st).n
def hiV (st : St) : Nat :=
  if is T wAny st then 7
  else if is T [46, 46] (takeSt T e 3 st) then (takeTok T 3 (on (takeSt T e 3 st))).n else (takeTok T 3 st).n
def tiersS (st : St) : St :=
  if is T wAny st then on st
  else if is T [46, 46] (takeSt T e 3 st) then takeSt T e 3 (on (takeSt T e 3 st)) else takeSt T e 3 st
def boxV (st : St) : Box :=
  let s1 := takeSt T e 3 st
  let s2 := takeSt T e 3 s1
  let s3 := takeSt T e 3 s2
  ⟨(takeTok T 3 st).n, (takeTok T 3 s1).n, (takeTok T 3 s2).n, (takeTok T 3 s3).n⟩
def boxS (st : St) : St := takeSt T e 3 (takeSt T e 3 (takeSt T e 3 (takeSt T e 3 st)))
def namedV (D : Decl) (st : St) : Decl := { D with name := txt (takeTok T 1 st).text, n := (takeTok T 3 (want T e [61] (takeSt T e 1 st))).n }
def namedS (st : St) : St := takeSt T e 3 (want T e [61] (takeSt T e 1 st))
def wRole : Bytes := [114, 111, 108, 101]
def wTier : Bytes := [116, 105, 101, 114]
def wLabel : Bytes := [108, 97, 98, 101, 108]
def wIn : Bytes := [105, 110]
def wZoom : Bytes := [122, 111, 111, 109]
def wRegion : Bytes := [114, 101, 103, 105, 111, 110]
def wAllow : Bytes := [97, 108, 108, 111, 119]
def wCap : Bytes := [99, 97, 112]
def wCloak : Bytes := [99, 108, 111, 97, 107]
def cloakV (D : Decl) (st : St) : Decl := { D with role := whoV T e (want T e wRole st) }
def cloakS (st : St) : St := whoS T e (want T e wRole st)
def rs1 (st : St) : St := want T e wTier (cloakS T e st)
def rs2 (st : St) : St := want T e wLabel (tiersS T e (rs1 T e st))
def rs3 (st : St) : St := want T e wIn (whoS T e (rs2 T e st))
def rs4 (st : St) : St := want T e wZoom (whereS T e (rs3 T e st))
def ruleV (D : Decl) (st : St) : Decl := { D with role := whoV T e (want T e wRole st), lo := loV T (rs1 T e st), hi := hiV T e (rs1 T e st), label := whoV T e (rs2 T e st), place := whereV T e (rs3 T e st), zoom := (takeTok T 3 (rs4 T e st)).n }
def ruleS (st : St) : St := takeSt T e 3 (rs4 T e st)
def moreV : Nat → St → List Box
  | 0, _ => []
  | f + 1, st => if is T [43] st then boxV T e (on st) :: moreV f (boxS T e (on st)) else []
def moreS : Nat → St → St
  | 0, st => st
  | f + 1, st => if is T [43] st then moreS f (boxS T e (on st)) else st
def boxesV (st : St) : List Box := boxV T e st :: moreV T e (T.length + 1) (boxS T e st)
def boxesS (st : St) : St := moreS T e (T.length + 1) (boxS T e st)
def zeroDecl : Decl := ⟨0, ⟨#[]⟩, 0, [], zeroWho, 0, 0, zeroWho, zeroWho, 0, 0, 0⟩
def regionV (D : Decl) (st : St) : Decl := { D with name := txt (takeTok T 1 st).text, boxes := boxesV T e (want T e [61] (takeSt T e 1 st)) }
def regionS (st : St) : St := boxesS T e (want T e [61] (takeSt T e 1 st))
/-- a declaration's beginning: its kind, its place -/
def declAt (st : St) (k : Int) : Decl := { zeroDecl with kind := k, line := (place T e st).1, col := (place T e st).2 }
def declV (st : St) : Decl :=
  if is T wRole st then namedV T e (declAt T e st 1) (on st)
  else if is T wLabel st then namedV T e (declAt T e st 2) (on st)
  else if is T wRegion st then regionV T e (declAt T e st 3) (on st)
  else if is T wAllow st then ruleV T e (declAt T e st 4) (on st)
  else if is T wCap st then ruleV T e (declAt T e st 5) (on st)
  else if is T wCloak st then cloakV T e (declAt T e st 6) (on st)
  else ruleV T e (declAt T e st 0) (wrong T e st)
def declS (st : St) : St := want T e [59] (
  if is T wRole st then namedS T e (on st)
  else if is T wLabel st then namedS T e (on st)
  else if is T wRegion st then regionS T e (on st)
  else if is T wAllow st then ruleS T e (on st)
  else if is T wCap st then ruleS T e (on st)
  else if is T wCloak st then cloakS T e (on st)
  else ruleS T e (wrong T e st))
/-- the declarations of all tokens, as long as there is no fault -/
def parseV : Nat → St → List Decl
  | 0, _ => []
  | f + 1, st => if st.at_ < T.length ∧ st.f.1 = 0 then declV T e st :: parseV f (declS T e st) else []
def parseS : Nat → St → St
  | 0, st => st
  | f + 1, st => if st.at_ < T.length ∧ st.f.1 = 0 then parseS f (declS T e st) else st
end

/-- behind so many numbers -/
def nth (T : List Tok) (e : Nat × Nat) (st : St) : Nat → St
  | 0 => st
  | k + 1 => takeSt T e 3 (nth T e st k)
def num (T : List Tok) (e : Nat × Nat) (st : St) (k : Nat) : Nat := (takeTok T 3 (nth T e st k)).n
def upto (T : List Tok) (e : Nat × Nat) (st : St) (k j : Nat) : Nat := if j < k then num T e st j else 0
theorem takeSt_le (T : List Tok) (e : Nat × Nat) (k : Nat) (st : St) : st.at_ ≤ (takeSt T e k st).at_ := by
  unfold takeSt
  split
  · show st.at_ ≤ st.at_ + 1; omega
  · unfold wrong
    split
    · exact Nat.le_refl _
    · exact Nat.le_refl _
theorem boxS_le (T : List Tok) (e : Nat × Nat) (st : St) : st.at_ ≤ (boxS T e st).at_ := by
  unfold boxS
  have h1 := takeSt_le T e 3 st
  have h2 := takeSt_le T e 3 (takeSt T e 3 st)
  have h3 := takeSt_le T e 3 (takeSt T e 3 (takeSt T e 3 st))
  have h4 := takeSt_le T e 3 (takeSt T e 3 (takeSt T e 3 (takeSt T e 3 st)))
  omega
theorem lt_of_is {T : List Tok} {x : Bytes} {st : St} (h : is T x st = true) : st.at_ < T.length := by
  rcases Nat.lt_or_ge st.at_ T.length with h1 | h1
  · exact h1
  · unfold is at h; rw [List.getElem?_eq_none h1] at h; simp at h
theorem took_on {T : List Tok} {x : Bytes} {st : St} (h : is T x st = true) : took T x st = on st := by unfold took; rw [if_pos h]
theorem took_not {T : List Tok} {x : Bytes} {st : St} (h : is T x st = false) : took T x st = st := by unfold took; rw [if_neg (by rw [h]; decide)]
theorem want_on {T : List Tok} {e : Nat × Nat} {x : Bytes} {st : St} (h : is T x st = true) : want T e x st = on st := by unfold want; rw [if_pos h]
theorem want_not {T : List Tok} {e : Nat × Nat} {x : Bytes} {st : St} (h : is T x st = false) : want T e x st = wrong T e st := by unfold want; rw [if_neg (by rw [h]; decide)]
theorem takeSt_on {T : List Tok} {e : Nat × Nat} {k : Nat} {st : St} (h : kindIs T k st = true) : takeSt T e k st = on st := by unfold takeSt; rw [if_pos h]
theorem takeSt_not {T : List Tok} {e : Nat × Nat} {k : Nat} {st : St} (h : kindIs T k st = false) : takeSt T e k st = wrong T e st := by unfold takeSt; rw [if_neg (by rw [h]; decide)]
theorem takeTok_on {T : List Tok} {k : Nat} {st : St} {t : Tok} (h : kindIs T k st = true) (ht : T[st.at_]? = some t) : takeTok T k st = t := by unfold takeTok; rw [if_pos h, ht]; rfl
theorem takeTok_not {T : List Tok} {k : Nat} {st : St} (h : kindIs T k st = false) : takeTok T k st = zeroTok := by unfold takeTok; rw [if_neg (by rw [h]; decide)]
theorem lt_of_kindIs {T : List Tok} {k : Nat} {st : St} (h : kindIs T k st = true) : st.at_ < T.length := by
  rcases Nat.lt_or_ge st.at_ T.length with h1 | h1
  · exact h1
  · unfold kindIs at h; rw [List.getElem?_eq_none h1] at h; simp at h

/-- boxes so far, and what is still to be read -/
structure Boxing (T : List Tok) (e : Nat × Nat) (st0 : St) (f : Nat) (bs : List Box) (st : St) : Prop where
  val : boxesV T e st0 = bs ++ moreV T e f st
  state : boxesS T e st0 = moreS T e f st
  fuel : T.length < f + st.at_
  len : bs.length + f = T.length + 2
theorem Boxing.begin (T : List Tok) (e : Nat × Nat) (st : St) : Boxing T e st (T.length + 1) [boxV T e st] (boxS T e st) := ⟨rfl, rfl, by omega, by simp; omega⟩
theorem Boxing.pos {T : List Tok} {e : Nat × Nat} {st0 st : St} {f : Nat} {bs : List Box} (h : Boxing T e st0 f bs st) (hi : is T [43] st = true) : 0 < f := by
  have h1 := lt_of_is hi
  have := h.fuel
  omega
theorem Boxing.step {T : List Tok} {e : Nat × Nat} {st0 st : St} {f : Nat} {bs : List Box} (h : Boxing T e st0 (f + 1) bs st) (hi : is T [43] st = true) : Boxing T e st0 f (bs ++ [boxV T e (on st)]) (boxS T e (on st)) := by
  refine ⟨?_, ?_, ?_, ?_⟩
  · rw [h.val, moreV, if_pos hi]; simp
  · rw [h.state, moreS, if_pos hi]
  · have h1 := h.fuel
    have h2 := boxS_le T e (on st)
    have h3 : (on st).at_ = st.at_ + 1 := rfl
    omega
  · have := h.len; simp; omega
theorem Boxing.stop {T : List Tok} {e : Nat × Nat} {st0 st : St} {f : Nat} {bs : List Box} (h : Boxing T e st0 f bs st) (hi : is T [43] st = false) : boxesV T e st0 = bs ∧ boxesS T e st0 = st := by
  have h1 := h.val
  have h2 := h.state
  cases f with
  | zero => rw [moreV, List.append_nil] at h1; rw [moreS] at h2; exact ⟨h1, h2⟩
  | succ f => rw [moreV, if_neg (by rw [hi]; decide), List.append_nil] at h1; rw [moreS, if_neg (by rw [hi]; decide)] at h2; exact ⟨h1, h2⟩

end Go.Proofs.Ytelphkhacadfaaa.Po
