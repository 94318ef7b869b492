/-
  The policy's reader as plain Lean: tokens, a place among them, the first fault. No program, no memory.
  The rules (chapter 12) as plain Lean: what may be, who sees how near, what a policy's declarations come to. No program, no memory.
  The walks of geom that the tree of points reaches.
  The walks of cell: a point's cell, a cell's box.
-/
import Derived.Test.YteddkgpnklfppaaPk02

namespace Go.Proofs.Yteddkgpnklfppaa.Po
open Lx

structure St where
  at_ : Nat
  f : Fault

structure Who where
  any : Bool
  name : ByteArray
  n : Int
  line : Int
  col : Int
structure Box where
  x0 : Int
  y0 : Int
  x1 : Int
  y1 : Int
structure Decl where
  kind : Int
  name : ByteArray
  n : Int
  boxes : List Box
  role : Who
  lo : Int
  hi : Int
  label : Who
  place : Who
  zoom : Int
  line : Int
  col : Int

def zeroTok : Tok := ⟨0, [], 0, 0, 0⟩
def zeroWho : Who := ⟨false, ⟨#[]⟩, 0, 0, 0⟩
def txt (l : Bytes) : ByteArray := ⟨l.toArray⟩

section
variable (T : List Tok) (e : Nat × Nat)
def place (st : St) : Nat × Nat := match T[st.at_]? with | some t => (t.line, t.col) | none => e
def wrong (st : St) : St := if st.f.1 = 0 then { st with f := mkFault 31 (place T e st) } else st
def is (x : Bytes) (st : St) : Bool := st.f.1 == 0 && match T[st.at_]? with | some t => t.text == x | none => false
def kindIs (k : Nat) (st : St) : Bool := st.f.1 == 0 && match T[st.at_]? with | some t => t.kind == k | none => false
def on (st : St) : St := { st with at_ := st.at_ + 1 }
def took (x : Bytes) (st : St) : St := if is T x st then on st else st
def want (x : Bytes) (st : St) : St := if is T x st then on st else wrong T e st
def takeSt (k : Nat) (st : St) : St := if kindIs T k st then on st else wrong T e st
def takeTok (k : Nat) (st : St) : Tok := if kindIs T k st then (T[st.at_]?).getD zeroTok else zeroTok

def wAny : Bytes := [97, 110, 121]
def wAll : Bytes := [97, 108, 108]
def whoV (st : St) : Who :=
  if is T wAny st then ⟨true, ⟨#[]⟩, 0, (place T e st).1, (place T e st).2⟩
  else if kindIs T 1 st then ⟨false, txt (takeTok T 1 st).text, 0, (place T e st).1, (place T e st).2⟩
  else ⟨false, ⟨#[]⟩, (takeTok T 3 st).n, (place T e st).1, (place T e st).2⟩
def whoS (st : St) : St := if is T wAny st then on st else if kindIs T 1 st then takeSt T e 1 st else takeSt T e 3 st
def whereV (st : St) : Who :=
  if is T wAll st then ⟨true, ⟨#[]⟩, 0, (place T e st).1, (place T e st).2⟩
  else ⟨false, txt (takeTok T 1 st).text, 0, (place T e st).1, (place T e st).2⟩
def whereS (st : St) : St := if is T wAll st then on st else takeSt T e 1 st
def loV (st : St) : Nat := if is T wAny st then 0 else (takeTok T 3 st).n
def hiV (st : St) : Nat :=
  if is T wAny st then 7
  else if is T [46, 46] (takeSt T e 3 st) then (takeTok T 3 (on (takeSt T e 3 st))).n else (takeTok T 3 st).n
def tiersS (st : St) : St :=
  if is T wAny st then on st
  else if is T [46, 46] (takeSt T e 3 st) then takeSt T e 3 (on (takeSt T e 3 st)) else takeSt T e 3 st
def boxV (st : St) : Box :=
  let s1 := takeSt T e 3 st
  let s2 := takeSt T e 3 s1
  let s3 := takeSt T e 3 s2
  ⟨(takeTok T 3 st).n, (takeTok T 3 s1).n, (takeTok T 3 s2).n, (takeTok T 3 s3).n⟩
def boxS (st : St) : St := takeSt T e 3 (takeSt T e 3 (takeSt T e 3 (takeSt T e 3 st)))
def namedV (D : Decl) (st : St) : Decl := { D with name := txt (takeTok T 1 st).text, n := (takeTok T 3 (want T e [61] (takeSt T e 1 st))).n }
def namedS (st : St) : St := takeSt T e 3 (want T e [61] (takeSt T e 1 st))
def wRole : Bytes := [114, 111, 108, 101]
def wTier : Bytes := [116, 105, 101, 114]
def wLabel : Bytes := [108, 97, 98, 101, 108]
def wIn : Bytes := [105, 110]
def wZoom : Bytes := [122, 111, 111, 109]
def wRegion : Bytes := [114, 101, 103, 105, 111, 110]
def wAllow : Bytes := [97, 108, 108, 111, 119]
def wCap : Bytes := [99, 97, 112]
def wCloak : Bytes := [99, 108, 111, 97, 107]
def cloakV (D : Decl) (st : St) : Decl := { D with role := whoV T e (want T e wRole st) }
def cloakS (st : St) : St := whoS T e (want T e wRole st)
def rs1 (st : St) : St := want T e wTier (cloakS T e st)
def rs2 (st : St) : St := want T e wLabel (tiersS T e (rs1 T e st))
def rs3 (st : St) : St := want T e wIn (whoS T e (rs2 T e st))
def rs4 (st : St) : St := want T e wZoom (whereS T e (rs3 T e st))
def ruleV (D : Decl) (st : St) : Decl := { D with role := whoV T e (want T e wRole st), lo := loV T (rs1 T e st), hi := hiV T e (rs1 T e st), label := whoV T e (rs2 T e st), place := whereV T e (rs3 T e st), zoom := (takeTok T 3 (rs4 T e st)).n }
def ruleS (st : St) : St := takeSt T e 3 (rs4 T e st)
def moreV : Nat → St → List Box
  | 0, _ => []
  | f + 1, st => if is T [43] st then boxV T e (on st) :: moreV f (boxS T e (on st)) else []
def moreS : Nat → St → St
  | 0, st => st
  | f + 1, st => if is T [43] st then moreS f (boxS T e (on st)) else st
def boxesV (st : St) : List Box := boxV T e st :: moreV T e (T.length + 1) (boxS T e st)
def boxesS (st : St) : St := moreS T e (T.length + 1) (boxS T e st)
def zeroDecl : Decl := ⟨0, ⟨#[]⟩, 0, [], zeroWho, 0, 0, zeroWho, zeroWho, 0, 0, 0⟩
def regionV (D : Decl) (st : St) : Decl := { D with name := txt (takeTok T 1 st).text, boxes := boxesV T e (want T e [61] (takeSt T e 1 st)) }
def regionS (st : St) : St := boxesS T e (want T e [61] (takeSt T e 1 st))
/-- a declaration's beginning: its kind, its place -/
def declAt (st : St) (k : Int) : Decl := { zeroDecl with kind := k, line := (place T e st).1, col := (place T e st).2 }
def declV (st : St) : Decl :=
  if is T wRole st then namedV T e (declAt T e st 1) (on st)
  else if is T wLabel st then namedV T e (declAt T e st 2) (on st)
  else if is T wRegion st then regionV T e (declAt T e st 3) (on st)
  else if is T wAllow st then ruleV T e (declAt T e st 4) (on st)
  else if is T wCap st then ruleV T e (declAt T e st 5) (on st)
  else if is T wCloak st then cloakV T e (declAt T e st 6) (on st)
  else ruleV T e (declAt T e st 0) (wrong T e st)
def declS (st : St) : St := want T e [59] (
  if is T wRole st then namedS T e (on st)
  else if is T wLabel st then namedS T e (on st)
  else if is T wRegion st then regionS T e (on st)
  else if is T wAllow st then ruleS T e (on st)
  else if is T wCap st then ruleS T e (on st)
  else if is T wCloak st then cloakS T e (on st)
  else ruleS T e (wrong T e st))
/-- the declarations of all tokens, as long as there is no fault -/
def parseV : Nat → St → List Decl
  | 0, _ => []
  | f + 1, st => if st.at_ < T.length ∧ st.f.1 = 0 then declV T e st :: parseV f (declS T e st) else []
def parseS : Nat → St → St
  | 0, st => st
  | f + 1, st => if st.at_ < T.length ∧ st.f.1 = 0 then parseS f (declS T e st) else st
end

/-- behind so many numbers -/
def nth (T : List Tok) (e : Nat × Nat) (st : St) : Nat → St
  | 0 => st
  | k + 1 => takeSt T e 3 (nth T e st k)
def num (T : List Tok) (e : Nat × Nat) (st : St) (k : Nat) : Nat := (takeTok T 3 (nth T e st k)).n
def upto (T : List Tok) (e : Nat × Nat) (st : St) (k j : Nat) : Nat := if j < k then num T e st j else 0
theorem takeSt_le (T : List Tok) (e : Nat × Nat) (k : Nat) (st : St) : st.at_ ≤ (takeSt T e k st).at_ := by
  unfold takeSt
  split
  · show st.at_ ≤ st.at_ + 1; omega
  · unfold wrong
    split
    · exact Nat.le_refl _
    · exact Nat.le_refl _
theorem boxS_le (T : List Tok) (e : Nat × Nat) (st : St) : st.at_ ≤ (boxS T e st).at_ := by
  unfold boxS
  have h1 := takeSt_le T e 3 st
  have h2 := takeSt_le T e 3 (takeSt T e 3 st)
  have h3 := takeSt_le T e 3 (takeSt T e 3 (takeSt T e 3 st))
  have h4 := takeSt_le T e 3 (takeSt T e 3 (takeSt T e 3 (takeSt T e 3 st)))
  omega
theorem lt_of_is {T : List Tok} {x : Bytes} {st : St} (h : is T x st = true) : st.at_ < T.length := by
  rcases Nat.lt_or_ge st.at_ T.length with h1 | h1
  · exact h1
  · unfold is at h; rw [List.getElem?_eq_none h1] at h; simp at h
theorem took_on {T : List Tok} {x : Bytes} {st : St} (h : is T x st = true) : took T x st = on st := by unfold took; rw [if_pos h]
theorem took_not {T : List Tok} {x : Bytes} {st : St} (h : is T x st = false) : took T x st = st := by unfold took; rw [if_neg (by rw [h]; decide)]
theorem want_on {T : List Tok} {e : Nat × Nat} {x : Bytes} {st : St} (h : is T x st = true) : want T e x st = on st := by unfold want; rw [if_pos h]
theorem want_not {T : List Tok} {e : Nat × Nat} {x : Bytes} {st : St} (h : is T x st = false) : want T e x st = wrong T e st := by unfold want; rw [if_neg (by rw [h]; decide)]
theorem takeSt_on {T : List Tok} {e : Nat × Nat} {k : Nat} {st : St} (h : kindIs T k st = true) : takeSt T e k st = on st := by unfold takeSt; rw [if_pos h]
theorem takeSt_not {T : List Tok} {e : Nat × Nat} {k : Nat} {st : St} (h : kindIs T k st = false) : takeSt T e k st = wrong T e st := by unfold takeSt; rw [if_neg (by rw [h]; decide)]
theorem takeTok_on {T : List Tok} {k : Nat} {st : St} {t : Tok} (h : kindIs T k st = true) (ht : T[st.at_]? = some t) : takeTok T k st = t := by unfold takeTok; rw [if_pos h, ht]; rfl
theorem takeTok_not {T : List Tok} {k : Nat} {st : St} (h : kindIs T k st = false) : takeTok T k st = zeroTok := by unfold takeTok; rw [if_neg (by rw [h]; decide)]
theorem lt_of_kindIs {T : List Tok} {k : Nat} {st : St} (h : kindIs T k st = true) : st.at_ < T.length := by
  rcases Nat.lt_or_ge st.at_ T.length with h1 | h1
  · exact h1
  · unfold kindIs at h; rw [List.getElem?_eq_none h1] at h; simp at h

/-- boxes so far, and what is still to be read -/
structure Boxing (T : List Tok) (e : Nat × Nat) (st0 : St) (f : Nat) (bs : List Box) (st : St) : Prop where
  val : boxesV T e st0 = bs ++ moreV T e f st
  state : boxesS T e st0 = moreS T e f st
  fuel : T.length < f + st.at_
  len : bs.length + f = T.length + 2
theorem Boxing.begin (T : List Tok) (e : Nat × Nat) (st : St) : Boxing T e st (T.length + 1) [boxV T e st] (boxS T e st) := ⟨rfl, rfl, by omega, by simp; omega⟩
theorem Boxing.pos {T : List Tok} {e : Nat × Nat} {st0 st : St} {f : Nat} {bs : List Box} (h : Boxing T e st0 f bs st) (hi : is T [43] st = true) : 0 < f := by
  have h1 := lt_of_is hi
  have := h.fuel
  omega
theorem Boxing.step {T : List Tok} {e : Nat × Nat} {st0 st : St} {f : Nat} {bs : List Box} (h : Boxing T e st0 (f + 1) bs st) (hi : is T [43] st = true) : Boxing T e st0 f (bs ++ [boxV T e (on st)]) (boxS T e (on st)) := by
  refine ⟨?_, ?_, ?_, ?_⟩
  · rw [h.val, moreV, if_pos hi]; simp
  · rw [h.state, moreS, if_pos hi]
  · have h1 := h.fuel
    have h2 := boxS_le T e (on st)
    have h3 : (on st).at_ = st.at_ + 1 := rfl
    omega
  · have := h.len; simp; omega
theorem Boxing.stop {T : List Tok} {e : Nat × Nat} {st0 st : St} {f : Nat} {bs : List Box} (h : Boxing T e st0 f bs st) (hi : is T [43] st = false) : boxesV T e st0 = bs ∧ boxesS T e st0 = st := by
  have h1 := h.val
  have h2 := h.state
  cases f with
  | zero => rw [moreV, List.append_nil] at h1; rw [moreS] at h2; exact ⟨h1, h2⟩
  | succ f => rw [moreV, if_neg (by rw [hi]; decide), List.append_nil] at h1; rw [moreS, if_neg (by rw [hi]; decide)] at h2; exact ⟨h1, h2⟩

end Go.Proofs.Yteddkgpnklfppaa.Po

namespace Go.Proofs.Yteddkgpnklfppaa.Ru
open Po (Box Who Decl)

structure Rule where
  kind : Int
  roles : Int
  lo : Int
  hi : Int
  labels : Int
  boxes : List Box
  zoom : Int

def inside (n : Int) : Bool := decide (0 ≤ n) && decide (n ≤ 65535)
def fits (x y : Int) : Bool := inside x && inside y
def boxR (b : Box) : Bool := (fits b.x0 b.y0 && fits b.x1 b.y1) && decide (b.x0 ≤ b.x1) && decide (b.y0 ≤ b.y1)
def boxHas (b : Box) (x y : Int) : Bool := boxR b && fits x y && (decide (b.x0 ≤ x) && decide (x ≤ b.x1) && decide (b.y0 ≤ y) && decide (y ≤ b.y1))
def small (n m : Int) : Bool := decide (0 ≤ n) && decide (n ≤ m)
def boxesR (l : List Box) : Bool := l.all boxR
def ruleR (r : Rule) : Bool :=
  if r.kind = 6 then small r.roles 255 && r.lo == 0 && r.hi == 0 && r.labels == 0 && ((r.boxes.length : Int) == 0) && r.zoom == 0
  else if r.kind = 4 ∨ r.kind = 5 then small r.roles 255 && decide (0 ≤ r.lo) && decide (r.lo ≤ r.hi) && decide (r.hi ≤ 7) && small r.labels 255 && boxesR r.boxes && small r.zoom 16
  else false
def rulesR (l : List Rule) : Bool := l.all ruleR
/-- is n one of a sum's? -/
def inSum (sum n : Int) : Bool := sum.toNat / 2 ^ n.toNat % 2 == 1
def numbers3 (role tier label : Int) : Bool := small role 7 && small tier 7 && small label 7
def forR (r : Rule) (role tier label : Int) : Bool :=
  ruleR r && r.kind != 6 && numbers3 role tier label && inSum r.roles role && decide (r.lo ≤ tier) && decide (tier ≤ r.hi) && inSum r.labels label
def hasB (l : List Box) (x y : Int) : Bool := l.any fun b => boxHas b x y
def zoomStep (role tier label x y : Int) (p : Int × Int) (r : Rule) : Int × Int :=
  if forR r role tier label && hasB r.boxes x y then (if r.kind = 4 then (max p.1 r.zoom, p.2) else (p.1, min p.2 r.zoom)) else p
def zoomV (l : List Rule) (role tier label x y : Int) : Int :=
  if rulesR l then (let p := l.foldl (zoomStep role tier label x y) (0, 16); min p.1 p.2) else 0
def cloaksV (l : List Rule) (role : Int) : Bool := rulesR l && small role 7 && l.any fun r => r.kind == 6 && inSum r.roles role

/-! ### the reference's -/
def rruleR (r : Rule) : Bool :=
  r.boxes.all boxR && (if r.kind = 6 then small r.roles 255 && r.lo == 0 && r.hi == 0 && r.labels == 0 && ((r.boxes.length : Int) == 0) && r.zoom == 0
  else (r.kind == 4 || r.kind == 5) && small r.roles 255 && small r.labels 255 && decide (0 ≤ r.lo) && decide (r.lo ≤ r.hi) && decide (r.hi ≤ 7) && decide (0 ≤ r.zoom) && decide (r.zoom ≤ 16))
def rforR (r : Rule) (role tier label : Int) : Bool :=
  rruleR r && decide (r.kind < 6) && small role 7 && small tier 7 && small label 7 && inSum r.roles role && decide (r.lo ≤ tier) && decide (tier ≤ r.hi) && inSum r.labels label
def rfor2 (r : Rule) (role tier label x y : Int) : Bool := rforR r role tier label && fits x y && r.boxes.any fun b => boxHas b x y
def rstepA (role tier label x y : Int) (z : Int) (r : Rule) : Int := if r.kind == 4 && decide (z < r.zoom) && rfor2 r role tier label x y then r.zoom else z
def rstepC (role tier label x y : Int) (z : Int) (r : Rule) : Int := if r.kind == 5 && decide (r.zoom < z) && rfor2 r role tier label x y then r.zoom else z
def rzoomV (l : List Rule) (role tier label x y : Int) : Int :=
  if l.all rruleR then l.foldl (rstepC role tier label x y) (l.foldl (rstepA role tier label x y) 0) else 0
def rcloaksV (l : List Rule) (role : Int) : Bool := (l.any fun r => r.kind == 6 && small role 7 && inSum r.roles role) && l.all rruleR

/-! ### what declarations come to -/
def declared (l : List Decl) (k : Int) (nm : ByteArray) : Option Decl := l.find? fun d => d.kind == k && d.name == nm
abbrev F3 := Int × Int × Int
structure Ck where
  rules : List Rule
  boxes : Int
  f : F3
def Ck.wrong (c : Ck) (e l k : Int) : Ck := if c.f.1 = 0 then { c with f := (e, l, k) } else c
def Ck.wrongIf (c : Ck) (e l k : Int) : Ck := if e = 0 then c else c.wrong e l k
def whoN (ahead : List Decl) (k : Int) (w : Who) : Int :=
  if w.name.data.toList = [] then w.n else match declared ahead k w.name with | some d => d.n | none => 0
/-- a who's sum; its error -/
def setN (ahead : List Decl) (k : Int) (w : Who) : Int := if w.any then 255 else if 7 < whoN ahead k w then 0 else 2 ^ (whoN ahead k w).toNat
def setE (ahead : List Decl) (k : Int) (w : Who) : Int :=
  if w.any then 0 else if w.name.data.toList ≠ [] ∧ declared ahead k w.name = none then 21 else if 7 < whoN ahead k w then 33 else 0
def grid : Box := ⟨0, 0, 65535, 65535⟩
def whereB (ahead : List Decl) (w : Who) : List Box := if w.any then [grid] else match declared ahead 3 w.name with | some d => d.boxes | none => []
def whereE (ahead : List Decl) (w : Who) : Int := if w.any then 0 else match declared ahead 3 w.name with | some _ => 0 | none => 21
def ckLong (c : Ck) (d : Decl) : Ck := if c.rules.length = 32 then c.wrong 2 d.line d.col else c
def ckRole (ahead : List Decl) (c : Ck) (d : Decl) : Ck := (ckLong c d).wrongIf (setE ahead 1 d.role) d.role.line d.role.col
def ckTier (ahead : List Decl) (c : Ck) (d : Decl) : Ck := if d.hi < d.lo ∨ 7 < d.hi then (ckRole ahead c d).wrong 33 d.line d.col else ckRole ahead c d
def ckLabel (ahead : List Decl) (c : Ck) (d : Decl) : Ck := (ckTier ahead c d).wrongIf (setE ahead 2 d.label) d.label.line d.label.col
def ckWhere (ahead : List Decl) (c : Ck) (d : Decl) : Ck := (ckLabel ahead c d).wrongIf (whereE ahead d.place) d.place.line d.place.col
def ckMore (ahead : List Decl) (c : Ck) (d : Decl) : Ck := { ckWhere ahead c d with boxes := c.boxes + (whereB ahead d.place).length }
def ckBoxes (ahead : List Decl) (c : Ck) (d : Decl) : Ck := if 32 < (ckMore ahead c d).boxes then (ckMore ahead c d).wrong 2 d.line d.col else ckMore ahead c d
def ckZoom (ahead : List Decl) (c : Ck) (d : Decl) : Ck := if 16 < d.zoom then (ckBoxes ahead c d).wrong 33 d.line d.col else ckBoxes ahead c d
def ckCloak (ahead : List Decl) (c : Ck) (d : Decl) : Ck := { ckRole ahead c d with rules := c.rules ++ [⟨d.kind, setN ahead 1 d.role, 0, 0, 0, [], 0⟩] }
def ckRuleOf (ahead : List Decl) (d : Decl) : Rule := ⟨d.kind, setN ahead 1 d.role, d.lo, d.hi, setN ahead 2 d.label, whereB ahead d.place, d.zoom⟩
def ckRule (ahead : List Decl) (c : Ck) (d : Decl) : Ck :=
  if d.kind = 6 then ckCloak ahead c d else { ckZoom ahead c d with rules := c.rules ++ [ckRuleOf ahead d] }
def ckNumber (ahead : List Decl) (c : Ck) (d : Decl) : Ck :=
  if (declared ahead d.kind d.name).isSome then c.wrong 20 d.line d.col else if 7 < d.n then c.wrong 33 d.line d.col else c
def ckRegion (ahead : List Decl) (c : Ck) (d : Decl) : Ck :=
  if (declared ahead 3 d.name).isSome then c.wrong 20 d.line d.col else if boxesR d.boxes then c else c.wrong 33 d.line d.col
def ckDecl (ahead : List Decl) (c : Ck) (d : Decl) : Ck :=
  if d.kind = 1 ∨ d.kind = 2 then ckNumber ahead c d else if d.kind = 3 then ckRegion ahead c d else ckRule ahead c d
def ckRun : List Decl → List Decl → Ck → Except F3 (List Rule)
  | _, [], c => .ok c.rules
  | a, d :: r, c => if (ckDecl a c d).f.1 = 0 then ckRun (a ++ [d]) r (ckDecl a c d) else .error (ckDecl a c d).f

/-! ### what a declaration may be -/
def num (n : Int) : Bool := decide (0 ≤ n) && decide (n ≤ 65535)
def zeroW (w : Who) : Bool := !w.any && w.name.data.toList == [] && w.n == 0
def rightW (w : Who) : Bool := if w.any then w.name.data.toList == [] && w.n == 0 else if w.name.data.toList == [] then num w.n else w.n == 0 && Lx.isName w.name.data.toList
def placeW (w : Who) : Bool := rightW w && (w.any || w.name.data.toList != [])
def ruleD (d : Decl) : Bool := rightW d.role && (num d.lo && num d.hi && num d.zoom) && rightW d.label && placeW d.place
def noRule (d : Decl) : Bool := d.lo == 0 && d.hi == 0 && d.zoom == 0 && zeroW d.label && zeroW d.place
def noName (d : Decl) : Bool := d.name.data.toList == [] && d.n == 0 && ((d.boxes.length : Int) == 0)
def boxN (b : Box) : Bool := num b.x0 && num b.y0 && num b.x1 && num b.y1
def boxesN (l : List Box) : Bool := l.all boxN && decide ((0 : Int) < l.length)
def may (d : Decl) : Bool :=
  if d.kind = 1 ∨ d.kind = 2 then Lx.isName d.name.data.toList && num d.n && ((d.boxes.length : Int) == 0) && zeroW d.role && noRule d
  else if d.kind = 3 then Lx.isName d.name.data.toList && d.n == 0 && boxesN d.boxes && zeroW d.role && noRule d
  else if d.kind = 4 ∨ d.kind = 5 then noName d && ruleD d
  else if d.kind = 6 then noName d && rightW d.role && noRule d
  else false
def checkV (l : List Decl) : Except F3 (List Rule) := if l.all may then ckRun [] l ⟨[], 0, (0, 0, 0)⟩ else .error (1, 0, 0)

end Go.Proofs.Yteddkgpnklfppaa.Ru

namespace Go.Proofs.Yteddkgpnklfppaa
open Go.RowKit Go.Sort

def rectV (b : Po.Box) : Value := .agg #[.int .i64 b.x0, .int .i64 b.y0, .int .i64 b.x1, .int .i64 b.y1]
def boxHas0 (b : Po.Box) (x y : Int) : Bool := decide (b.x0 ≤ x) && decide (x ≤ b.x1) && decide (b.y0 ≤ y) && decide (y ≤ b.y1)
theorem Blk.tfour {w : World} {b : Nat} {x y z u : Value} {t : TypeId} (h : Blk w b #[x, y, z, u] t) : w.cell? ⟨b, 0, none⟩ = some x ∧ w.cell? ⟨b, 1, none⟩ = some y ∧ w.cell? ⟨b, 2, none⟩ = some z ∧ w.cell? ⟨b, 3, none⟩ = some u ∧ (∀ o, w.frozen? ⟨b, o, none⟩ = false) ∧ b < w.heap.size :=
  ⟨h.cell 0 rfl, h.cell 1 rfl, h.cell 2 rfl, h.cell 3 rfl, h.free, h.lt⟩
theorem tfits_any (x y : Int) (w : World) : Calls Try.prog 23 #[pointV x y] w fun e w' => e = .returned (.bool (Ru.fits x y)) ∧ Below w.heap.size w w' := by
  unfold pointV
  go_enter Try.func23, Try.ntmps23
  go_wp2
  all_goals
    go_ret
    exact ⟨ret_bool (by unfold Ru.fits Ru.inside; first | (simp_all; done) | (simp_all; omega)), balloc _ _⟩
theorem tlow_any (b : Po.Box) (w : World) : Calls Try.prog 54 #[rectV b] w fun e w' => e = .returned (pointV b.x0 b.y0) ∧ Below w.heap.size w w' := by
  obtain ⟨x0, y0, x1, y1⟩ := b
  unfold pointV rectV
  go_enter Try.func54, Try.ntmps54
  go_wp2
  exact bodyPost_ret (v := .agg #[.int .i64 x0, .int .i64 y0]) (by simp [results, Try.results54, go_sem]) rfl ⟨rfl, bthen (balloc w _) (balloc _ _)⟩
theorem thigh_any (b : Po.Box) (w : World) : Calls Try.prog 55 #[rectV b] w fun e w' => e = .returned (pointV b.x1 b.y1) ∧ Below w.heap.size w w' := by
  obtain ⟨x0, y0, x1, y1⟩ := b
  unfold pointV rectV
  go_enter Try.func55, Try.ntmps55
  go_wp2
  exact bodyPost_ret (v := .agg #[.int .i64 x1, .int .i64 y1]) (by simp [results, Try.results55, go_sem]) rfl ⟨rfl, bthen (balloc w _) (balloc _ _)⟩
theorem tboxhas_any (b : Po.Box) (x y : Int) (w : World) : Calls Try.prog 56 #[rectV b, pointV x y] w fun e w' => e = .returned (.bool (boxHas0 b x y)) ∧ Below w.heap.size w w' := by
  unfold boxHas0
  obtain ⟨x0, y0, x1, y1⟩ := b
  unfold pointV rectV
  go_enter Try.func56, Try.ntmps56
  go_wp2
  all_goals
    go_ret
    exact ⟨ret_bool (by first | (simp_all; done) | (simp_all; omega)), bthen (balloc w _) (balloc _ _)⟩
theorem tboth_any (b : Po.Box) (w : World) : Calls Try.prog 41 #[rectV b, .func (.func 23) #[] #[]] w fun e w' => e = .returned (.bool (Ru.fits b.x0 b.y0 && Ru.fits b.x1 b.y1)) ∧ Below w.heap.size w w' := by
  have hen : ∀ (args : Array Value) (w : World), Sem.run Try.prog (callFunc 23 args) w = .ok (.enter 23 args) w := fun _ _ => by kernel_rfl
  have hl := hid (tlow_any b)
  have hh := hid (thigh_any b)
  have hf1 := hid (tfits_any b.x0 b.y0)
  have hf2 := hid (tfits_any b.x1 b.y1)
  have B0 := hid (Blk.new w #[.int .i64 b.x0, .int .i64 b.y0, .int .i64 b.x1, .int .i64 b.y1] 92)
  have Q0 := hid (balloc w (.cells #[.int .i64 b.x0, .int .i64 b.y0, .int .i64 b.x1, .int .i64 b.y1] 92))
  obtain ⟨x0, y0, x1, y1⟩ := b
  simp only at hl hh hf1 hf2 B0 Q0
  unfold rectV at *
  go_enter Try.func41, Try.ntmps41
  go_wp2_with fail
  refine (hl.out _).mono ?_
  rintro e w1 ⟨rfl, hb1⟩
  have B1 := hid (B0.out.ext hb1)
  have Q1 := hid (bthen Q0.out hb1)
  go_wp2_with fail
  refine (hf1.out _).mono ?_
  rintro e w2 ⟨rfl, hb2⟩
  have B2 := hid (B1.out.ext hb2)
  have Q2 := hid (bthen Q1.out hb2)
  obtain ⟨c0, c1, c2, c3, cf, cz⟩ := B2.out.tfour
  cases h1 : Ru.fits x0 y0 with
  | false =>
    go_wp2_with fail
    go_ret
    exact ⟨ret_bool (by rw [h1]; rfl), Q2.out⟩
  | true =>
    go_wp2_with fail
    refine (hh.out _).mono ?_
    rintro e w3 ⟨rfl, hb3⟩
    have Q3 := hid (bthen Q2.out hb3)
    go_wp2_with fail
    refine (hf2.out _).mono ?_
    rintro e w4 ⟨rfl, hb4⟩
    go_wp2_with fail
    go_ret
    exact ⟨ret_bool (by rw [h1]; rfl), bthen Q3.out hb4⟩
theorem tbothHas_any (b d : Po.Box) (w : World) : Calls Try.prog 41 #[rectV b, .func (.func 56) #[rectV d] #[]] w fun e w' => e = .returned (.bool (boxHas0 d b.x0 b.y0 && boxHas0 d b.x1 b.y1)) ∧ Below w.heap.size w w' := by
  have hen : ∀ (args : Array Value) (w : World), Sem.run Try.prog (callFunc 56 args) w = .ok (.enter 56 args) w := fun _ _ => by kernel_rfl
  have hl := hid (tlow_any b)
  have hh := hid (thigh_any b)
  have hf1 := hid (tboxhas_any d b.x0 b.y0)
  have hf2 := hid (tboxhas_any d b.x1 b.y1)
  have B0 := hid (Blk.new w #[.int .i64 b.x0, .int .i64 b.y0, .int .i64 b.x1, .int .i64 b.y1] 92)
  have Q0 := hid (balloc w (.cells #[.int .i64 b.x0, .int .i64 b.y0, .int .i64 b.x1, .int .i64 b.y1] 92))
  obtain ⟨x0, y0, x1, y1⟩ := b
  simp only at hl hh hf1 hf2 B0 Q0
  obtain ⟨vd, hvd⟩ : ∃ v, v = rectV d := ⟨_, rfl⟩
  rw [← hvd] at hf1 hf2 ⊢
  clear hvd
  unfold rectV at *
  go_enter Try.func41, Try.ntmps41
  go_wp2_with fail
  refine (hl.out _).mono ?_
  rintro e w1 ⟨rfl, hb1⟩
  have B1 := hid (B0.out.ext hb1)
  have Q1 := hid (bthen Q0.out hb1)
  go_wp2_with fail
  refine (hf1.out _).mono ?_
  rintro e w2 ⟨rfl, hb2⟩
  have B2 := hid (B1.out.ext hb2)
  have Q2 := hid (bthen Q1.out hb2)
  obtain ⟨c0, c1, c2, c3, cf, cz⟩ := B2.out.tfour
  cases h1 : boxHas0 d x0 y0 with
  | false =>
    go_wp2_with fail
    go_ret
    exact ⟨ret_bool (by rw [h1]; rfl), Q2.out⟩
  | true =>
    go_wp2_with fail
    refine (hh.out _).mono ?_
    rintro e w3 ⟨rfl, hb3⟩
    have Q3 := hid (bthen Q2.out hb3)
    go_wp2_with fail
    refine (hf2.out _).mono ?_
    rintro e w4 ⟨rfl, hb4⟩
    go_wp2_with fail
    go_ret
    exact ⟨ret_bool (by rw [h1]; rfl), bthen Q3.out hb4⟩
theorem tboxright_any (b : Po.Box) (w : World) : Calls Try.prog 30 #[rectV b] w fun e w' => e = .returned (.bool (Ru.boxR b)) ∧ Below w.heap.size w w' := by
  have hb := hid (tboth_any b)
  have B0 := hid (Blk.new w #[.int .i64 b.x0, .int .i64 b.y0, .int .i64 b.x1, .int .i64 b.y1] 42)
  have Q0 := hid (balloc w (.cells #[.int .i64 b.x0, .int .i64 b.y0, .int .i64 b.x1, .int .i64 b.y1] 42))
  unfold Ru.boxR
  obtain ⟨x0, y0, x1, y1⟩ := b
  simp only at hb B0 Q0 ⊢
  unfold rectV at *
  simp only at hb
  go_enter Try.func30, Try.ntmps30
  go_wp2_with fail
  refine (hb.out _).mono ?_
  rintro e w1 ⟨rfl, hb1⟩
  have B1 := hid (B0.out.ext hb1)
  have Q1 := hid (bthen Q0.out hb1)
  obtain ⟨c0, c1, c2, c3, cf, cz⟩ := B1.out.tfour
  generalize hff : (Ru.fits x0 y0 && Ru.fits x1 y1) = f at *
  have hff' := hid hff
  clear hb B0 Q0 B1 hb1 hff
  go_wp2_with fail
  all_goals
    go_ret
    refine ⟨ret_bool ?_, Q1.out⟩
    clear c0 c1 c2 c3 cf cz Q1
    rw [hff'.out]
    first | (simp_all; done) | (simp_all; omega)
theorem thas_any (b : Po.Box) (x y : Int) (w : World) : Calls Try.prog 45 #[rectV b, pointV x y] w fun e w' => e = .returned (.bool (Ru.boxHas b x y)) ∧ Below w.heap.size w w' := by
  have hb := hid (tboxright_any b)
  have hf := hid (tfits_any x y)
  have hh := hid (tboxhas_any b x y)
  have B0 := hid ((Blk.new w #[.int .i64 b.x0, .int .i64 b.y0, .int .i64 b.x1, .int .i64 b.y1] 42).alloc (.cells #[.int .i64 x, .int .i64 y] 26))
  have P0 := hid (Blk.newAt (w := w.alloc (.cells #[.int .i64 b.x0, .int .i64 b.y0, .int .i64 b.x1, .int .i64 b.y1] 42)) (k := w.heap.size + 1) (by simp) #[.int .i64 x, .int .i64 y] 26)
  have Q0 := hid (bthen (balloc w (.cells #[.int .i64 b.x0, .int .i64 b.y0, .int .i64 b.x1, .int .i64 b.y1] 42)) (balloc _ (.cells #[.int .i64 x, .int .i64 y] 26)))
  unfold Ru.boxHas
  generalize hr : Ru.boxR b = r at *
  generalize hft : Ru.fits x y = f at *
  obtain ⟨x0, y0, x1, y1⟩ := b
  simp only at hb hh B0 P0 Q0 ⊢
  have hbe : (decide (x0 ≤ x) && decide (x ≤ x1) && decide (y0 ≤ y) && decide (y ≤ y1)) = boxHas0 ⟨x0, y0, x1, y1⟩ x y := rfl
  rw [hbe]
  clear hbe
  generalize hc : boxHas0 ⟨x0, y0, x1, y1⟩ x y = c at *
  clear hr hft hc
  unfold rectV pointV at *
  simp only at hb hh hf
  go_enter Try.func45, Try.ntmps45
  go_wp2_with fail
  refine (hb.out _).mono ?_
  rintro e w1 ⟨rfl, hb1⟩
  have B1 := hid (B0.out.ext hb1)
  have P1 := hid (P0.out.ext hb1)
  have Q1 := hid (bthen Q0.out hb1)
  obtain ⟨p0, p1, pf, pz⟩ := P1.out.two
  cases r with
  | false =>
    go_wp2_with fail
    go_ret
    exact ⟨rfl, Q1.out⟩
  | true =>
    go_wp2_with fail
    refine (hf.out _).mono ?_
    rintro e w2 ⟨rfl, hb2⟩
    have B2 := hid (B1.out.ext hb2)
    have P2 := hid (P1.out.ext hb2)
    have Q2 := hid (bthen Q1.out hb2)
    clear p0 p1 pf pz
    obtain ⟨p0, p1, pf, pz⟩ := P2.out.two
    obtain ⟨c0, c1, c2, c3, cf, cz⟩ := B2.out.tfour
    cases f with
    | false =>
      go_wp2_with fail
      go_ret
      exact ⟨rfl, Q2.out⟩
    | true =>
      go_wp2_with fail
      refine (hh.out _).mono ?_
      rintro e w3 ⟨rfl, hb3⟩
      go_wp2_with fail
      go_ret
      exact ⟨rfl, bthen Q2.out hb3⟩
def boxMeets (a b : Po.Box) : Bool := decide (a.x0 ≤ b.x1) && decide (b.x0 ≤ a.x1) && decide (a.y0 ≤ b.y1) && decide (b.y0 ≤ a.y1)
theorem tmeets_any (a b : Po.Box) (ha : Ru.boxR a = true) (hb : Ru.boxR b = true) (w : World) : Calls Try.prog 42 #[rectV a, rectV b] w fun e w' => e = .returned (.bool (boxMeets a b)) ∧ Below w.heap.size w w' := by
  have ca := hid (tboxright_any a)
  have cb := hid (tboxright_any b)
  rw [ha] at ca
  rw [hb] at cb
  have A0 := hid ((Blk.new w #[.int .i64 a.x0, .int .i64 a.y0, .int .i64 a.x1, .int .i64 a.y1] 42).alloc (.cells #[.int .i64 b.x0, .int .i64 b.y0, .int .i64 b.x1, .int .i64 b.y1] 42))
  have B0 := hid (Blk.newAt (w := w.alloc (.cells #[.int .i64 a.x0, .int .i64 a.y0, .int .i64 a.x1, .int .i64 a.y1] 42)) (k := w.heap.size + 1) (by simp) #[.int .i64 b.x0, .int .i64 b.y0, .int .i64 b.x1, .int .i64 b.y1] 42)
  have Q0 := hid (bthen (balloc w (.cells #[.int .i64 a.x0, .int .i64 a.y0, .int .i64 a.x1, .int .i64 a.y1] 42)) (balloc _ (.cells #[.int .i64 b.x0, .int .i64 b.y0, .int .i64 b.x1, .int .i64 b.y1] 42)))
  clear ha hb
  unfold boxMeets
  obtain ⟨x0, y0, x1, y1⟩ := a
  obtain ⟨u0, v0, u1, v1⟩ := b
  simp only at ca cb A0 B0 Q0 ⊢
  unfold rectV at *
  simp only at ca cb ⊢
  go_enter Try.func42, Try.ntmps42
  go_wp2_with fail
  refine (ca.out _).mono ?_
  rintro e w1 ⟨rfl, hb1⟩
  have A1 := hid (A0.out.ext hb1)
  have B1 := hid (B0.out.ext hb1)
  have Q1 := hid (bthen Q0.out hb1)
  clear hb1
  obtain ⟨p0, p1, p2, p3, pf, pz⟩ := B1.out.tfour
  go_wp2_with fail
  refine (cb.out _).mono ?_
  rintro e w2 ⟨rfl, hb2⟩
  have A2 := hid (A1.out.ext hb2)
  have B2 := hid (B1.out.ext hb2)
  have Q2 := hid (bthen Q1.out hb2)
  clear hb2 p0 p1 p2 p3 pf pz A1 B1 Q1 A0 B0 Q0 ca cb
  obtain ⟨p0, p1, p2, p3, pf, pz⟩ := A2.out.tfour
  obtain ⟨q0, q1, q2, q3, qf, qz⟩ := B2.out.tfour
  go_wp2_with fail
  all_goals
    go_ret
    refine ⟨ret_bool ?_, Q2.out⟩
    clear p0 p1 p2 p3 pf pz q0 q1 q2 q3 qf qz Q2
    first | (simp_all; done) | (simp_all; omega)
theorem tin_any (a b : Po.Box) (ha : Ru.boxR a = true) (hb : Ru.boxR b = true) (w : World) : Calls Try.prog 43 #[rectV a, rectV b] w fun e w' => e = .returned (.bool (boxHas0 b a.x0 a.y0 && boxHas0 b a.x1 a.y1)) ∧ Below w.heap.size w w' := by
  have ca := hid (tboxright_any a)
  have cb := hid (tboxright_any b)
  have cc := hid (tbothHas_any a b)
  rw [ha] at ca
  rw [hb] at cb
  have A0 := hid ((Blk.new w #[.int .i64 a.x0, .int .i64 a.y0, .int .i64 a.x1, .int .i64 a.y1] 42).alloc (.cells #[.int .i64 b.x0, .int .i64 b.y0, .int .i64 b.x1, .int .i64 b.y1] 42))
  have B0 := hid (Blk.newAt (w := w.alloc (.cells #[.int .i64 a.x0, .int .i64 a.y0, .int .i64 a.x1, .int .i64 a.y1] 42)) (k := w.heap.size + 1) (by simp) #[.int .i64 b.x0, .int .i64 b.y0, .int .i64 b.x1, .int .i64 b.y1] 42)
  have Q0 := hid (bthen (balloc w (.cells #[.int .i64 a.x0, .int .i64 a.y0, .int .i64 a.x1, .int .i64 a.y1] 42)) (balloc _ (.cells #[.int .i64 b.x0, .int .i64 b.y0, .int .i64 b.x1, .int .i64 b.y1] 42)))
  generalize hr : (boxHas0 b a.x0 a.y0 && boxHas0 b a.x1 a.y1) = r at *
  clear ha hb hr
  obtain ⟨x0, y0, x1, y1⟩ := a
  obtain ⟨u0, v0, u1, v1⟩ := b
  simp only at ca cb cc A0 B0 Q0
  unfold rectV at *
  simp only at ca cb cc ⊢
  go_enter Try.func43, Try.ntmps43
  go_wp2_with fail
  refine (ca.out _).mono ?_
  rintro e w1 ⟨rfl, hb1⟩
  have A1 := hid (A0.out.ext hb1)
  have B1 := hid (B0.out.ext hb1)
  have Q1 := hid (bthen Q0.out hb1)
  clear hb1
  obtain ⟨p0, p1, p2, p3, pf, pz⟩ := B1.out.tfour
  go_wp2_with fail
  refine (cb.out _).mono ?_
  rintro e w2 ⟨rfl, hb2⟩
  have A2 := hid (A1.out.ext hb2)
  have B2 := hid (B1.out.ext hb2)
  have Q2 := hid (bthen Q1.out hb2)
  clear hb2 p0 p1 p2 p3 pf pz A1 B1 Q1 A0 B0 Q0 ca cb
  obtain ⟨p0, p1, p2, p3, pf, pz⟩ := A2.out.tfour
  obtain ⟨q0, q1, q2, q3, qf, qz⟩ := B2.out.tfour
  go_wp2_with fail
  refine (cc.out _).mono ?_
  rintro e w3 ⟨rfl, hb3⟩
  have Q3 := hid (bthen Q2.out hb3)
  clear hb3
  go_wp2_with fail
  go_ret
  exact ⟨rfl, Q3.out⟩

end Go.Proofs.Yteddkgpnklfppaa

namespace Go.Proofs.Yteddkgpnklfppaa
open Go.RowKit Go.Sort

theorem ptcell_back {x y : Int} : (Value.agg #[.int .i64 x, .int .i64 y]) = pointV x y := rfl
theorem tOf_yes {k j : Nat} (h : k + j = 16) {x y : Int} (hf : Ru.fits x y = true) (w : World) : Calls Try.prog 34 #[pointV x y, .int .i64 k] w fun e w' => e = .returned (.tuple #[cellV k (x / 2 ^ j) (y / 2 ^ j), .bool true]) ∧ Below w.heap.size w w' := by
  have hr := hid (tright_k (k := k) (by omega))
  have hft := hid (tfits_any x y)
  rw [hf] at hft
  have hof := hid (tof_any h x y)
  have Q0 := hid (bthen (balloc w (.cells #[.int .i64 x, .int .i64 y] 26)) (balloc _ (.cells #[.int .i64 0, .int .i64 0, .int .i64 0] 24)))
  have P0 := hid ((Blk.new w #[.int .i64 x, .int .i64 y] 26).alloc (.cells #[.int .i64 0, .int .i64 0, .int .i64 0] 24))
  have C0 := hid (Blk.newAt (w := w.alloc (.cells #[.int .i64 x, .int .i64 y] 26)) (k := w.heap.size + 1) (by simp) #[.int .i64 0, .int .i64 0, .int .i64 0] 24)
  clear h hf
  unfold pointV cellV at *
  go_enter Try.func34, Try.ntmps34
  go_wp2_with fail
  refine (hr.out _).mono ?_
  rintro e w1 ⟨rfl, rfl⟩
  go_wp2_with fail
  refine (hft.out _).mono ?_
  rintro e w2 ⟨rfl, hb2⟩
  have P2 := hid (P0.out.ext hb2)
  have C2 := hid (C0.out.ext hb2)
  have Q2 := hid (bthen Q0.out hb2)
  clear hb2
  obtain ⟨c0, c1, cf, cz⟩ := P2.out.two
  go_wp2_with fail
  refine (hof.out _).mono ?_
  rintro e w3 ⟨rfl, hb3⟩
  have C3 := hid (C2.out.ext hb3)
  have Q3 := hid (bthen Q2.out hb3)
  clear hb3 c0 c1 cf cz P2 C2 Q2 P0 C0 Q0
  obtain ⟨c0, c1, c2, cf, cz⟩ := C3.out.three
  go_wp2_with fail
  exact bodyPost_ret (v := .tuple #[.agg #[.int .i64 k, .int .i64 (x / 2 ^ j), .int .i64 (y / 2 ^ j)], .bool true]) (by simp [results, Try.results34, go_sem, c0, c1, c2]) rfl ⟨rfl, bset (bset (bset Q3.out (by omega) _) (by omega) _) (by omega) _⟩
theorem tOf_no {k : Nat} (h : k ≤ 16) {x y : Int} (hf : Ru.fits x y = false) (w : World) : Calls Try.prog 34 #[pointV x y, .int .i64 k] w fun e w' => e = .returned (.tuple #[cellV 0 0 0, .bool false]) ∧ Below w.heap.size w w' := by
  have hr := hid (tright_k (k := k) h)
  have hft := hid (tfits_any x y)
  rw [hf] at hft
  have Q0 := hid (bthen (balloc w (.cells #[.int .i64 x, .int .i64 y] 26)) (balloc _ (.cells #[.int .i64 0, .int .i64 0, .int .i64 0] 24)))
  have P0 := hid ((Blk.new w #[.int .i64 x, .int .i64 y] 26).alloc (.cells #[.int .i64 0, .int .i64 0, .int .i64 0] 24))
  have C0 := hid (Blk.newAt (w := w.alloc (.cells #[.int .i64 x, .int .i64 y] 26)) (k := w.heap.size + 1) (by simp) #[.int .i64 0, .int .i64 0, .int .i64 0] 24)
  clear h hf
  unfold pointV cellV at *
  go_enter Try.func34, Try.ntmps34
  go_wp2_with fail
  refine (hr.out _).mono ?_
  rintro e w1 ⟨rfl, rfl⟩
  go_wp2_with fail
  refine (hft.out _).mono ?_
  rintro e w2 ⟨rfl, hb2⟩
  have C2 := hid (C0.out.ext hb2)
  have Q2 := hid (bthen Q0.out hb2)
  clear hb2 P0 C0 Q0
  obtain ⟨c0, c1, c2, cf, cz⟩ := C2.out.three
  go_wp2_with fail
  exact bodyPost_ret (v := .tuple #[.agg #[.int .i64 0, .int .i64 0, .int .i64 0], .bool false]) (by simp [results, Try.results34, go_sem, c0, c1, c2]) rfl ⟨rfl, bset (bset (bset Q2.out (by omega) _) (by omega) _) (by omega) _⟩
theorem enter_first (args : Array Value) (w : World) : Sem.run Try.prog (callFunc 27 args) w = .ok (.enter 27 args) w := by kernel_rfl
theorem enter_last (args : Array Value) (w : World) : Sem.run Try.prog (callFunc 28 args) w = .ok (.enter 28 args) w := by kernel_rfl
/-- a cell's box -/
def boxOf (k : Nat) (x y : Int) : Po.Box := ⟨x * 2 ^ (16 - k), y * 2 ^ (16 - k), (x + 1) * 2 ^ (16 - k) - 1, (y + 1) * 2 ^ (16 - k) - 1⟩
theorem tbox_yes {k : Nat} {x y : Int} (hk : k ≤ 16) (h1 : 0 ≤ x) (h2 : x < 2 ^ k) (h3 : 0 ≤ y) (h4 : y < 2 ^ k) (w : World) : Calls Try.prog 9 #[cellV k x y] w fun e w' => e = .returned (.tuple #[rectV (boxOf k x y), .bool true]) ∧ Below w.heap.size w w' := by
  have hr := hid (tcright_yes hk h1 h2 h3 h4)
  have hf := hid (fun w => tpair_any (w := w) enter_first (tfirst_any (k := k) (j := 16 - k) (by omega) h1 (by omega)) (tfirst_any (k := k) (j := 16 - k) (by omega) h3 (by omega)))
  have hl := hid (fun w => tpair_any (w := w) enter_last (tlast_any (k := k) (j := 16 - k) (by omega) h1 (by omega)) (tlast_any (k := k) (j := 16 - k) (by omega) h3 (by omega)))
  have Q0 := hid (bthen (balloc w (.cells #[.int .i64 k, .int .i64 x, .int .i64 y] 24)) (balloc _ (.cells #[.int .i64 0, .int .i64 0, .int .i64 0, .int .i64 0] 42)))
  have P0 := hid ((Blk.new w #[.int .i64 k, .int .i64 x, .int .i64 y] 24).alloc (.cells #[.int .i64 0, .int .i64 0, .int .i64 0, .int .i64 0] 42))
  have C0 := hid (Blk.newAt (w := w.alloc (.cells #[.int .i64 k, .int .i64 x, .int .i64 y] 24)) (k := w.heap.size + 1) (by simp) #[.int .i64 0, .int .i64 0, .int .i64 0, .int .i64 0] 42)
  clear h1 h2 h3 h4 hk
  unfold boxOf rectV cellV at *
  generalize x * 2 ^ (16 - k) = x0 at *
  generalize y * 2 ^ (16 - k) = y0 at *
  generalize (x + 1) * 2 ^ (16 - k) - 1 = x1 at *
  generalize (y + 1) * 2 ^ (16 - k) - 1 = y1 at *
  go_enter Try.func9, Try.ntmps9
  go_wp2_with fail
  refine (hr.out _).mono ?_
  rintro e w2 ⟨rfl, hb2⟩
  have P2 := hid (P0.out.ext hb2)
  have C2 := hid (C0.out.ext hb2)
  have Q2 := hid (bthen Q0.out hb2)
  clear hb2 P0 C0 Q0
  obtain ⟨p0, p1, p2, pf, pz⟩ := P2.out.three
  obtain ⟨c0, c1, c2, c3, cf, cz⟩ := C2.out.tfour
  go_wp2_with fail
  refine (hf.out _).mono ?_
  rintro e w3 ⟨rfl, rfl⟩
  go_wp2_with fail
  refine (hl.out _).mono ?_
  rintro e w3 ⟨rfl, rfl⟩
  go_wp2_with fail
  exact bodyPost_ret (v := .tuple #[.agg #[.int .i64 x0, .int .i64 y0, .int .i64 x1, .int .i64 y1], .bool true]) (by simp [results, Try.results9, go_sem, c0, c1, c2, c3]) rfl ⟨rfl, bset (bset (bset (bset Q2.out (by omega) _) (by omega) _) (by omega) _) (by omega) _⟩
theorem tbox_no {l x y : Int} (h : cellR l x y = false) (w : World) : Calls Try.prog 9 #[cellV l x y] w fun e w' => e = .returned (.tuple #[rectV ⟨0, 0, 0, 0⟩, .bool false]) ∧ Below w.heap.size w w' := by
  have hr := hid (tcright_any l x y)
  rw [h] at hr
  have Q0 := hid (bthen (balloc w (.cells #[.int .i64 l, .int .i64 x, .int .i64 y] 24)) (balloc _ (.cells #[.int .i64 0, .int .i64 0, .int .i64 0, .int .i64 0] 42)))
  have C0 := hid (Blk.newAt (w := w.alloc (.cells #[.int .i64 l, .int .i64 x, .int .i64 y] 24)) (k := w.heap.size + 1) (by simp) #[.int .i64 0, .int .i64 0, .int .i64 0, .int .i64 0] 42)
  clear h
  unfold rectV cellV at *
  go_enter Try.func9, Try.ntmps9
  go_wp2_with fail
  refine (hr.out _).mono ?_
  rintro e w2 ⟨rfl, hb2⟩
  have C2 := hid (C0.out.ext hb2)
  have Q2 := hid (bthen Q0.out hb2)
  clear hb2 C0 Q0
  obtain ⟨c0, c1, c2, c3, cf, cz⟩ := C2.out.tfour
  go_wp2_with fail
  exact bodyPost_ret (v := .tuple #[.agg #[.int .i64 0, .int .i64 0, .int .i64 0, .int .i64 0], .bool false]) (by simp [results, Try.results9, go_sem, c0, c1, c2, c3]) rfl ⟨rfl, bset (bset (bset (bset Q2.out (by omega) _) (by omega) _) (by omega) _) (by omega) _⟩
/-- a cell's box may be, and has the cell's points -/
theorem boxOf_right {k : Nat} {x y : Int} (hk : k ≤ 16) (h1 : 0 ≤ x) (h2 : x < 2 ^ k) (h3 : 0 ≤ y) (h4 : y < 2 ^ k) : Ru.boxR (boxOf k x y) = true := by
  have a := pow_mul_le (k := k) (j := 16 - k) (by omega) (n := x) h1 (by omega)
  have b := pow_mul_le (k := k) (j := 16 - k) (by omega) (n := x + 1) (by omega) (by omega)
  have c := pow_mul_le (k := k) (j := 16 - k) (by omega) (n := y) h3 (by omega)
  have d := pow_mul_le (k := k) (j := 16 - k) (by omega) (n := y + 1) (by omega) (by omega)
  have p := Tc.pow_pos (16 - k)
  have ex : (x + 1) * 2 ^ (16 - k) = x * 2 ^ (16 - k) + 2 ^ (16 - k) := by rw [Int.add_mul, Int.one_mul]
  have ey : (y + 1) * 2 ^ (16 - k) = y * 2 ^ (16 - k) + 2 ^ (16 - k) := by rw [Int.add_mul, Int.one_mul]
  unfold Ru.boxR Ru.fits Ru.inside boxOf
  simp only [Bool.and_eq_true, decide_eq_true_eq]
  omega

end Go.Proofs.Yteddkgpnklfppaa
