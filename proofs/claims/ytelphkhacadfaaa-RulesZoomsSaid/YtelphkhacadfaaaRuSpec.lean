/- The rules (chapter 12) as plain Lean: what may be, who sees how near, what a policy's declarations come to. No program, no memory. -/
import Derived.Test.YtelphkhacadfaaaPolSpec
namespace Go.Proofs.Ytelphkhacadfaaa.Ru
open Po (Box Who Decl)

structure Rule where
  kind : Int
  roles : Int
  lo : Int
  hi : Int
  labels : Int
  boxes : List Box
  zoom : Int

def inside (n : Int) : Bool := decide (0 ≤ n) && decide (n ≤ 65535)
def fits (x y : Int) : Bool := inside x && inside y
def boxR (b : Box) : Bool := (fits b.x0 b.y0 && fits b.x1 b.y1) && decide (b.x0 ≤ b.x1) && decide (b.y0 ≤ b.y1)
def boxHas (b : Box) (x y : Int) : Bool := boxR b && fits x y && (decide (b.x0 ≤ x) && decide (x ≤ b.x1) && decide (b.y0 ≤ y) && decide (y ≤ b.y1))
def small (n m : Int) : Bool := decide (0 ≤ n) && decide (n ≤ m)
def boxesR (l : List Box) : Bool := l.all boxR
def ruleR (r : Rule) : Bool :=
  if r.kind = 6 then small r.roles 255 && r.lo == 0 && r.hi == 0 && r.labels == 0 && ((r.boxes.length : Int) == 0) && r.zoom == 0
  else if r.kind = 4 ∨ r.kind = 5 then small r.roles 255 && decide (0 ≤ r.lo) && decide (r.lo ≤ r.hi) && decide (r.hi ≤ 7) && small r.labels 255 && boxesR r.boxes && small r.zoom 16
  else false
def rulesR (l : List Rule) : Bool := l.all ruleR
/-- is n one of a sum's? -/
def inSum (sum n : Int) : Bool := sum.toNat / 2 ^ n.toNat % 2 == 1
def numbers3 (role tier label : Int) : Bool := small role 7 && small tier 7 && small label 7
def forR (r : Rule) (role tier label : Int) : Bool :=
  ruleR r && r.kind != 6 && numbers3 role tier label && inSum r.roles role && decide (r.lo ≤ tier) && decide (tier ≤ r.hi) && inSum r.labels label
def hasB (l : List Box) (x y : Int) : Bool := l.any fun b => boxHas b x y
def zoomStep (role tier label x y : Int) (p : Int × Int) (r : Rule) : Int × Int :=
  if forR r role tier label && hasB r.boxes x y then (if r.kind = 4 then (max p.1 r.zoom, p.2) else (p.1, min p.2 r.zoom)) else p
def zoomV (l : List Rule) (role tier label x y : Int) : Int :=
  if rulesR l then (let p := l.foldl (zoomStep role tier label x y) (0, 16); min p.1 p.2) else 0
def cloaksV (l : List Rule) (role : Int) : Bool := rulesR l && small role 7 && l.any fun r => r.kind == 6 && inSum r.roles role

/-! ### the reference's -/
def rruleR (r : Rule) : Bool :=
  r.boxes.all boxR && (if r.kind = 6 then small r.roles 255 && r.lo == 0 && r.hi == 0 && r.labels == 0 && ((r.boxes.length : Int) == 0) && r.zoom == 0
  else (r.kind == 4 || r.kind == 5) && small r.roles 255 && small r.labels 255 && decide (0 ≤ r.lo) && decide (r.lo ≤ r.hi) && decide (r.hi ≤ 7) && decide (0 ≤ r.zoom) && decide (r.zoom ≤ 16))
def rforR (r : Rule) (role tier label : Int) : Bool :=
  rruleR r && decide (r.kind < 6) && small role 7 && small tier 7 && small label 7 && inSum r.roles role && decide (r.lo ≤ tier) && decide (tier ≤ r.hi) && inSum r.labels label
def rfor2 (r : Rule) (role tier label x y : Int) : Bool := rforR r role tier label && fits x y && r.boxes.any fun b => boxHas b x y
def rstepA (role tier label x y : Int) (z : Int) (r : Rule) : Int := if r.kind == 4 && decide (z < r.zoom) && rfor2 r role tier label x y then r.zoom else z
def rstepC (role tier label x y : Int) (z : Int) (r : Rule) : Int := if r.kind == 5 && decide (r.zoom < z) && rfor2 r role tier label x y then r.zoom else z
def rzoomV (l : List Rule) (role tier label x y : Int) : Int :=
  if l.all rruleR then l.foldl (rstepC role tier label x y) (l.foldl (rstepA role tier label x y) 0) else 0
def rcloaksV (l : List Rule) (role : Int) : Bool := (l.any fun r => r.kind == 6 && small role 7 && inSum r.roles role) && l.all rruleR

/-! ### what declarations come to -/
def declared (l : List Decl) (k : Int) (nm : ByteArray) : Option Decl := l.find? fun d => d.kind == k && d.name == nm
abbrev F3 := Int × Int × Int
structure Ck where
  rules : List Rule
  boxes : Int
  f : F3
def Ck.wrong (c : Ck) (e l k : Int) : Ck := if c.f.1 = 0 then { c with f := (e, l, k) } else c
def Ck.wrongIf (c : Ck) (e l k : Int) : Ck := if e = 0 then c else c.wrong e l k
def whoN (ahead : List Decl) (k : Int) (w : Who) : Int :=
  if w.name.data.toList = [] then w.n else match declared ahead k w.name with | some d => d.n | none => 0
/-- a who's sum; its error -/
def setN (ahead : List Decl) (k : Int) (w : Who) : Int := if w.any then 255 else if 7 < whoN ahead k w then 0 else 2 ^ (whoN ahead k w).toNat
def setE (ahead : List Decl) (k : Int) (w : Who) : Int :=
  if w.any then 0 else if w.name.data.toList ≠ [] ∧ declared ahead k w.name = none then 21 else if 7 < whoN ahead k w then 33 else 0
def grid : Box := ⟨0, 0, 65535, 65535⟩
def whereB (ahead : List Decl) (w : Who) : List Box := if w.any then [grid] else match declared ahead 3 w.name with | some d => d.boxes | none => []
def whereE (ahead : List Decl) (w : Who) : Int := if w.any then 0 else match declared ahead 3 w.name with | some _ => 0 | none => 21
def ckLong (c : Ck) (d : Decl) : Ck := if c.rules.length = 32 then c.wrong 2 d.line d.col else c
def ckRole (ahead : List Decl) (c : Ck) (d : Decl) : Ck := (ckLong c d).wrongIf (setE ahead 1 d.role) d.role.line d.role.col
def ckTier (ahead : List Decl) (c : Ck) (d : Decl) : Ck := if d.hi < d.lo ∨ 7 < d.hi then (ckRole ahead c d).wrong 33 d.line d.col else ckRole ahead c d
def ckLabel (ahead : List Decl) (c : Ck) (d : Decl) : Ck := (ckTier ahead c d).wrongIf (setE ahead 2 d.label) d.label.line d.label.col
def ckWhere (ahead : List Decl) (c : Ck) (d : Decl) : Ck := (ckLabel ahead c d).wrongIf (whereE ahead d.place) d.place.line d.place.col
def ckMore (ahead : List Decl) (c : Ck) (d : Decl) : Ck := { ckWhere ahead c d with boxes := c.boxes + (whereB ahead d.place).length }
def ckBoxes (ahead : List Decl) (c : Ck) (d : Decl) : Ck := if 32 < (ckMore ahead c d).boxes then (ckMore ahead c d).wrong 2 d.line d.col else ckMore ahead c d
def ckZoom (ahead : List Decl) (c : Ck) (d : Decl) : Ck := if 16 < d.zoom then (ckBoxes ahead c d).wrong 33 d.line d.col else ckBoxes ahead c d
def ckCloak (ahead : List Decl) (c : Ck) (d : Decl) : Ck := { ckRole ahead c d with rules := c.rules ++ [⟨d.kind, setN ahead 1 d.role, 0, 0, 0, [], 0⟩] }
def ckRuleOf (ahead : List Decl) (d : Decl) : Rule := ⟨d.kind, setN ahead 1 d.role, d.lo, d.hi, setN ahead 2 d.label, whereB ahead d.place, d.zoom⟩
def ckRule (ahead : List Decl) (c : Ck) (d : Decl) : Ck :=
  if d.kind = 6 then ckCloak ahead c d else { ckZoom ahead c d with rules := c.rules ++ [ckRuleOf ahead d] }
def ckNumber (ahead : List Decl) (c : Ck) (d : Decl) : Ck :=
  if (declared ahead d.kind d.name).isSome then c.wrong 20 d.line d.col else if 7 < d.n then c.wrong 33 d.line d.col else c
def ckRegion (ahead : List Decl) (c : Ck) (d : Decl) : Ck :=
  if (declared ahead 3 d.name).isSome then c.wrong 20 d.line d.col else if boxesR d.boxes then c else c.wrong 33 d.line d.col
def ckDecl (ahead : List Decl) (c : Ck) (d : Decl) : Ck :=
  if d.kind = 1 ∨ d.kind = 2 then ckNumber ahead c d else if d.kind = 3 then ckRegion ahead c d else ckRule ahead c d
def ckRun : List Decl → List Decl → Ck → Except F3 (List Rule)
  | _, [], c => .ok c.rules
  | a, d :: r, c => if (ckDecl a c d).f.1 = 0 then ckRun (a ++ [d]) r (ckDecl a c d) else .error (ckDecl a c d).f

/-! ### what a declaration may be -/
def num (n : Int) : Bool := decide (0 ≤ n) && decide (n ≤ 65535)
def zeroW (w : Who) : Bool := !w.any && w.name.data.toList == [] && w.n == 0
def rightW (w : Who) : Bool := if w.any then w.name.data.toList == [] && w.n == 0 else if w.name.data.toList == [] then num w.n else w.n == 0 && Lx.isName w.name.data.toList
def placeW (w : Who) : Bool := rightW w && (w.any || w.name.data.toList != [])
def ruleD (d : Decl) : Bool := rightW d.role && (num d.lo && num d.hi && num d.zoom) && rightW d.label && placeW d.place
def noRule (d : Decl) : Bool := d.lo == 0 && d.hi == 0 && d.zoom == 0 && zeroW d.label && zeroW d.place
def noName (d : Decl) : Bool := d.name.data.toList == [] && d.n == 0 && ((d.boxes.length : Int) == 0)
def boxN (b : Box) : Bool := num b.x0 && num b.y0 && num b.x1 && num b.y1
def boxesN (l : List Box) : Bool := l.all boxN && decide ((0 : Int) < l.length)
def may (d : Decl) : Bool :=
  if d.kind = 1 ∨ d.kind = 2 then Lx.isName d.name.data.toList && num d.n && ((d.boxes.length : Int) == 0) && zeroW d.role && noRule d
  else if d.kind = 3 then Lx.isName d.name.data.toList && d.n == 0 && boxesN d.boxes && zeroW d.role && noRule d
  else if d.kind = 4 ∨ d.kind = 5 then noName d && ruleD d
  else if d.kind = 6 then noName d && rightW d.role && noRule d
  else false
def checkV (l : List Decl) : Except F3 (List Rule) := if l.all may then ckRun [] l ⟨[], 0, (0, 0, 0)⟩ else .error (1, 0, 0)

end Go.Proofs.Ytelphkhacadfaaa.Ru
