/-
  The reference's reader of policies as plain Lean (tokens that are left, a fault), and: it answers as the program's does. No program.
  Plain laws of the policy's reader: a declaration takes a token or stops; the loop of Parse. No program.
  Plain laws of the lexer: no program.
-/
import Derived.Test.YteddkgpnklfppaaGreatDoorPk03
import Derived.Test.YteddkgpnklfppaaGreatDoorPk01

namespace Go.Proofs.YteddkgpnklfppaaGreatDoor.Pr
open Lx Po

structure R where
  l : List Tok
  f : Fault

section
variable (e : Nat × Nat)
def place (r : R) : Nat × Nat := match r.l with | t :: _ => (t.line, t.col) | [] => e
def wrong (r : R) : R := if r.f.1 = 0 then { r with f := mkFault 31 (place e r) } else r
def is (x : Bytes) (r : R) : Bool := r.f.1 == 0 && match r.l with | t :: _ => t.text == x | [] => false
def on (r : R) : R := { r with l := r.l.tail }
def want (x : Bytes) (r : R) : R := if is x r then on r else wrong e r
def kindIs (k : Nat) (r : R) : Bool := r.f.1 == 0 && match r.l with | t :: _ => t.kind == k | [] => false
def ofS (k : Nat) (r : R) : R := if kindIs k r then on r else wrong e r
def ofT (k : Nat) (r : R) : Tok := if kindIs k r then r.l.headD zeroTok else zeroTok
/-- does the next token have a name's kind, whatever the fault -/
def headName (r : R) : Bool := match r.l with | t :: _ => t.kind == 1 | [] => false
def whoV (all : Bytes) (numbers : Bool) (r : R) : Who :=
  if is all r then ⟨true, ⟨#[]⟩, 0, (place e r).1, (place e r).2⟩
  else if numbers && !headName r then ⟨false, ⟨#[]⟩, (ofT 3 r).n, (place e r).1, (place e r).2⟩
  else ⟨false, txt (ofT 1 r).text, 0, (place e r).1, (place e r).2⟩
def whoS (all : Bytes) (numbers : Bool) (r : R) : R :=
  if is all r then on r else if numbers && !headName r then ofS e 3 r else ofS e 1 r
def ru1 (r : R) : R := want e wRole r
def ru2 (r : R) : R := whoS e wAny true (ru1 e r)
def ru3 (r : R) : R := want e wTier (ru2 e r)
def tiersS (r : R) : R := if is wAny r then on r else if is [46, 46] (ofS e 3 r) then ofS e 3 (on (ofS e 3 r)) else ofS e 3 r
def loV (r : R) : Nat := if is wAny r then 0 else (ofT 3 r).n
def hiV (r : R) : Nat := if is wAny r then 7 else if is [46, 46] (ofS e 3 r) then (ofT 3 (on (ofS e 3 r))).n else (ofT 3 r).n
def ru4 (r : R) : R := want e wLabel (tiersS e (ru3 e r))
def ru5 (r : R) : R := want e wIn (whoS e wAny true (ru4 e r))
def ru6 (r : R) : R := want e wZoom (whoS e wAll false (ru5 e r))
def ruleS (r : R) : R := ofS e 3 (ru6 e r)
def ruleV (d : Decl) (r : R) : Decl :=
  { d with role := whoV e wAny true (ru1 e r), lo := loV (ru3 e r), hi := hiV e (ru3 e r), label := whoV e wAny true (ru4 e r), place := whoV e wAll false (ru5 e r), zoom := (ofT 3 (ru6 e r)).n }
def four (r : R) : R := ofS e 3 (ofS e 3 (ofS e 3 (ofS e 3 r)))
def boxV (r : R) : Box := ⟨(ofT 3 r).n, (ofT 3 (ofS e 3 r)).n, (ofT 3 (ofS e 3 (ofS e 3 r))).n, (ofT 3 (ofS e 3 (ofS e 3 (ofS e 3 r)))).n⟩
def moreV : Nat → R → List Box
  | 0, _ => []
  | f + 1, r => if is [43] r then boxV e (on r) :: moreV f (four e (on r)) else []
def moreS : Nat → R → R
  | 0, r => r
  | f + 1, r => if is [43] r then moreS f (four e (on r)) else r
def boxesV (r : R) : List Box := boxV e r :: moreV e (r.l.length + 1) (four e r)
def boxesS (r : R) : R := moreS e (r.l.length + 1) (four e r)
/-- the kind of the next declaration; 0: none -/
def kindOf (r : R) : Nat :=
  if is wCloak r then 6 else if is wCap r then 5 else if is wAllow r then 4 else if is wRegion r then 3 else if is wLabel r then 2 else if is wRole r then 1 else 0
def named (r : R) : R := want e [61] (ofS e 1 (on r))
def declAt (r : R) : Decl := { zeroDecl with kind := kindOf r, line := (place e r).1, col := (place e r).2 }
def declV (r : R) : Decl :=
  if kindOf r = 0 then declAt e r
  else if kindOf r ≤ 2 then { declAt e r with name := txt (ofT 1 (on r)).text, n := (ofT 3 (named e r)).n }
  else if kindOf r = 3 then { declAt e r with name := txt (ofT 1 (on r)).text, boxes := boxesV e (named e r) }
  else if kindOf r = 6 then { declAt e r with role := whoV e wAny true (want e wRole (on r)) }
  else ruleV e (declAt e r) (on r)
def declS (r : R) : R :=
  if kindOf r = 0 then wrong e r
  else want e [59] (if kindOf r ≤ 2 then ofS e 3 (named e r) else if kindOf r = 3 then boxesS e (named e r) else if kindOf r = 6 then whoS e wAny true (want e wRole (on r)) else ruleS e (on r))
def parseV : Nat → R → List Decl
  | 0, _ => []
  | f + 1, r => if r.l ≠ [] ∧ r.f.1 = 0 then declV e r :: parseV f (declS e r) else []
def parseS : Nat → R → R
  | 0, r => r
  | f + 1, r => if r.l ≠ [] ∧ r.f.1 = 0 then parseS f (declS e r) else r
end

/-! ### the two readers go side by side -/
structure Sim (T : List Tok) (st : St) (r : R) : Prop where
  f : st.f = r.f
  l : st.f.1 = 0 → r.l = T.drop st.at_

variable {T : List Tok} {e : Nat × Nat} {st : St} {r : R}

theorem head_drop (T : List Tok) (i : Nat) : (match T.drop i with | t :: _ => some t | [] => none) = T[i]? := by
  rcases Nat.lt_or_ge i T.length with h | h
  · rw [List.drop_eq_getElem_cons h, List.getElem?_eq_getElem h]
  · rw [List.drop_eq_nil_of_le h, List.getElem?_eq_none h]
theorem Sim.head (h : Sim T st r) (h0 : st.f.1 = 0) : (match r.l with | t :: _ => some t | [] => none) = T[st.at_]? := by
  rw [h.l h0, head_drop]
theorem Sim.place (h : Sim T st r) (h0 : st.f.1 = 0) : Pr.place e r = Po.place T e st := by
  have hh := h.head h0
  unfold Pr.place Po.place
  rw [← hh]
  cases r.l <;> rfl
theorem Sim.is (h : Sim T st r) (x : Bytes) : Pr.is x r = Po.is T x st := by
  unfold Pr.is Po.is
  rw [← h.f]
  by_cases h0 : st.f.1 = 0
  · have hh := h.head h0
    rw [← hh]
    cases r.l <;> rfl
  · have hz : (st.f.1 == 0) = false := beq_eq_false_iff_ne.2 h0
    rw [hz]; rfl
theorem Sim.kindIs (h : Sim T st r) (k : Nat) : Pr.kindIs k r = Po.kindIs T k st := by
  unfold Pr.kindIs Po.kindIs
  rw [← h.f]
  by_cases h0 : st.f.1 = 0
  · have hh := h.head h0
    rw [← hh]
    cases r.l <;> rfl
  · have hz : (st.f.1 == 0) = false := beq_eq_false_iff_ne.2 h0
    rw [hz]; rfl
theorem Sim.headName (h : Sim T st r) (h0 : st.f.1 = 0) : Pr.headName r = Po.kindIs T 1 st := by
  rw [← h.kindIs]
  unfold Pr.headName Pr.kindIs
  rw [← h.f, h0]
  cases r.l <;> rfl
theorem Sim.on (h : Sim T st r) : Sim T (Po.on st) (Pr.on r) :=
  ⟨h.f, fun h0 => by
    show r.l.tail = T.drop (st.at_ + 1)
    rw [h.l h0]; simp⟩
theorem Sim.wrong (h : Sim T st r) : Sim T (Po.wrong T e st) (Pr.wrong e r) := by
  unfold Po.wrong Pr.wrong
  rw [← h.f]
  by_cases h0 : st.f.1 = 0
  · rw [if_pos h0, if_pos h0, h.place h0]
    exact ⟨rfl, fun h1 => by simp [mkFault] at h1⟩
  · rw [if_neg h0, if_neg h0]; exact h
theorem Sim.want (h : Sim T st r) (x : Bytes) : Sim T (Po.want T e x st) (Pr.want e x r) := by
  unfold Po.want Pr.want
  rw [h.is]
  split
  · exact h.on
  · exact h.wrong
theorem Sim.ofS (h : Sim T st r) (k : Nat) : Sim T (takeSt T e k st) (Pr.ofS e k r) := by
  unfold takeSt Pr.ofS
  rw [h.kindIs]
  split
  · exact h.on
  · exact h.wrong
theorem Sim.ofT (h : Sim T st r) (k : Nat) : Pr.ofT k r = takeTok T k st := by
  unfold Pr.ofT takeTok
  rw [h.kindIs]
  split
  · rename_i hk
    have h0 : st.f.1 = 0 := by unfold Po.kindIs at hk; simp only [Bool.and_eq_true, beq_iff_eq] at hk; exact hk.1
    rw [← h.head h0]
    cases r.l <;> rfl
  · rfl
theorem Sim.whoS (h : Sim T st r) : Sim T (Po.whoS T e st) (Pr.whoS e wAny true r) := by
  unfold Po.whoS Pr.whoS
  rw [h.is]
  split
  · exact h.on
  · by_cases h0 : st.f.1 = 0
    · rw [h.headName h0]
      cases hk : Po.kindIs T 1 st with
      | true => simpa using h.ofS 1
      | false => simpa using h.ofS 3
    · have h1 : ∀ k, takeSt T e k st = st := fun k => by
        unfold takeSt Po.kindIs
        have : (st.f.1 == 0) = false := by simpa using h0
        rw [this]; simp only [Bool.false_and, Bool.false_eq_true, if_false]; unfold Po.wrong; rw [if_neg h0]
      have h2 : ∀ k, Pr.ofS e k r = r := fun k => by
        have h0' : r.f.1 ≠ 0 := by rw [← h.f]; exact h0
        unfold Pr.ofS Pr.kindIs
        have : (r.f.1 == 0) = false := by simpa using h0'
        rw [this]; simp only [Bool.false_and, Bool.false_eq_true, if_false]; unfold Pr.wrong; rw [if_neg h0']
      rw [h1, h1, h2, h2]
      simpa using h
theorem Sim.whoV (h : Sim T st r) (h0 : st.f.1 = 0) : Pr.whoV e wAny true r = Po.whoV T e st := by
  unfold Po.whoV Pr.whoV
  rw [h.is, h.place h0, h.headName h0, h.ofT, h.ofT]
  split
  · rfl
  · cases hk : Po.kindIs T 1 st <;> simp
theorem Sim.whereS (h : Sim T st r) : Sim T (Po.whereS T e st) (Pr.whoS e wAll false r) := by
  unfold Po.whereS Pr.whoS
  rw [h.is]
  split
  · exact h.on
  · simpa using h.ofS 1
theorem Sim.whereV (h : Sim T st r) (h0 : st.f.1 = 0) : Pr.whoV e wAll false r = Po.whereV T e st := by
  unfold Po.whereV Pr.whoV
  rw [h.is, h.place h0, h.ofT, h.ofT]
  split
  · rfl
  · simp
theorem Sim.tiersS (h : Sim T st r) : Sim T (Po.tiersS T e st) (Pr.tiersS e r) := by
  unfold Po.tiersS Pr.tiersS
  rw [h.is]
  split
  · exact h.on
  · rw [(h.ofS 3).is]
    split
    · exact (h.ofS 3).on.ofS 3
    · exact h.ofS 3
theorem Sim.loV (h : Sim T st r) : Pr.loV r = Po.loV T st := by unfold Po.loV Pr.loV; rw [h.is, h.ofT]
theorem Sim.hiV (h : Sim T st r) : Pr.hiV e r = Po.hiV T e st := by unfold Po.hiV Pr.hiV; rw [h.is, (h.ofS 3).is, (h.ofS 3).on.ofT, h.ofT]
theorem Sim.four (h : Sim T st r) : Sim T (Po.boxS T e st) (Pr.four e r) := (((h.ofS 3).ofS 3).ofS 3).ofS 3
theorem Sim.boxV (h : Sim T st r) : Pr.boxV e r = Po.boxV T e st := by
  unfold Po.boxV Pr.boxV
  simp only
  rw [h.ofT, (h.ofS 3).ofT, ((h.ofS 3).ofS 3).ofT, (((h.ofS 3).ofS 3).ofS 3).ofT]

/-- no fault is taken back -/
def Stays (a b : St) : Prop := a.f.1 ≠ 0 → b.f = a.f
theorem Stays.refl (a : St) : Stays a a := fun _ => rfl
theorem Stays.trans {a b c : St} (h : Stays a b) (k : Stays b c) : Stays a c := fun h0 => by
  have := h h0
  rw [k (by rw [this]; exact h0), this]
theorem Stays.zero {a b : St} (h : Stays a b) (h0 : b.f.1 = 0) : a.f.1 = 0 := by
  rcases Nat.eq_zero_or_pos a.f.1 with h1 | h1
  · exact h1
  · rw [← h (by omega)]; exact h0
theorem stays_on (a : St) : Stays a (Po.on a) := fun _ => rfl
theorem stays_wrong (a : St) : Stays a (Po.wrong T e a) := fun h0 => by unfold Po.wrong; rw [if_neg h0]
theorem stays_want (x : Bytes) (a : St) : Stays a (Po.want T e x a) := by
  unfold Po.want; split
  · exact stays_on a
  · exact stays_wrong a
theorem stays_take (k : Nat) (a : St) : Stays a (takeSt T e k a) := by
  unfold takeSt; split
  · exact stays_on a
  · exact stays_wrong a
theorem stays_who (a : St) : Stays a (Po.whoS T e a) := by
  unfold Po.whoS; split
  · exact stays_on a
  · split <;> exact stays_take _ a
theorem stays_where (a : St) : Stays a (Po.whereS T e a) := by
  unfold Po.whereS; split
  · exact stays_on a
  · exact stays_take _ a
theorem stays_tiers (a : St) : Stays a (Po.tiersS T e a) := by
  unfold Po.tiersS; split
  · exact stays_on a
  · split
    · exact ((stays_take 3 a).trans (stays_on _)).trans (stays_take 3 _)
    · exact stays_take 3 a
theorem stays_box (a : St) : Stays a (Po.boxS T e a) := (((stays_take 3 a).trans (stays_take 3 _)).trans (stays_take 3 _)).trans (stays_take 3 _)
theorem stays_more (f : Nat) : ∀ a : St, Stays a (Po.moreS T e f a) := by
  induction f with
  | zero => intro a; exact Stays.refl a
  | succ f ih =>
    intro a
    unfold Po.moreS
    split
    · exact ((stays_on a).trans (stays_box _)).trans (ih _)
    · exact Stays.refl a
theorem stays_boxes (a : St) : Stays a (Po.boxesS T e a) := (stays_box a).trans (stays_more _ _)

theorem Sim.rs1 (h : Sim T st r) : Sim T (Po.rs1 T e st) (Pr.ru3 e r) := ((h.want wRole).whoS).want wTier
theorem Sim.rs2 (h : Sim T st r) : Sim T (Po.rs2 T e st) (Pr.ru4 e r) := (h.rs1.tiersS).want wLabel
theorem Sim.rs3 (h : Sim T st r) : Sim T (Po.rs3 T e st) (Pr.ru5 e r) := (h.rs2.whoS).want wIn
theorem Sim.rs4 (h : Sim T st r) : Sim T (Po.rs4 T e st) (Pr.ru6 e r) := (h.rs3.whereS).want wZoom
theorem Sim.ruleS (h : Sim T st r) : Sim T (Po.ruleS T e st) (Pr.ruleS e r) := h.rs4.ofS 3
theorem stays_rs1 (a : St) : Stays (Po.want T e wRole a) (Po.rs1 T e a) := (stays_who _).trans (stays_want _ _)
theorem stays_rs2 (a : St) : Stays (Po.rs1 T e a) (Po.rs2 T e a) := (stays_tiers _).trans (stays_want _ _)
theorem stays_rs3 (a : St) : Stays (Po.rs2 T e a) (Po.rs3 T e a) := (stays_who _).trans (stays_want _ _)
theorem stays_rs4 (a : St) : Stays (Po.rs3 T e a) (Po.rs4 T e a) := (stays_where _).trans (stays_want _ _)
theorem stays_rule (a : St) : Stays a (Po.ruleS T e a) := (((((stays_want _ a).trans (stays_rs1 a)).trans (stays_rs2 a)).trans (stays_rs3 a)).trans (stays_rs4 a)).trans (stays_take 3 _)
theorem stays_cloak (a : St) : Stays a (Po.cloakS T e a) := (stays_want _ a).trans (stays_who _)
theorem stays_named (a : St) : Stays a (Po.namedS T e a) := ((stays_take 1 a).trans (stays_want _ _)).trans (stays_take 3 _)
theorem stays_region (a : St) : Stays a (Po.regionS T e a) := ((stays_take 1 a).trans (stays_want _ _)).trans (stays_boxes _)
theorem Sim.ruleV (h : Sim T st r) (d : Decl) (h0 : (Po.ruleS T e st).f.1 = 0) : Pr.ruleV e d r = Po.ruleV T e d st := by
  have er : Po.ruleS T e st = takeSt T e 3 (Po.rs4 T e st) := rfl
  rw [er] at h0
  have h4 : (Po.rs4 T e st).f.1 = 0 := (stays_take (T := T) (e := e) 3 (Po.rs4 T e st)).zero h0
  have h3 : (Po.rs3 T e st).f.1 = 0 := (stays_rs4 st).zero h4
  have h2 : (Po.rs2 T e st).f.1 = 0 := (stays_rs3 st).zero h3
  have h1 : (Po.rs1 T e st).f.1 = 0 := (stays_rs2 st).zero h2
  have hw : (Po.want T e wRole st).f.1 = 0 := (stays_rs1 st).zero h1
  unfold Pr.ruleV Po.ruleV Pr.ru1
  rw [(h.want wRole).whoV hw, h.rs1.loV, h.rs1.hiV, h.rs2.whoV h2, h.rs3.whereV h3, h.rs4.ofT]

theorem takeSt_gt {k : Nat} {a : St} (h : (takeSt T e k a).f.1 = 0) : a.at_ + 1 = (takeSt T e k a).at_ := by
  unfold takeSt at *
  split at h
  · rename_i hk; rw [if_pos hk]; rfl
  · unfold Po.wrong at h
    split at h
    · simp [mkFault] at h
    · contradiction
theorem moreS_fuel (g : Nat) : ∀ (f : Nat) (a : St), T.length < f + a.at_ → T.length < g + a.at_ → Po.moreS T e f a = Po.moreS T e g a ∧ Po.moreV T e f a = Po.moreV T e g a := by
  induction g with
  | zero =>
    intro f a hf hg
    have hi : Po.is T [43] a = false := by
      rw [Bool.eq_false_iff]
      intro h
      have := lt_of_is h
      omega
    cases f with
    | zero => exact ⟨rfl, rfl⟩
    | succ f => unfold Po.moreS Po.moreV; simp [hi]
  | succ g ih =>
    intro f a hf hg
    cases f with
    | zero =>
      have hi : Po.is T [43] a = false := by
        rw [Bool.eq_false_iff]
        intro h
        have := lt_of_is h
        omega
      unfold Po.moreS Po.moreV; simp [hi]
    | succ f =>
      have hb := boxS_le T e (Po.on a)
      have ho : (Po.on a).at_ = a.at_ + 1 := rfl
      have := ih f (Po.boxS T e (Po.on a)) (by omega) (by omega)
      unfold Po.moreS Po.moreV
      split
      · rw [this.1, this.2]; exact ⟨rfl, rfl⟩
      · exact ⟨rfl, rfl⟩
theorem Sim.more (f : Nat) : ∀ {st : St} {r : R}, Sim T st r → Sim T (Po.moreS T e f st) (Pr.moreS e f r) ∧ Pr.moreV e f r = Po.moreV T e f st := by
  induction f with
  | zero => intro st r h; exact ⟨h, rfl⟩
  | succ f ih =>
    intro st r h
    unfold Po.moreS Pr.moreS Po.moreV Pr.moreV
    rw [h.is]
    split
    · have := ih (h.on.four (e := e))
      exact ⟨this.1, by rw [this.2, h.on.boxV]⟩
    · exact ⟨h, rfl⟩
theorem Sim.len (h : Sim T st r) (h0 : st.f.1 = 0) : r.l.length = T.length - st.at_ := by rw [h.l h0, List.length_drop]
theorem moreS_stopped {a : St} (h : a.f.1 ≠ 0) (f : Nat) : Po.moreS T e f a = a ∧ Po.moreV T e f a = [] := by
  have hi : Po.is T [43] a = false := by unfold Po.is; simp [h]
  cases f with
  | zero => exact ⟨rfl, rfl⟩
  | succ f => unfold Po.moreS Po.moreV; simp [hi]
theorem Sim.boxes (h : Sim T st r) : Sim T (Po.boxesS T e st) (Pr.boxesS e r) ∧ Pr.boxesV e r = Po.boxesV T e st := by
  unfold Po.boxesS Pr.boxesS Po.boxesV Pr.boxesV
  have hm := Sim.more (e := e) (r.l.length + 1) (h.four (e := e))
  have hf : Po.moreS T e (T.length + 1) (Po.boxS T e st) = Po.moreS T e (r.l.length + 1) (Po.boxS T e st) ∧ Po.moreV T e (T.length + 1) (Po.boxS T e st) = Po.moreV T e (r.l.length + 1) (Po.boxS T e st) := by
    by_cases h0 : (Po.boxS T e st).f.1 = 0
    · have h1 : st.f.1 = 0 := (stays_box st).zero h0
      have hl := h.len h1
      have hb := boxS_le T e st
      exact moreS_fuel _ _ _ (by omega) (by omega)
    · rw [(moreS_stopped h0 _).1, (moreS_stopped h0 _).1, (moreS_stopped h0 _).2, (moreS_stopped h0 _).2]
      exact ⟨rfl, rfl⟩
  rw [hf.1, hf.2]
  exact ⟨hm.1, by rw [hm.2, h.boxV]⟩

theorem is_unique {x y : Bytes} (hx : Po.is T x st = true) (hn : x ≠ y) : Po.is T y st = false := by
  unfold Po.is at *
  cases ht : T[st.at_]? with
  | none => simp
  | some t =>
    rw [ht] at hx
    simp only [Bool.and_eq_true, beq_iff_eq] at hx
    simp only [Bool.and_eq_false_iff, beq_eq_false_iff_ne]
    right
    rw [hx.2]; exact hn
/-- the kind of the next declaration, by the program's order -/
def kindP (T : List Tok) (st : St) : Nat :=
  if Po.is T wRole st then 1 else if Po.is T wLabel st then 2 else if Po.is T wRegion st then 3 else if Po.is T wAllow st then 4 else if Po.is T wCap st then 5 else if Po.is T wCloak st then 6 else 0
theorem Sim.kindOf (h : Sim T st r) : Pr.kindOf r = kindP T st := by
  unfold Pr.kindOf kindP
  rw [h.is, h.is, h.is, h.is, h.is, h.is]
  cases h1 : Po.is T wRole st with
  | true => simp [is_unique h1 (y := wLabel) (by decide), is_unique h1 (y := wRegion) (by decide), is_unique h1 (y := wAllow) (by decide), is_unique h1 (y := wCap) (by decide), is_unique h1 (y := wCloak) (by decide)]
  | false =>
    cases h2 : Po.is T wLabel st with
    | true => simp [is_unique h2 (y := wRegion) (by decide), is_unique h2 (y := wAllow) (by decide), is_unique h2 (y := wCap) (by decide), is_unique h2 (y := wCloak) (by decide)]
    | false =>
      cases h3 : Po.is T wRegion st with
      | true => simp [is_unique h3 (y := wAllow) (by decide), is_unique h3 (y := wCap) (by decide), is_unique h3 (y := wCloak) (by decide)]
      | false =>
        cases h4 : Po.is T wAllow st with
        | true => simp [is_unique h4 (y := wCap) (by decide), is_unique h4 (y := wCloak) (by decide)]
        | false =>
          cases h5 : Po.is T wCap st with
          | true => simp [is_unique h5 (y := wCloak) (by decide)]
          | false => cases Po.is T wCloak st <;> simp
theorem declS_kind : Po.declS T e st = Po.want T e [59] (match kindP T st with | 1 => namedS T e (Po.on st) | 2 => namedS T e (Po.on st) | 3 => regionS T e (Po.on st) | 4 => Po.ruleS T e (Po.on st) | 5 => Po.ruleS T e (Po.on st) | 6 => cloakS T e (Po.on st) | _ => Po.ruleS T e (Po.wrong T e st)) := by
  unfold Po.declS kindP
  cases Po.is T wRole st with
  | true => simp only [if_true]
  | false =>
    cases Po.is T wLabel st with
    | true => simp only [Bool.false_eq_true, if_false, if_true]
    | false =>
      cases Po.is T wRegion st with
      | true => simp only [Bool.false_eq_true, if_false, if_true]
      | false =>
        cases Po.is T wAllow st with
        | true => simp only [Bool.false_eq_true, if_false, if_true]
        | false =>
          cases Po.is T wCap st with
          | true => simp only [Bool.false_eq_true, if_false, if_true]
          | false => cases Po.is T wCloak st <;> simp only [Bool.false_eq_true, if_false, if_true]
theorem declV_kind : Po.declV T e st = match kindP T st with | 1 => namedV T e (Po.declAt T e st 1) (Po.on st) | 2 => namedV T e (Po.declAt T e st 2) (Po.on st) | 3 => regionV T e (Po.declAt T e st 3) (Po.on st) | 4 => Po.ruleV T e (Po.declAt T e st 4) (Po.on st) | 5 => Po.ruleV T e (Po.declAt T e st 5) (Po.on st) | 6 => cloakV T e (Po.declAt T e st 6) (Po.on st) | _ => Po.ruleV T e (Po.declAt T e st 0) (Po.wrong T e st) := by
  unfold Po.declV kindP
  cases Po.is T wRole st with
  | true => simp only [if_true]
  | false =>
    cases Po.is T wLabel st with
    | true => simp only [Bool.false_eq_true, if_false, if_true]
    | false =>
      cases Po.is T wRegion st with
      | true => simp only [Bool.false_eq_true, if_false, if_true]
      | false =>
        cases Po.is T wAllow st with
        | true => simp only [Bool.false_eq_true, if_false, if_true]
        | false =>
          cases Po.is T wCap st with
          | true => simp only [Bool.false_eq_true, if_false, if_true]
          | false => cases Po.is T wCloak st <;> simp only [Bool.false_eq_true, if_false, if_true]
theorem kindP_le : kindP T st ≤ 6 := by
  unfold kindP
  cases Po.is T wRole st <;> cases Po.is T wLabel st <;> cases Po.is T wRegion st <;> cases Po.is T wAllow st <;> cases Po.is T wCap st <;> cases Po.is T wCloak st <;> decide
theorem declAt_eq (h : Sim T st r) (h0 : st.f.1 = 0) : Pr.declAt e r = Po.declAt T e st (kindP T st) := by
  unfold Pr.declAt Po.declAt
  rw [h.kindOf, h.place h0]
theorem Sim.named (h : Sim T st r) : Sim T (Po.want T e [61] (takeSt T e 1 (Po.on st))) (Pr.named e r) := (h.on.ofS 1).want [61]
theorem wrong_stop (h0 : st.f.1 = 0) : (Po.wrong T e st).f.1 ≠ 0 := by unfold Po.wrong; rw [if_pos h0]; simp [mkFault]
/-- a declaration: the states go on side by side; the values are one where there is no fault -/
theorem Sim.decl (h : Sim T st r) (h0 : st.f.1 = 0) : Sim T (Po.declS T e st) (Pr.declS e r) ∧ ((Po.declS T e st).f.1 = 0 → Pr.declV e r = Po.declV T e st) := by
  have hle := kindP_le (T := T) (st := st)
  have hd := declAt_eq (e := e) h h0
  have hk := h.kindOf
  rw [declS_kind, declV_kind]
  unfold Pr.declS Pr.declV
  rw [hk, hd]
  generalize hkk : kindP T st = k at *
  have h7 : k = 0 ∨ k = 1 ∨ k = 2 ∨ k = 3 ∨ k = 4 ∨ k = 5 ∨ k = 6 := by omega
  have ez : ∀ x : St, (Po.want T e [59] x).f.1 = 0 → x.f.1 = 0 := fun x hx => (stays_want (T := T) (e := e) [59] x).zero hx
  have ec1 : ((1 : Nat) : Int) = 1 := rfl
  have ec : ((2 : Nat) : Int) = 2 ∧ ((3 : Nat) : Int) = 3 ∧ ((4 : Nat) : Int) = 4 ∧ ((5 : Nat) : Int) = 5 ∧ ((6 : Nat) : Int) = 6 := ⟨rfl, rfl, rfl, rfl, rfl⟩
  rcases h7 with rfl | rfl | rfl | rfl | rfl | rfl | rfl
  · simp only [if_true]
    have hw := wrong_stop (T := T) (e := e) h0
    have hs : Stays (Po.wrong T e st) (Po.want T e [59] (Po.ruleS T e (Po.wrong T e st))) := (stays_rule _).trans (stays_want _ _)
    have hf := hs hw
    generalize Po.want T e [59] (Po.ruleS T e (Po.wrong T e st)) = z at *
    have hz : z.f.1 ≠ 0 := by rw [hf]; exact hw
    exact ⟨⟨by rw [hf]; exact h.wrong.f, fun h1 => absurd h1 hz⟩, fun h1 => absurd h1 hz⟩
  · simp only [Nat.reduceLeDiff, if_true, if_false, Nat.one_ne_zero, ec1]
    exact ⟨(h.named.ofS 3).want [59], fun h1 => by unfold namedV; rw [h.on.ofT, h.named.ofT]⟩
  · simp only [Nat.reduceLeDiff, if_true, if_false, Nat.reduceEqDiff, ec.1]
    exact ⟨(h.named.ofS 3).want [59], fun h1 => by unfold namedV; rw [h.on.ofT, h.named.ofT]⟩
  · simp only [Nat.reduceLeDiff, if_true, if_false, Nat.reduceEqDiff, ec.2.1]
    exact ⟨(h.named.boxes.1).want [59], fun h1 => by unfold regionV; rw [h.on.ofT, h.named.boxes.2]⟩
  · simp only [Nat.reduceLeDiff, if_false, Nat.reduceEqDiff, ec.2.2.1]
    exact ⟨(h.on.ruleS).want [59], fun h1 => h.on.ruleV _ (ez _ h1)⟩
  · simp only [Nat.reduceLeDiff, if_false, Nat.reduceEqDiff, ec.2.2.2.1]
    exact ⟨(h.on.ruleS).want [59], fun h1 => h.on.ruleV _ (ez _ h1)⟩
  · simp only [Nat.reduceLeDiff, if_true, if_false, Nat.reduceEqDiff, ec.2.2.2.2]
    exact ⟨((h.on.want wRole).whoS).want [59], fun h1 => by
      have h2 := ez _ h1
      unfold cloakS at h2
      unfold cloakV
      rw [(h.on.want wRole).whoV ((stays_who _).zero h2)]⟩

theorem stays_decl (a : St) : Stays a (Po.declS T e a) := by
  rw [declS_kind]
  have : ∀ x : St, Stays a x → Stays a (Po.want T e [59] x) := fun x hx => hx.trans (stays_want _ _)
  apply this
  split
  · exact (stays_on a).trans (stays_named _)
  · exact (stays_on a).trans (stays_named _)
  · exact (stays_on a).trans (stays_region _)
  · exact (stays_on a).trans (stays_rule _)
  · exact (stays_on a).trans (stays_rule _)
  · exact (stays_on a).trans (stays_cloak _)
  · exact (stays_wrong a).trans (stays_rule _)
theorem stays_parse (f : Nat) : ∀ a : St, Stays a (Po.parseS T e f a) := by
  induction f with
  | zero => intro a; exact Stays.refl a
  | succ f ih =>
    intro a
    unfold Po.parseS
    split
    · exact (stays_decl a).trans (ih _)
    · exact Stays.refl a
/-- both parse alike, with the same fuel -/
theorem Sim.parse (f : Nat) : ∀ {st : St} {r : R}, Sim T st r → Sim T (Po.parseS T e f st) (Pr.parseS e f r) ∧ ((Po.parseS T e f st).f.1 = 0 → Pr.parseV e f r = Po.parseV T e f st) := by
  induction f with
  | zero => intro st r h; exact ⟨h, fun _ => rfl⟩
  | succ f ih =>
    intro st r h
    unfold Po.parseS Pr.parseS Po.parseV Pr.parseV
    by_cases h0 : st.f.1 = 0
    · have hl : (st.at_ < T.length ∧ st.f.1 = 0) ↔ (r.l ≠ [] ∧ r.f.1 = 0) := by
        rw [← h.f, h.l h0]
        constructor
        · intro ⟨h1, h2⟩
          refine ⟨fun h3 => ?_, h2⟩
          have := congrArg List.length h3
          rw [List.length_drop, List.length_nil] at this
          omega
        · intro ⟨h1, h2⟩
          refine ⟨?_, h2⟩
          rcases Nat.lt_or_ge st.at_ T.length with h4 | h4
          · exact h4
          · exact absurd (List.drop_eq_nil_of_le h4) h1
      by_cases hc : st.at_ < T.length ∧ st.f.1 = 0
      · have hd := h.decl (e := e) h0
        have := ih hd.1
        rw [if_pos hc, if_pos (hl.1 hc), if_pos hc, if_pos (hl.1 hc)]
        exact ⟨this.1, fun h1 => by rw [this.2 h1, hd.2 ((stays_parse f _).zero h1)]⟩
      · rw [if_neg hc, if_neg (fun x => hc (hl.2 x)), if_neg hc, if_neg (fun x => hc (hl.2 x))]
        exact ⟨h, fun _ => rfl⟩
    · have n1 : ¬ (st.at_ < T.length ∧ st.f.1 = 0) := fun x => h0 x.2
      have n2 : ¬ (r.l ≠ [] ∧ r.f.1 = 0) := fun x => h0 (by rw [h.f]; exact x.2)
      rw [if_neg n1, if_neg n2, if_neg n1, if_neg n2]
      exact ⟨h, fun _ => rfl⟩

end Go.Proofs.YteddkgpnklfppaaGreatDoor.Pr

namespace Go.Proofs.YteddkgpnklfppaaGreatDoor.Po
open Lx

variable {T : List Tok} {e : Nat × Nat}
theorem wrong_at (a : St) : (wrong T e a).at_ = a.at_ := by unfold wrong; split <;> rfl
theorem want_le (x : Bytes) (a : St) : a.at_ ≤ (want T e x a).at_ := by
  unfold want; split
  · show a.at_ ≤ a.at_ + 1; omega
  · rw [wrong_at]; exact Nat.le_refl _
theorem who_le (a : St) : a.at_ ≤ (whoS T e a).at_ := by
  unfold whoS; split
  · show a.at_ ≤ a.at_ + 1; omega
  · split <;> exact takeSt_le T e _ a
theorem where_le (a : St) : a.at_ ≤ (whereS T e a).at_ := by
  unfold whereS; split
  · show a.at_ ≤ a.at_ + 1; omega
  · exact takeSt_le T e _ a
theorem on_le (a : St) : a.at_ ≤ (on a).at_ := by show a.at_ ≤ a.at_ + 1; omega
theorem tiers_le (a : St) : a.at_ ≤ (tiersS T e a).at_ := by
  unfold tiersS; split
  · exact on_le a
  · split
    · exact Nat.le_trans (Nat.le_trans (takeSt_le T e 3 a) (on_le _)) (takeSt_le T e 3 _)
    · exact takeSt_le T e 3 a
theorem more_le (f : Nat) : ∀ a : St, a.at_ ≤ (moreS T e f a).at_ := by
  induction f with
  | zero => intro a; exact Nat.le_refl _
  | succ f ih =>
    intro a
    unfold moreS
    split
    · exact Nat.le_trans (Nat.le_trans (on_le a) (boxS_le T e _)) (ih _)
    · exact Nat.le_refl _
theorem cloak_le (a : St) : a.at_ ≤ (cloakS T e a).at_ := Nat.le_trans (want_le _ a) (who_le _)
theorem rule_le (a : St) : a.at_ ≤ (ruleS T e a).at_ := by
  unfold ruleS rs4 rs3 rs2 rs1
  exact Nat.le_trans (Nat.le_trans (Nat.le_trans (Nat.le_trans (Nat.le_trans (Nat.le_trans (Nat.le_trans (Nat.le_trans (Nat.le_trans (cloak_le a) (want_le _ _)) (tiers_le _)) (want_le _ _)) (who_le _)) (want_le _ _)) (where_le _)) (want_le _ _)) (takeSt_le T e _ _)) (Nat.le_refl _)
theorem named_le (a : St) : a.at_ ≤ (namedS T e a).at_ := Nat.le_trans (Nat.le_trans (takeSt_le T e 1 a) (want_le _ _)) (takeSt_le T e 3 _)
theorem region_le (a : St) : a.at_ ≤ (regionS T e a).at_ := Nat.le_trans (Nat.le_trans (Nat.le_trans (takeSt_le T e 1 a) (want_le _ _)) (boxS_le T e _)) (more_le _ _)
theorem want_gt {x : Bytes} {a : St} (h : (want T e x a).f.1 = 0) : a.at_ + 1 = (want T e x a).at_ := by
  unfold want at *
  split at h
  · rename_i hk; rw [if_pos hk]; rfl
  · unfold wrong at h
    split at h
    · simp [mkFault] at h
    · contradiction
theorem decl_gt (a : St) (h : (declS T e a).f.1 = 0) : a.at_ + 1 ≤ (declS T e a).at_ := by
  rw [Pr.declS_kind] at *
  have : ∀ x : St, a.at_ ≤ x.at_ → (want T e [59] x).f.1 = 0 → a.at_ + 1 ≤ (want T e [59] x).at_ := fun x hx hw => by have := want_gt hw; omega
  refine this _ ?_ h
  split
  · exact Nat.le_trans (on_le a) (named_le _)
  · exact Nat.le_trans (on_le a) (named_le _)
  · exact Nat.le_trans (on_le a) (region_le _)
  · exact Nat.le_trans (on_le a) (rule_le _)
  · exact Nat.le_trans (on_le a) (rule_le _)
  · exact Nat.le_trans (on_le a) (cloak_le _)
  · exact Nat.le_trans (by rw [wrong_at]; exact Nat.le_refl _) (rule_le _)

/-- declarations so far, and what is still to be read -/
structure Parsing (T : List Tok) (e : Nat × Nat) (st0 : St) (f : Nat) (ds : List Decl) (st : St) : Prop where
  val : parseV T e (T.length + 1) st0 = ds ++ parseV T e f st
  state : parseS T e (T.length + 1) st0 = parseS T e f st
  fuel : T.length < f + st.at_ ∨ st.f.1 ≠ 0
  len : ds.length + f ≤ T.length + 1
theorem Parsing.begin (T : List Tok) (e : Nat × Nat) (st : St) : Parsing T e st (T.length + 1) [] st := ⟨rfl, rfl, .inl (by omega), by simp⟩
theorem Parsing.pos {st0 st : St} {f : Nat} {ds : List Decl} (h : Parsing T e st0 f ds st) (hl : st.at_ < T.length) (h0 : st.f.1 = 0) : 0 < f := by
  rcases h.fuel with h1 | h1
  · omega
  · exact absurd h0 h1
theorem Parsing.step {st0 st : St} {f : Nat} {ds : List Decl} (h : Parsing T e st0 (f + 1) ds st) (hl : st.at_ < T.length) (h0 : st.f.1 = 0) : Parsing T e st0 f (ds ++ [declV T e st]) (declS T e st) := by
  refine ⟨?_, ?_, ?_, ?_⟩
  · rw [h.val, parseV, if_pos ⟨hl, h0⟩]; simp
  · rw [h.state, parseS, if_pos ⟨hl, h0⟩]
  · by_cases h1 : (declS T e st).f.1 = 0
    · have := decl_gt st h1
      rcases h.fuel with h2 | h2
      · exact .inl (by omega)
      · exact absurd h0 h2
    · exact .inr h1
  · have := h.len; simp; omega
theorem Parsing.stop {st0 st : St} {f : Nat} {ds : List Decl} (h : Parsing T e st0 f ds st) (hi : ¬ (st.at_ < T.length ∧ st.f.1 = 0)) : parseV T e (T.length + 1) st0 = ds ∧ parseS T e (T.length + 1) st0 = st := by
  have h1 := h.val
  have h2 := h.state
  cases f with
  | zero => rw [parseV, List.append_nil] at h1; rw [parseS] at h2; exact ⟨h1, h2⟩
  | succ f =>
    have e1 : parseV T e (f + 1) st = [] := by rw [parseV, if_neg hi]
    have e2 : parseS T e (f + 1) st = st := by rw [parseS, if_neg hi]
    rw [e1, List.append_nil] at h1
    rw [e2] at h2
    exact ⟨h1, h2⟩

def st0 : St := ⟨0, (0, 0, 0)⟩
/-- a text's declarations, or the fault -/
def parse (L : Bytes) : Except Fault (List Decl) :=
  match tokens L with
  | .error f => .error f
  | .ok T => if (parseS T (posOf L) (T.length + 1) st0).f.1 = 0 then .ok (parseV T (posOf L) (T.length + 1) st0) else .error (parseS T (posOf L) (T.length + 1) st0).f

/-- the reference's answer is the same -/
theorem rparse_eq (T : List Tok) (e : Nat × Nat) (f : Nat) :
    (Pr.parseS e f ⟨T, (0, 0, 0)⟩).f = (parseS T e f st0).f ∧ ((parseS T e f st0).f.1 = 0 → Pr.parseV e f ⟨T, (0, 0, 0)⟩ = parseV T e f st0) := by
  have h := Pr.Sim.parse (e := e) f (st := st0) (r := ⟨T, (0, 0, 0)⟩) (T := T) ⟨rfl, fun _ => rfl⟩
  exact ⟨h.1.f.symm, h.2⟩

end Go.Proofs.YteddkgpnklfppaaGreatDoor.Po

namespace Go.Proofs.YteddkgpnklfppaaGreatDoor.Lx

theorem take_takeWhile (p : UInt8 → Bool) (l : Bytes) : l.take (l.takeWhile p).length = l.takeWhile p := by
  have h := List.takeWhile_append_dropWhile (p := p) (l := l)
  have h2 := congrArg (List.take (l.takeWhile p).length) h
  rw [List.take_left] at h2
  exact h2.symm
/-- a token's text stands at the beginning -/
theorem tok_prefix {l : Bytes} {k n : Nat} {t : Bytes} (h : tok l = .ok (k, t, n)) : l.take t.length = t := by
  unfold tok at h
  split at h
  · cases h
  · rename_i c l
    split at h
    · simp only at h
      split at h
      · cases h
      · have := Except.ok.inj h
        simp only [Prod.mk.injEq] at this
        rw [← this.2.1]; exact take_takeWhile _ _
    · split at h
      · simp only at h
        split at h
        · cases h
        · have := Except.ok.inj h
          simp only [Prod.mk.injEq] at this
          rw [← this.2.1]; exact take_takeWhile _ _
      · split at h
        · have := Except.ok.inj h
          simp only [Prod.mk.injEq] at this
          rw [← this.2.1]; rfl
        · split at h
          · rename_i hc
            have := Except.ok.inj h
            simp only [Prod.mk.injEq] at this
            rw [← this.2.1, hc.1]
            cases l with
            | nil => simp at hc
            | cons d l => simp only [List.head?_cons, Option.some.injEq] at hc; rw [hc.2]; rfl
          · cases h
theorem tok_le {l : Bytes} {k n : Nat} {t : Bytes} (h : tok l = .ok (k, t, n)) : t.length ≤ l.length := by
  have := congrArg List.length (tok_prefix h)
  rw [List.length_take] at this
  omega

theorem toks_bound (L : Bytes) : ∀ (f i : Nat) (ts : List Tok), i ≤ L.length → toks L f i = .ok ts → ts.length + i ≤ L.length ∧ ∀ t ∈ ts, t.text.length ≤ L.length := by
  intro f
  induction f with
  | zero =>
    intro i ts hi h
    simp only [toks, Except.ok.injEq] at h
    subst h
    exact ⟨by simpa using hi, by simp⟩
  | succ f ih =>
    intro i ts hi h
    simp only [toks] at h
    split at h
    · simp only [Except.ok.injEq] at h
      subst h
      exact ⟨by simpa using hi, by simp⟩
    · rename_i hlt
      cases ht : tok (L.drop (i + skipN false (L.drop i))) with
      | error e => rw [ht] at h; cases h
      | ok x =>
        obtain ⟨k, t, n⟩ := x
        rw [ht] at h
        simp only at h
        have hp := tok_pos ht
        have hle := tok_le ht
        rw [List.length_drop] at hle
        cases hr : toks L f (i + skipN false (L.drop i) + t.length) with
        | error e => rw [hr] at h; cases h
        | ok us =>
          rw [hr] at h
          simp only [Except.map, Except.ok.injEq] at h
          obtain ⟨h1, h2⟩ := ih _ us (by omega) hr
          subst h
          refine ⟨by simp only [List.length_cons]; omega, ?_⟩
          intro u hu
          rcases List.mem_cons.1 hu with rfl | hu
          · simp only; omega
          · exact h2 u hu
theorem tokens_bound {L : Bytes} {ts : List Tok} (h : tokens L = .ok ts) : ts.length ≤ 512 ∧ ∀ t ∈ ts, t.text.length ≤ 512 := by
  unfold tokens at h
  split at h
  · cases h
  · rename_i hl
    obtain ⟨h1, h2⟩ := toks_bound L _ 0 ts (Nat.zero_le _) h
    exact ⟨by omega, fun t ht => by have := h2 t ht; omega⟩

end Go.Proofs.YteddkgpnklfppaaGreatDoor.Lx
