/-
  What is read may be; the form, and what rules come of it, say nothing of places. No program.
  Plain facts that TopPolicy wants: how many rules a policy comes to; its faults; what must come of a fixed text.
  The walks of the law's Same and allowed.
  The library's strconv.Itoa at this dump: its contract, laid by the kit's tool; numbers' texts.
-/
import Derived.Test.YteddkgpnklfppaaGreatDoorPk24
import Derived.Test.YteddkgpnklfppaaGreatDoorPk16
import Derived.Test.YteddkgpnklfppaaGreatDoorPk21
import Derived.Test.YteddkgpnklfppaaGreatDoorPk19
import Derived.Test.YteddkgpnklfppaaGreatDoorPk20
import Derived.Test.YteddkgpnklfppaaGreatDoorPk01
import Derived.Shelf.LaysM
import Derived.Shelf.Strconv.Itoa3
import Derived.Lib.AppendIntMem

namespace Go.Proofs.YteddkgpnklfppaaGreatDoor.Pt
open Lx Po

/-! ### what is read may be -/
def TokOk (t : Tok) : Prop := (t.kind = 1 → isName t.text = true) ∧ t.n ≤ 65535
theorem tok_ok {l : Bytes} {k n : Nat} {w : Bytes} (h : tok l = .ok (k, w, n)) : (k = 1 → isName w = true) ∧ n ≤ 65535 := by
  cases l with
  | nil => cases h
  | cons c l =>
    rw [tok_cons] at h
    by_cases h1 : letter c = true
    · rw [if_pos h1] at h
      split at h
      · cases h
      · rename_i h2
        have hw : (c :: l).takeWhile inner = c :: l.takeWhile inner := List.takeWhile_cons_of_pos (by simp [inner, h1])
        have ha := all_takeWhile inner (c :: l)
        generalize (c :: l).takeWhile inner = x at *
        subst hw
        have := Except.ok.inj h
        simp only [Prod.mk.injEq] at this
        obtain ⟨rfl, rfl, rfl⟩ := this
        refine ⟨fun hk => ?_, by omega⟩
        have hnw : isWord (c :: l.takeWhile inner) = false := by
          cases hw : isWord (c :: l.takeWhile inner) with
          | false => rfl
          | true => rw [hw] at hk; cases hk
        unfold isName
        simp only [Bool.and_eq_true, decide_eq_true_eq]
        exact ⟨⟨⟨by omega, h1⟩, ha⟩, by rw [hnw]; rfl⟩
    · rw [if_neg h1] at h
      split at h
      · split at h
        · cases h
        · rename_i m hm
          have := Except.ok.inj h
          simp only [Prod.mk.injEq] at this
          obtain ⟨rfl, rfl, rfl⟩ := this
          refine ⟨(fun hk => by cases hk), ?_⟩
          unfold number at hm
          split at hm
          · cases hm
          · rename_i hn
            have := Option.some.inj hm
            have : ¬ 65535 < numAcc 0 ((c :: l).takeWhile digit) := fun x => hn (.inr x)
            omega
      · split at h
        · have := Except.ok.inj h
          simp only [Prod.mk.injEq] at this
          obtain ⟨rfl, rfl, rfl⟩ := this
          exact ⟨(fun hk => by cases hk), by omega⟩
        · split at h
          · have := Except.ok.inj h
            simp only [Prod.mk.injEq] at this
            obtain ⟨rfl, rfl, rfl⟩ := this
            exact ⟨(fun hk => by cases hk), by omega⟩
          · cases h
theorem toks_good (L : Bytes) (f : Nat) : ∀ (i : Nat) (ts : List Tok), toks L f i = .ok ts → ∀ t ∈ ts, TokOk t := by
  induction f with
  | zero => intro i ts h t ht; cases h; simp at ht
  | succ f ih =>
    intro i ts h t ht
    simp only [toks] at h
    split at h
    · cases h; simp at ht
    · split at h
      · cases h
      · rename_i k w n hk
        cases hr : toks L f (i + skipN false (L.drop i) + w.length) with
        | error x => rw [hr] at h; cases h
        | ok us =>
          rw [hr] at h
          have h := Except.ok.inj h
          subst h
          rcases List.mem_cons.1 ht with rfl | ht
          · exact tok_ok hk
          · exact ih _ us hr t ht
theorem tokens_good {L : Bytes} {ts : List Tok} (h : tokens L = .ok ts) : ∀ t ∈ ts, TokOk t := by
  unfold tokens at h
  split at h
  · cases h
  · exact toks_good L _ 0 ts h

theorem txt_list (l : Bytes) : (txt l).data.toList = l := by simp [txt]
section
variable {T : List Tok} {e : Nat × Nat} {st : St} (hT : ∀ t ∈ T, TokOk t)
include hT
theorem num_tok (k : Nat) (st : St) : Ru.num ((takeTok T k st).n : Int) = true := by
  have h : (takeTok T k st).n ≤ 65535 := by
    unfold takeTok
    split
    · cases hi : T[st.at_]? with
      | none => exact Nat.zero_le _
      | some t => exact (hT t (List.mem_of_getElem? hi)).2
    · exact Nat.zero_le _
  unfold Ru.num
  simp only [Bool.and_eq_true, decide_eq_true_eq]
  omega
theorem name_tok (h : kindIs T 1 st = true) : isName (takeTok T 1 st).text = true := by
  unfold takeTok
  rw [if_pos h]
  unfold kindIs at h
  cases hi : T[st.at_]? with
  | none => rw [hi] at h; simp at h
  | some t =>
    rw [hi] at h
    simp only [Bool.and_eq_true, beq_iff_eq] at h
    exact (hT t (List.mem_of_getElem? hi)).1 h.2
omit hT in
theorem name_ne {x : Bytes} (h : isName x = true) : (x == []) = false := by
  cases x with
  | nil => cases h
  | cons c l => rfl
theorem who_right (_h : (whoS T e st).f.1 = 0) : Ru.rightW (whoV T e st) = true := by
  unfold whoV
  split
  · rfl
  · split
    · rename_i h2
      have hn := name_tok hT h2
      unfold Ru.rightW
      simp only [txt_list, Bool.false_eq_true, ↓reduceIte, name_ne hn, hn]
      rfl
    · unfold Ru.rightW
      simp only [Bool.false_eq_true, ↓reduceIte]
      exact num_tok hT 3 st
theorem where_right (h : (whereS T e st).f.1 = 0) : Ru.placeW (whereV T e st) = true := by
  unfold whereS at h
  unfold whereV
  split
  · rfl
  · rename_i h1
    rw [if_neg h1] at h
    have hn := name_tok hT (take_yes h)
    unfold Ru.placeW Ru.rightW
    simp only [txt_list, Bool.false_eq_true, ↓reduceIte, name_ne hn, hn, bne]
    rfl
theorem tiers_num : Ru.num (loV T st) = true ∧ Ru.num (hiV T e st) = true := by
  unfold loV hiV
  constructor
  · split
    · rfl
    · exact num_tok hT 3 st
  · split
    · rfl
    · split
      · exact num_tok hT 3 _
      · exact num_tok hT 3 st
theorem box_num (st : St) : Ru.boxN (boxV T e st) = true := by
  unfold boxV Ru.boxN
  simp only [num_tok hT, Bool.and_self]
theorem more_num (f : Nat) : ∀ st : St, ∀ b ∈ moreV T e f st, Ru.boxN b = true := by
  induction f with
  | zero => intro st b hb; simp [moreV] at hb
  | succ f ih =>
    intro st b hb
    unfold moreV at hb
    split at hb
    · rcases List.mem_cons.1 hb with rfl | hb
      · exact box_num hT _
      · exact ih _ b hb
    · simp at hb
theorem boxes_num (st : St) : Ru.boxesN (boxesV T e st) = true := by
  unfold boxesV Ru.boxesN
  simp only [Bool.and_eq_true, List.all_eq_true, decide_eq_true_eq, List.length_cons]
  refine ⟨fun b hb => ?_, by omega⟩
  rcases List.mem_cons.1 hb with rfl | hb
  · exact box_num hT _
  · exact more_num hT _ _ b hb
theorem named_may {k : Int} (hk : k = 1 ∨ k = 2) {a : St} (h : (namedS T e a).f.1 = 0) : Ru.may (namedV T e (declAt T e st k) a) = true := by
  have h1 : (takeSt T e 1 a).f.1 = 0 := ((Pr.stays_want _ _).trans (Pr.stays_take 3 _)).zero h
  have hn := name_tok hT (take_yes h1)
  have hi := num_tok hT 3 (want T e [61] (takeSt T e 1 a))
  unfold Ru.may namedV declAt
  simp only [txt_list, if_pos hk, hn, hi]
  rfl
theorem region_may {a : St} (h : (regionS T e a).f.1 = 0) : Ru.may (regionV T e (declAt T e st 3) a) = true := by
  have h1 : (takeSt T e 1 a).f.1 = 0 := ((Pr.stays_want _ _).trans (Pr.stays_boxes _)).zero h
  have hn := name_tok hT (take_yes h1)
  have hb := boxes_num hT (e := e) (want T e [61] (takeSt T e 1 a))
  unfold Ru.may regionV declAt
  simp only [txt_list, hn, hb]
  rfl
theorem rule_may {k : Int} (hk : k = 4 ∨ k = 5) {a : St} (h : (ruleS T e a).f.1 = 0) : Ru.may (ruleV T e (declAt T e st k) a) = true := by
  have h4 : (rs4 T e a).f.1 = 0 := Pr.Stays.zero (b := ruleS T e a) (Pr.stays_take 3 (rs4 T e a)) h
  have hp : (whereS T e (rs3 T e a)).f.1 = 0 := Pr.Stays.zero (b := rs4 T e a) (Pr.stays_want wZoom (whereS T e (rs3 T e a))) h4
  have h3 : (rs3 T e a).f.1 = 0 := (Pr.stays_where (rs3 T e a)).zero hp
  have hl : (whoS T e (rs2 T e a)).f.1 = 0 := Pr.Stays.zero (b := rs3 T e a) (Pr.stays_want wIn (whoS T e (rs2 T e a))) h3
  have h2 : (rs2 T e a).f.1 = 0 := (Pr.stays_who (rs2 T e a)).zero hl
  have ht : (tiersS T e (rs1 T e a)).f.1 = 0 := Pr.Stays.zero (b := rs2 T e a) (Pr.stays_want wLabel (tiersS T e (rs1 T e a))) h2
  have h1 : (rs1 T e a).f.1 = 0 := (Pr.stays_tiers (rs1 T e a)).zero ht
  have hr : (whoS T e (want T e wRole a)).f.1 = 0 := Pr.Stays.zero (b := rs1 T e a) (Pr.stays_want wTier (whoS T e (want T e wRole a))) h1
  have r1 := who_right hT hr
  have r2 := who_right hT hl
  have r3 := where_right hT hp
  obtain ⟨r4, r5⟩ := tiers_num hT (e := e) (st := rs1 T e a)
  have r6 := num_tok hT 3 (rs4 T e a)
  have p1 : (ruleV T e (declAt T e st k) a).role = whoV T e (want T e wRole a) := by simp only [ruleV]
  have p2 : (ruleV T e (declAt T e st k) a).label = whoV T e (rs2 T e a) := by simp only [ruleV]
  have p3 : (ruleV T e (declAt T e st k) a).place = whereV T e (rs3 T e a) := by simp only [ruleV]
  have p4 : (ruleV T e (declAt T e st k) a).lo = loV T (rs1 T e a) := by simp only [ruleV]
  have p5 : (ruleV T e (declAt T e st k) a).hi = hiV T e (rs1 T e a) := by simp only [ruleV]
  have p6 : (ruleV T e (declAt T e st k) a).zoom = (takeTok T 3 (rs4 T e a)).n := by simp only [ruleV]
  have p7 : (ruleV T e (declAt T e st k) a).name = ⟨#[]⟩ := by simp only [ruleV, declAt, zeroDecl]
  have p8 : (ruleV T e (declAt T e st k) a).n = 0 := by simp only [ruleV, declAt, zeroDecl]
  have p9 : (ruleV T e (declAt T e st k) a).boxes = [] := by simp only [ruleV, declAt, zeroDecl]
  have hk0 : (ruleV T e (declAt T e st k) a).kind = k := by simp only [ruleV, declAt]
  generalize ruleV T e (declAt T e st k) a = d at *
  unfold Ru.may Ru.noName Ru.ruleD
  rw [hk0, if_neg (by omega), if_neg (by omega), if_pos hk, p1, p2, p3, p4, p5, p6, p7, p8, p9, r1, r2, r3, r4, r5, r6]
  rfl
theorem cloak_may {a : St} (h : (cloakS T e a).f.1 = 0) : Ru.may (cloakV T e (declAt T e st 6) a) = true := by
  have r1 := who_right hT h
  have hn0 : Ru.noName (cloakV T e (declAt T e st 6) a) = true := rfl
  have hr0 : Ru.rightW (cloakV T e (declAt T e st 6) a).role = true := r1
  have hz0 : Ru.noRule (cloakV T e (declAt T e st 6) a) = true := rfl
  have hk0 : (cloakV T e (declAt T e st 6) a).kind = 6 := rfl
  generalize cloakV T e (declAt T e st 6) a = d at *
  unfold Ru.may
  rw [hk0, if_neg (by omega), if_neg (by omega), if_neg (by omega), if_pos rfl, hn0, hr0, hz0]
  rfl
theorem decl_may (h0 : st.f.1 = 0) (h : (declS T e st).f.1 = 0) : Ru.may (declV T e st) = true := by
  unfold declS at h
  have h1 := (Pr.stays_want _ _).zero h
  unfold declV
  split
  · rename_i c; rw [if_pos c] at h1; exact named_may hT (.inl rfl) h1
  rename_i c; rw [if_neg c] at h1
  split
  · rename_i c; rw [if_pos c] at h1; exact named_may hT (.inr rfl) h1
  rename_i c; rw [if_neg c] at h1
  split
  · rename_i c; rw [if_pos c] at h1; exact region_may hT h1
  rename_i c; rw [if_neg c] at h1
  split
  · rename_i c; rw [if_pos c] at h1; exact rule_may hT (.inl rfl) h1
  rename_i c; rw [if_neg c] at h1
  split
  · rename_i c; rw [if_pos c] at h1; exact rule_may hT (.inr rfl) h1
  rename_i c; rw [if_neg c] at h1
  split
  · rename_i c; rw [if_pos c] at h1; exact cloak_may hT h1
  rename_i c; rw [if_neg c] at h1
  exact absurd ((Pr.stays_rule _).zero h1) (Pr.wrong_stop h0)
theorem parse_mays (f : Nat) : ∀ st : St, (parseS T e f st).f.1 = 0 → ∀ d ∈ parseV T e f st, Ru.may d = true := by
  induction f with
  | zero => intro st _ d hd; simp [parseV] at hd
  | succ f ih =>
    intro st h d hd
    unfold parseS at h
    unfold parseV at hd
    split at hd
    · rename_i hc
      rw [if_pos hc] at h
      rcases List.mem_cons.1 hd with rfl | hd
      · exact decl_may hT hc.2 ((Pr.stays_parse f _).zero h)
      · exact ih _ h d hd
    · simp at hd
end
/-- what is read may be -/
theorem parse_may {L : Bytes} {ds : List Decl} (h : parse L = .ok ds) : ∀ d ∈ ds, Ru.may d = true := by
  cases hk : tokens L with
  | error f => unfold parse at h; rw [hk] at h; cases h
  | ok T =>
    rw [parse_T hk] at h
    split at h
    · rename_i h0
      cases h
      exact parse_mays (tokens_good hk) _ _ h0
    · cases h

/-! ### places -/
theorem may_un (d : Decl) : Ru.may (unD d) = Ru.may d := rfl
theorem line_un (d : Decl) : lineB (unD d) = lineB d := rfl
theorem lines_un {l m : List Decl} (h : l.map unD = m.map unD) : l.flatMap lineB = m.flatMap lineB ∧ l.all Ru.may = m.all Ru.may := by
  have e1 : ∀ l : List Decl, (l.map unD).flatMap lineB = l.flatMap lineB := fun l => by rw [List.flatMap_map]; rfl
  have e2 : ∀ l : List Decl, (l.map unD).all Ru.may = l.all Ru.may := fun l => by rw [List.all_map]; rfl
  exact ⟨by rw [← e1 l, h, e1], by rw [← e2 l, h, e2]⟩
theorem print_un {l m : List Decl} (h : l.map unD = m.map unD) : printB l = printB m := by
  obtain ⟨h1, h2⟩ := lines_un h
  unfold printB
  rw [h1, h2]
theorem all_may {l : List Decl} (h : ∀ d ∈ l, Ru.may d = true) : l.all Ru.may = true := List.all_eq_true.2 h
theorem print_may {l : List Decl} (h : ∀ d ∈ l, Ru.may d = true) : printB l = l.flatMap lineB := by unfold printB; rw [if_pos (all_may h)]

/-! ### the rules of declarations, but for their places -/
def unF (x : Ru.F3) : Ru.F3 := (x.1, 0, 0)
def unR (x : Except Ru.F3 (List Ru.Rule)) : Except Ru.F3 (List Ru.Rule) := match x with | .ok r => .ok r | .error f => .error (unF f)
theorem declared_un (a : List Decl) (k : Int) (nm : ByteArray) : Ru.declared (a.map unD) k nm = (Ru.declared a k nm).map unD := by
  unfold Ru.declared
  rw [List.find?_map]
  rfl
theorem rsum_un (a : List Decl) (k : Int) (w : Who) : Ru.rsum (a.map unD) k (unW w) = Ru.rsum a k w := by
  unfold Ru.rsum
  rw [show (unW w).name = w.name from rfl, show (unW w).any = w.any from rfl, show (unW w).n = w.n from rfl, declared_un]
  cases Ru.declared a k w.name <;> rfl
theorem rwhere_un (a : List Decl) (w : Who) : Ru.rwhere (a.map unD) (unW w) = Ru.rwhere a w := by
  unfold Ru.rwhere
  rw [show (unW w).name = w.name from rfl, show (unW w).any = w.any from rfl, declared_un]
  cases Ru.declared a 3 w.name <;> rfl
def unX (x : Except Ru.F3 Ru.Rule) : Except Ru.F3 Ru.Rule := match x with | .ok r => .ok r | .error f => .error (unF f)
theorem rrule_un (a : List Decl) (d : Decl) (n b : Int) : Ru.rrule (a.map unD) (unD d) n b = unX (Ru.rrule a d n b) := by
  unfold Ru.rrule
  rw [show (unD d).role = unW d.role from rfl, show (unD d).label = unW d.label from rfl, show (unD d).place = unW d.place from rfl, show (unD d).kind = d.kind from rfl, show (unD d).hi = d.hi from rfl, show (unD d).lo = d.lo from rfl, show (unD d).zoom = d.zoom from rfl, rsum_un, rsum_un, rwhere_un]
  by_cases h1 : 32 ≤ n
  · rw [if_pos h1, if_pos h1]; rfl
  rw [if_neg h1, if_neg h1]
  cases Ru.rsum a 1 d.role with
  | error x => rfl
  | ok r =>
    simp only
    by_cases h2 : d.kind = 6
    · rw [if_pos h2, if_pos h2]; rfl
    rw [if_neg h2, if_neg h2]
    by_cases h3 : d.hi < d.lo ∨ 7 < d.hi
    · rw [if_pos h3, if_pos h3]; rfl
    rw [if_neg h3, if_neg h3]
    cases Ru.rsum a 2 d.label with
    | error x => rfl
    | ok r =>
      simp only
      cases Ru.rwhere a d.place with
      | error x => rfl
      | ok bs =>
        simp only
        by_cases h4 : 32 < b + bs.length
        · rw [if_pos h4, if_pos h4]; rfl
        rw [if_neg h4, if_neg h4]
        by_cases h5 : 16 < d.zoom
        · rw [if_pos h5, if_pos h5]; rfl
        rw [if_neg h5, if_neg h5]
        rfl
theorem rrun_un (l : List Decl) : ∀ (a : List Decl) (out : List Ru.Rule) (b : Int), Ru.rrun (a.map unD) (l.map unD) out b = unR (Ru.rrun a l out b) := by
  induction l with
  | nil => intro a out b; rfl
  | cons d l ih =>
    intro a out b
    rw [List.map_cons]
    unfold Ru.rrun
    have e1 : a.map unD ++ [unD d] = (a ++ [d]).map unD := by simp
    rw [rrule_un, e1, show (unD d).kind = d.kind from rfl, show (unD d).name = d.name from rfl, declared_un, show Ru.rbad (unD d) = Ru.rbad d from rfl]
    by_cases h1 : 3 < d.kind
    · rw [if_pos h1, if_pos h1]
      cases Ru.rrule a d out.length b with
      | error f => rfl
      | ok x => exact ih _ _ _
    rw [if_neg h1, if_neg h1]
    have e2 : ((Ru.declared a d.kind d.name).map unD).isSome = (Ru.declared a d.kind d.name).isSome := by cases Ru.declared a d.kind d.name <;> rfl
    rw [e2]
    by_cases h2 : (Ru.declared a d.kind d.name).isSome = true
    · rw [if_pos h2, if_pos h2]; rfl
    rw [if_neg h2, if_neg h2]
    by_cases h3 : Ru.rbad d = true
    · rw [if_pos h3, if_pos h3]; rfl
    rw [if_neg h3, if_neg h3]
    exact ih _ _ _
theorem check_un {l m : List Decl} (h : l.map unD = m.map unD) : unR (Ru.checkV l) = unR (Ru.checkV m) := by
  have key : ∀ l : List Decl, Ru.rcheckV (l.map unD) = unR (Ru.rcheckV l) := fun l => by
    unfold Ru.rcheckV
    have e : (l.map unD).all Ru.rRight = l.all Ru.rRight := by rw [List.all_map]; rfl
    rw [e]
    by_cases h1 : l.all Ru.rRight = true
    · rw [if_pos h1, if_pos h1]; exact rrun_un l [] [] 0
    · rw [if_neg h1, if_neg h1]; rfl
  rw [← Ru.rcheck_eq l, ← Ru.rcheck_eq m, ← key l, ← key m, h]

end Go.Proofs.YteddkgpnklfppaaGreatDoor.Pt

namespace Go.Proofs.YteddkgpnklfppaaGreatDoor.Ru
open Po (Box Who Decl)

theorem rrun_few (l : List Decl) : ∀ (a : List Decl) (out : List Rule) (b : Int) (rs : List Rule), 0 ≤ b → out.length ≤ 32 → (∀ r ∈ out, r.boxes.length ≤ 40) → rrun a l out b = .ok rs → rs.length ≤ 32 ∧ ∀ r ∈ rs, r.boxes.length ≤ 40 := by
  induction l with
  | nil =>
    intro a out b rs _ h1 h2 h
    unfold rrun at h
    simp only [Except.ok.injEq] at h
    subst h
    exact ⟨h1, h2⟩
  | cons d l ih =>
    intro a out b rs hb h1 h2 h
    unfold rrun at h
    by_cases h3 : 3 < d.kind
    · rw [if_pos h3] at h
      cases hr : rrule a d out.length b with
      | error f => rw [hr] at h; cases h
      | ok x =>
        rw [hr] at h
        simp only at h
        have hx := rrule_boxes hr
        have hl : out.length < 32 := by
          unfold rrule at hr
          split at hr
          · cases hr
          · omega
        refine ih _ _ _ rs (by omega) (by simp; omega) (fun r hrm => ?_) h
        rcases List.mem_append.1 hrm with hrm | hrm
        · exact h2 r hrm
        · rw [List.mem_singleton] at hrm
          subst hrm
          rcases hx with hx | hx
          · rw [hx]; simp
          · omega
    · rw [if_neg h3] at h
      split at h
      · cases h
      · split at h
        · cases h
        · exact ih _ _ _ rs hb h1 h2 h
theorem ruleR_boxes {r : Rule} (h : ruleR r = true) : ∀ b ∈ r.boxes, boxR b = true := by
  intro b hb
  unfold ruleR at h
  split at h
  · simp only [Bool.and_eq_true, beq_iff_eq] at h
    have h0 : r.boxes = [] := List.eq_nil_of_length_eq_zero (by have := h.1.2; omega)
    rw [h0] at hb
    cases hb
  · split at h
    · simp only [Bool.and_eq_true] at h
      have := h.1.2
      unfold boxesR at this
      exact List.all_eq_true.1 this b hb
    · cases h
theorem check_few {l : List Decl} {rs : List Rule} (h : checkV l = .ok rs) : rs.length ≤ 32 ∧ Few rs ∧ rulesR rs = true := by
  have hg := (check_good h).1
  rw [← rcheck_eq] at h
  unfold rcheckV at h
  split at h
  · obtain ⟨h1, h2⟩ := rrun_few l [] [] 0 rs (by decide) (by simp) (by simp) h
    exact ⟨h1, ⟨by omega, h2, fun r hr => ruleR_boxes (List.all_eq_true.1 hg r hr)⟩, hg⟩
  · cases h
theorem ckRun_err (l : List Decl) : ∀ (a : List Decl) (c : Ck) (f : F3), ckRun a l c = .error f → f.1 ≠ 0 := by
  induction l with
  | nil => intro a c f h; unfold ckRun at h; cases h
  | cons d l ih =>
    intro a c f h
    unfold ckRun at h
    split at h
    · exact ih _ _ _ h
    · rename_i hne
      simp only [Except.error.injEq] at h
      rw [← h]
      exact hne
theorem check_err {l : List Decl} {f : F3} (h : checkV l = .error f) : f.1 ≠ 0 := by
  unfold checkV at h
  split at h
  · exact ckRun_err _ _ _ _ h
  · simp only [Except.error.injEq] at h
    rw [← h]
    decide
end Go.Proofs.YteddkgpnklfppaaGreatDoor.Ru
namespace Go.Proofs.YteddkgpnklfppaaGreatDoor
open Go.RowKit Go.Sort Go.Maps

theorem parse_long {L : Lx.Bytes} (h : 512 < L.length) : Po.parse L = .error (2, 1, 1) := by
  unfold Po.parse Lx.tokens
  rw [if_pos h]

/-! ### a fixed text -/
def aText : ByteArray := { data := ([114, 101, 103, 105, 111, 110, 32, 112, 97, 114, 107, 32, 61, 32, 48, 32, 48, 32, 57, 32, 57, 59, 32, 97, 108, 108, 111, 119, 32, 114, 111, 108, 101, 32, 49, 32, 116, 105, 101, 114, 32, 97, 110, 121, 32, 108, 97, 98, 101, 108, 32, 97, 110, 121, 32, 105, 110, 32, 112].append [97, 114, 107, 32, 122, 111, 111, 109, 32, 49, 50, 59, 32, 99, 97, 112, 32, 114, 111, 108, 101, 32, 97, 110, 121, 32, 116, 105, 101, 114, 32, 51, 46, 46, 55, 32, 108, 97, 98, 101, 108, 32, 97, 110, 121, 32, 105, 110, 32, 97, 108, 108, 32, 122, 111, 111, 109, 32, 52, 59]).toArray }
def aDecls : List Po.Decl := match Po.parse aText.data.toList with | .ok ds => ds | .error _ => []
def aRules : List Ru.Rule := [⟨4, 2, 0, 7, 255, [⟨0, 0, 9, 9⟩], 12⟩, ⟨5, 255, 3, 7, 255, [⟨0, 0, 65535, 65535⟩], 4⟩]
theorem aParse : Po.parse aText.data.toList = .ok aDecls := by
  have h : (match Po.parse aText.data.toList with | .ok _ => true | .error _ => false) = true := by decide +kernel
  unfold aDecls
  cases hp : Po.parse aText.data.toList with
  | ok ds => rfl
  | error f => rw [hp] at h; cases h
theorem aCheck : Ru.checkV aDecls = .ok aRules := by kernel_rfl
theorem aZoom1 : zoomT aRules 1 2 0 9 0 = 12 := by
  have h : zoomT aRules 1 2 0 9 0 = Gr.zoomP (Gr.patches aRules 1 2 0) 9 0 := by unfold zoomT; rw [if_pos (by decide)]
  rw [h, Gr.zoom_patches (Ru.check_few aCheck).2.2]
  exact (show Ru.zoomV aRules 1 2 0 9 0 = 12 by kernel_rfl)
theorem aZoom2 : zoomT aRules 1 3 0 9 0 = 4 := by
  have h : zoomT aRules 1 3 0 9 0 = Gr.zoomP (Gr.patches aRules 1 3 0) 9 0 := by unfold zoomT; rw [if_pos (by decide)]
  rw [h, Gr.zoom_patches (Ru.check_few aCheck).2.2]
  exact (show Ru.zoomV aRules 1 3 0 9 0 = 4 by kernel_rfl)
theorem of_nonneg {l : List Ru.Rule} (hf : Gr.Fine l) (r : Po.Box) : 0 ≤ Gr.ofP (Gr.bands l) r := by
  obtain ⟨y0, hb, _⟩ := Gr.bands_ok hf
  have key : ∀ (ps : List Gr.Patch) (p : Int × Int), (∀ q ∈ ps, 0 ≤ q.z) → 0 ≤ p.2 → 0 ≤ (ps.foldl (Gr.ofStep r) p).2 := by
    intro ps
    induction ps with
    | nil => intro p _ h; exact h
    | cons q ps ih =>
      intro p h1 h2
      rw [List.foldl_cons]
      refine ih _ (fun u hu => h1 u (List.mem_cons_of_mem _ hu)) ?_
      have := h1 q List.mem_cons_self
      unfold Gr.ofStep
      split <;> (try simp only) <;> omega
  have hz : ∀ q ∈ Gr.bands l, 0 ≤ q.z := fun q hq => by
    have hr := Gr.boxR_le (hb.rng q hq).2.1
    have hv := hb.val q hq q.box.x0 q.box.y0 ⟨by omega, by omega, by omega, by omega⟩
    rw [← hv]
    exact Gr.zoomG_nonneg hf _ _
  have := key (Gr.bands l) (Gr.area r, 16) hz (show (0 : Int) ≤ 16 by decide)
  unfold Gr.ofP Gr.ofG
  split
  · exact Int.le_refl _
  · exact this
theorem aOf : ofT aRules 1 2 0 ⟨0, 0, 10, 0⟩ = 0 := by
  have h : ofT aRules 1 2 0 ⟨0, 0, 10, 0⟩ = Gr.ofP (Gr.patches aRules 1 2 0) ⟨0, 0, 10, 0⟩ := by unfold ofT; rw [if_pos (by decide)]
  rw [h]
  have h1 := Gr.of_patches (Ru.check_few aCheck).2.2 1 2 0 (r := ⟨0, 0, 10, 0⟩) (x := 10) (y := 0) (by decide)
  rw [Gr.zoom_patches (Ru.check_few aCheck).2.2, show Ru.zoomV aRules 1 2 0 10 0 = 0 by kernel_rfl] at h1
  have h2 := of_nonneg (Gr.mine_fine aRules 1 2 0) ⟨0, 0, 10, 0⟩
  exact Int.le_antisymm h1 h2
/-- what the law asks of a text's rules -/
theorem zoomT_is {rs : List Ru.Rule} (h : Ru.rulesR rs = true) (a b c x y : Int) : zoomT rs a b c x y = Ru.zoomV rs a b c x y := by
  unfold zoomT
  split
  · exact Gr.zoom_patches h a b c x y
  · rename_i hk
    rw [Gr.zoom_mine h]
    have hm : Gr.mine rs a b c = [] := by
      unfold Gr.mine
      rw [List.filter_eq_nil_iff]
      intro r _ hf
      unfold Ru.forR at hf
      simp only [Bool.and_eq_true] at hf
      exact hk hf.1.1.1.1.2
    rw [hm]
    rfl
theorem ofT_le {rs : List Ru.Rule} (h : Ru.rulesR rs = true) (a b c : Int) {r : Po.Box} {x y : Int} (hr : Ru.boxHas r x y = true) : ofT rs a b c r ≤ zoomT rs a b c x y := by
  unfold ofT zoomT
  by_cases hk : Ru.numbers3 a b c = true
  · rw [if_pos ⟨hk, (Gr.has_iff.1 hr).1⟩, if_pos hk]
    exact Gr.of_patches h a b c hr
  · rw [if_neg (fun h => hk h.1), if_neg hk]
    exact Int.le_refl _

end Go.Proofs.YteddkgpnklfppaaGreatDoor

namespace Go.Proofs.YteddkgpnklfppaaGreatDoor
open Go.RowKit Go.Sort Go.Maps

theorem patch_at5 {w : World} {g o : Nat} {q : Gr.Patch} (h : w.rangeAt g o (patchArr q).toList) : w.cell? ⟨g, o, none⟩ = some (.int .i64 q.box.x0) ∧ w.cell? ⟨g, o + 1, none⟩ = some (.int .i64 q.box.y0) ∧ w.cell? ⟨g, o + 1 + 1, none⟩ = some (.int .i64 q.box.x1) ∧ w.cell? ⟨g, o + 1 + 1 + 1, none⟩ = some (.int .i64 q.box.y1) ∧ w.cell? ⟨g, o + 1 + 1 + 1 + 1, none⟩ = some (.int .i64 q.z) :=
  ⟨h 0 _ rfl, h 1 _ rfl, h 2 _ rfl, h 3 _ rfl, h 4 _ rfl⟩

set_option maxRecDepth 100000 in
set_option maxHeartbeats 4000000 in
theorem psame_any {w : World} {v1 v2 : Value} {l : List Gr.Patch} (h1 : Row w v1 l.length 5 (patchesC l)) (h2 : Row w v2 l.length 5 (patchesC l)) (hn : l.length ≤ 7000000) :
    Calls Tryz.prog 13 #[v1, v2] w fun e w' => e = .returned (.bool true) ∧ Below w.heap.size w w' := by
  by_cases h0 : l.length = 0
  · obtain ⟨p1, c1, rfl⟩ := row_shape h1
    obtain ⟨p2, c2, rfl⟩ := row_shape h2
    rw [h0]
    clear h1 h2
    go_enter Tryz.func13, Tryz.ntmps13
    go_wp2_with fail
    go_loop [5] (fun u => u = .int .i64 0) (fun _ => 0)
    case atStart => rfl
    case round =>
      subst hrel
      go_wp2_with fail
      go_ret
      exact ⟨rfl, Below.refl _ _⟩
  · rcases patch_srow h1 with ⟨_, rfl⟩ | ⟨g1, o1, k1, rfl, r1⟩
    · exact absurd rfl h0
    rcases patch_srow h2 with ⟨_, rfl⟩ | ⟨g2, o2, k2, rfl, r2⟩
    · exact absurd rfl h0
    have r1' := hid r1
    have r2' := hid r2
    clear h1 h2 r1 r2 h0
    go_enter Tryz.func13, Tryz.ntmps13
    go_wp2_with fail
    go_loopw [5] (fun u wr => ∃ i : Nat, u = .int .i64 i ∧ i ≤ l.length ∧ Below w.heap.size w wr) (fun u _ => l.length - (intOf u).toNat)
    case atStart => exact ⟨0, rfl, Nat.zero_le _, Below.refl _ _⟩
    case round =>
      obtain ⟨i, rfl, hle, hQ⟩ := hrel
      have Q0 := hid hQ
      by_cases hlt : i < l.length
      · obtain ⟨x0, x1, x2, x3, x4⟩ := patch_at5 ((r1'.out.ext hQ).get i hlt)
        obtain ⟨y0, y1, y2, y3, y4⟩ := patch_at5 ((r2'.out.ext hQ).get i hlt)
        have hg1 := Nat.lt_of_lt_of_le r1'.out.lt hQ.size
        have hg2 := Nat.lt_of_lt_of_le r2'.out.lt hQ.size
        clear hQ
        generalize l[i] = b at *
        obtain ⟨⟨b0, b1, b2, b3⟩, b4⟩ := b
        simp only at x0 x1 x2 x3 x4 y0 y1 y2 y3 y4
        have t1 : (0 : Int) ≤ i := by omega
        have t2 : (i : Int) < l.length := by omega
        go_wp2_with fail
        go_quiet (fail)
        go_wp2_with fail
        go_roundw
        case rel => exact ⟨i + 1, by go_num, by omega, bdrewN Q0.out nq⟩
        case measure => simp [intOf]; omega
      · obtain rfl : i = l.length := by omega
        clear hQ
        go_wp2_with fail
        go_ret
        exact ⟨rfl, Q0.out⟩

set_option maxRecDepth 100000 in
set_option maxHeartbeats 4000000 in
theorem allowed_any (w : World) : Calls Tryz.prog 5 #[] w fun e w' => e = .returned (.bool true) ∧ Below w.heap.size w w' := by
  have hr := read_any aText w (by decide)
  unfold ReadPost at hr
  rw [aParse] at hr
  simp only at hr
  unfold CheckPost at hr
  rw [aCheck] at hr
  simp only at hr
  have hr' := hid hr
  obtain ⟨hl, hF, hok⟩ := Ru.check_few aCheck
  have hl' := hid hl
  have hF' := hid hF
  have hok' := hid hok
  have hz1 := aZoom1
  have hz2 := aZoom2
  have hz3 := aOf
  have Z1 := hid hz1
  have Z2 := hid hz2
  have Z3 := hid hz3
  clear hr hl hF hok hz1 hz2 hz3
  generalize aRules = rs at *
  go_enter Tryz.func5, Tryz.ntmps5
  go_wp2_with fail
  refine hr'.out.mono ?_
  rintro e w1 ⟨⟨v, rfl, hrs, _⟩, hb1⟩
  have hz := balloc w1 (.cells #[.int .i64 0, .int .i64 0, .int .i64 0] 33)
  have R1 := hid (hrs _ (Above.below hz))
  have Q1 := hid (bthen hb1 hz)
  have F1 := hid (Blk.new w1 #[.int .i64 0, .int .i64 0, .int .i64 0] 33)
  clear hz hb1 hrs hr'
  go_wp2_with fail
  refine (new_any R1.out hl'.out hF'.out hok'.out).mono ?_
  rintro e w2 ⟨⟨tb, mb, rfl, hT⟩, hb2⟩
  have hm := hT.low.2
  have T2 := hid hT
  have hs1 := Q1.out.size
  have Q2 := hid (bthen Q1.out hb2)
  have f0 := (F1.out.ext hb2).cell 0 (v := .int .i64 0) rfl
  have hmw : w.heap.size ≤ mb := Nat.le_trans hs1 hm
  clear hT hm hb2 R1 F1
  go_wp2_with fail
  refine (tzoom_any T2.out (by decide) 1 2 0 9 0).mono ?_
  rintro e w3 ⟨rfl, hT3, ht3⟩
  rw [Z1.out]
  have T3 := hid hT3
  have Q3 := hid (Q2.out.trans (ht3.to_below Q2.out.size hmw))
  clear hT3 ht3 f0 Q2
  go_wp2_with fail
  refine (tzoom_any T3.out (by decide) 1 3 0 9 0).mono ?_
  rintro e w4 ⟨rfl, hT4, ht4⟩
  rw [Z2.out]
  have T4 := hid hT4
  have Q4 := hid (Q3.out.trans (ht4.to_below Q3.out.size hmw))
  clear hT4 ht4 Q3
  go_wp2_with fail
  refine (tof_any T4.out (by decide) 1 2 0 ⟨0, 0, 10, 0⟩).mono ?_
  rintro e w5 ⟨rfl, hT5, ht5⟩
  rw [Z3.out]
  have Q5 := hid (Q4.out.trans (ht5.to_below Q4.out.size hmw))
  clear hT5 ht5
  go_wp2_with fail
  go_ret
  exact ⟨rfl, Q5.out⟩

end Go.Proofs.YteddkgpnklfppaaGreatDoor

namespace Go.Proofs
open Go.Shelf
def Tryz.laysM171_ren : Go.Shelf.Ren := ⟨fun | 171 => 104 | 243 => 118 | 246 => 125 | 283 => 138 | 284 => 139 | 285 => 140 | 286 => 141 | 129 => 136 | 317 => 148 | 318 => 149 | 319 => 150 | 320 => 151 | 337 => 153 | 338 => 154 | n => n, fun | 3 => 3 | 9 => 9 | 2 => 2 | 4 => 4 | 171 => 190 | 0 => 0 | 53 => 69 | 37 => 88 | 5 => 5 | 173 => 192 | 212 => 202 | 51 => 187 | 20 => 20 | 213 => 203 | 46 => 173 | 232 => 206 | 233 => 207 | n => n, fun | 17 => 0 | 18 => 1 | 19 => 2 | n => n⟩
theorem Tryz.laysM171 : Go.Proofs.LaysM.n171 Tryz.prog Tryz.laysM171_ren := {
  mixed := by kernel_rfl
  f129 := Tryz.func136.trans (congrArg some (by kernel_rfl))
  f171 := Tryz.func104.trans (congrArg some (by kernel_rfl))
  f243 := Tryz.func118.trans (congrArg some (by kernel_rfl))
  f246 := Tryz.func125.trans (congrArg some (by kernel_rfl))
  f283 := Tryz.func138.trans (congrArg some (by kernel_rfl))
  f284 := Tryz.func139.trans (congrArg some (by kernel_rfl))
  f285 := Tryz.func140.trans (congrArg some (by kernel_rfl))
  f286 := Tryz.func141.trans (congrArg some (by kernel_rfl))
  f317 := Tryz.func148.trans (congrArg some (by kernel_rfl))
  f318 := Tryz.func149.trans (congrArg some (by kernel_rfl))
  f319 := Tryz.func150.trans (congrArg some (by kernel_rfl))
  f320 := Tryz.func151.trans (congrArg some (by kernel_rfl))
  f337 := Tryz.func153.trans (congrArg some (by kernel_rfl))
  f338 := Tryz.func154.trans (congrArg some (by kernel_rfl))
  t0 := Tryz.underlying0
  a0 := Tryz.isAgg0
  z0 := Tryz.sizeOf0
  v0 := Tryz.zeroValue0
  t2 := Tryz.underlying2
  a2 := Tryz.isAgg2
  z2 := Tryz.sizeOf2
  v2 := Tryz.zeroValue2
  t3 := Tryz.underlying3
  a3 := Tryz.isAgg3
  z3 := Tryz.sizeOf3
  v3 := Tryz.zeroValue3
  t4 := Tryz.underlying4
  a4 := Tryz.isAgg4
  z4 := Tryz.sizeOf4
  v4 := Tryz.zeroValue4
  t5 := Tryz.underlying5
  a5 := Tryz.isAgg5
  z5 := Tryz.sizeOf5
  v5 := Tryz.zeroValue5
  t9 := Tryz.underlying9
  a9 := Tryz.isAgg9
  z9 := Tryz.sizeOf9
  v9 := Tryz.zeroValue9
  t20 := Tryz.underlying20
  a20 := Tryz.isAgg20
  z20 := Tryz.sizeOf20
  v20 := Tryz.zeroValue20
  t37 := Tryz.underlying88
  a37 := Tryz.isAgg88
  z37 := Tryz.sizeOf88
  v37 := Tryz.zeroValue88
  t46 := Tryz.underlying173
  a46 := Tryz.isAgg173
  z46 := Tryz.sizeOf173
  v46 := Tryz.zeroValue173
  t51 := Tryz.underlying187
  a51 := Tryz.isAgg187
  z51 := Tryz.sizeOf187
  v51 := Tryz.zeroValue187
  t53 := Tryz.underlying69
  a53 := Tryz.isAgg69
  z53 := Tryz.sizeOf69
  v53 := Tryz.zeroValue69
  t171 := Tryz.underlying190
  a171 := Tryz.isAgg190
  z171 := Tryz.sizeOf190
  v171 := Tryz.zeroValue190
  t173 := Tryz.underlying192
  a173 := Tryz.isAgg192
  z173 := Tryz.sizeOf192
  v173 := Tryz.zeroValue192
  t212 := Tryz.underlying202
  a212 := Tryz.isAgg202
  z212 := Tryz.sizeOf202
  v212 := Tryz.zeroValue202
  t213 := Tryz.underlying203
  a213 := Tryz.isAgg203
  z213 := Tryz.sizeOf203
  t232 := Tryz.underlying206
  a232 := Tryz.isAgg206
  z232 := Tryz.sizeOf206
  v232 := Tryz.zeroValue206
  t233 := Tryz.underlying207
  a233 := Tryz.isAgg207
  z233 := Tryz.sizeOf207
  v233 := Tryz.zeroValue207
  g17 := by kernel_rfl
  g18 := by kernel_rfl
  g19 := by kernel_rfl
  i0 := by kernel_rfl
  i2 := by kernel_rfl
  i3 := by kernel_rfl
  i4 := by kernel_rfl
  i5 := by kernel_rfl
  i9 := by kernel_rfl
  i20 := by kernel_rfl
  i37 := by kernel_rfl
  i46 := by kernel_rfl
  i51 := by kernel_rfl
  i53 := by kernel_rfl
  i171 := by kernel_rfl
  i173 := by kernel_rfl
  i212 := by kernel_rfl
  i232 := by kernel_rfl
  i233 := by kernel_rfl
  m17 := by kernel_rfl
  m18 := by kernel_rfl
  m19 := by kernel_rfl }
open Go.RowKit Go.Sort Go.Lib in
theorem Tryz.strconv_Itoa (n : Int) (h0 : -9223372036854775808 ≤ n) (h1 : n ≤ 9223372036854775807) (w : World) (htab : Lib.TabIs Tryz.prog w "internal/strconv.uint64pow10" .u64 Lib.pow10Tab) :
    Calls Tryz.prog 104 #[.int .i64 n] w fun e w' => e = .returned (.string ⟨(Lib.itoa n).toArray⟩) ∧ ∃ k os, w' = grow (w.drewN k) os := Any.strconv_Itoa Tryz.laysM171 n h0 h1 w htab
end Go.Proofs
namespace Go.Proofs.YteddkgpnklfppaaGreatDoor
open Go.RowKit Go.Sort

/-- the library's table of powers of ten is as it was laid -/
def TabU (w : World) : Prop := Lib.TabIs Tryz.prog w "internal/strconv.uint64pow10" .u64 Lib.pow10Tab
theorem itoa_any {w : World} (n : Int) (h0 : -9223372036854775808 ≤ n) (h1 : n ≤ 9223372036854775807) (h : TabU w) :
    Calls Tryz.prog 104 #[.int .i64 n] w fun e w' => e = .returned (.string ⟨(Lib.itoa n).toArray⟩) ∧ Below w.heap.size w w' :=
  (Tryz.strconv_Itoa n h0 h1 w h).mono fun _ _ ⟨h1, k, os, h2⟩ => ⟨h1, h2 ▸ Lib.below_grow _ w (Nat.le_refl _) k os⟩

end Go.Proofs.YteddkgpnklfppaaGreatDoor
