/- Plain laws of the rules: a policy's rules by the program and by the reference. No program. -/
import Derived.Test.YtelphkhacadfaaaRuPlain
namespace Go.Proofs.Ytelphkhacadfaaa.Ru
open Po (Box Who Decl)

/-! ### what a declaration may be, by the reference -/
def rMay (w : Who) : Bool := if w.any then w.name.data.toList == [] && w.n == 0 else (w.name.data.toList == [] && num w.n || Lx.isName w.name.data.toList && w.n == 0)
def rNamed (d : Decl) : Bool := decide (d.kind ≤ 3) && Lx.isName d.name.data.toList || decide (3 < d.kind) && d.name.data.toList == []
def rNumber (d : Decl) : Bool := decide (d.kind ≤ 2) && num d.n || decide (2 < d.kind) && d.n == 0
def rBoxes0 (d : Decl) : Bool := (d.kind == 3) == decide ((0 : Int) < d.boxes.length)
def rBoxes (d : Decl) : Bool := d.boxes.foldl (fun b x => b && boxN x) (rBoxes0 d)
def rRole (d : Decl) : Bool := decide (3 < d.kind) && rMay d.role || decide (d.kind ≤ 3) && zeroW d.role
def rRest (d : Decl) : Bool :=
  if d.kind = 4 ∨ d.kind = 5 then rMay d.label && rMay d.place && (d.place.any || d.place.name.data.toList != []) && num d.lo && num d.hi && num d.zoom
  else zeroW d.label && zeroW d.place && d.lo == 0 && d.hi == 0 && d.zoom == 0
def rRight (d : Decl) : Bool := if d.kind < 1 ∨ 6 < d.kind then false else rNamed d && rNumber d && rBoxes d && rRole d && rRest d

theorem rMay_eq (w : Who) : rMay w = rightW w := by
  unfold rMay rightW
  cases w.any with
  | true => rfl
  | false =>
    by_cases h : w.name.data.toList = []
    · have : Lx.isName ([] : Lx.Bytes) = false := rfl
      simp [h, this]
    · have h1 : (w.name.data.toList == []) = false := beq_eq_false_iff_ne.2 h
      simp only [h1, Bool.false_and, Bool.false_or, Bool.false_eq_true, if_false]
      exact Bool.and_comm _ _
theorem foldl_and {α : Type} (f : α → Bool) (l : List α) : ∀ b, l.foldl (fun b x => b && f x) b = (b && l.all f) := by
  induction l with
  | nil => intro b; simp
  | cons x l ih => intro b; rw [List.foldl_cons, ih, List.all_cons, Bool.and_assoc]
theorem len_pos (l : List Box) : decide ((0 : Int) < l.length) = !((l.length : Int) == 0) := by
  rw [Bool.eq_iff_iff, Bool.not_eq_true', beq_eq_false_iff_ne, decide_eq_true_eq]
  omega
theorem len_zero {l : List Box} (h : ((l.length : Int) == 0) = true) : l = [] := by
  rw [beq_iff_eq] at h
  exact List.eq_nil_of_length_eq_zero (by omega)
theorem may_eq (d : Decl) : rRight d = may d := by
  unfold rRight may
  by_cases hk : d.kind < 1 ∨ 6 < d.kind
  · rw [if_pos hk, if_neg (by omega), if_neg (by omega), if_neg (by omega), if_neg (by omega)]
  · rw [if_neg hk]
    have h6 : d.kind = 1 ∨ d.kind = 2 ∨ d.kind = 3 ∨ d.kind = 4 ∨ d.kind = 5 ∨ d.kind = 6 := by omega
    have hb : rBoxes d = (rBoxes0 d && d.boxes.all boxN) := foldl_and _ _ _
    rw [hb]
    unfold rNamed rNumber rBoxes0 rRole rRest
    rw [len_pos, rMay_eq, rMay_eq, rMay_eq]
    unfold noRule noName ruleD placeW boxesN
    rw [len_pos]
    cases hl : ((d.boxes.length : Int) == 0) with
    | true =>
      have h0 := len_zero hl
      rw [h0]
      rcases h6 with h | h | h | h | h | h <;> rw [h] <;> simp <;> (try (rw [Bool.eq_iff_iff]; simp only [Bool.and_eq_true])) <;> (try (constructor <;> (intro hh; simp_all; done)))
    | false =>
      rcases h6 with h | h | h | h | h | h <;> rw [h] <;> simp <;> (try (rw [Bool.eq_iff_iff]; simp only [Bool.and_eq_true])) <;> (try (constructor <;> (intro hh; simp_all; done)))

theorem may_kind {d : Decl} (h : may d = true) : 1 ≤ d.kind ∧ d.kind ≤ 6 := by
  unfold may at h
  split at h
  · omega
  · split at h
    · omega
    · split at h
      · omega
      · split at h
        · omega
        · cases h
theorem may_boxes {d : Decl} (h : may d = true) (hk : d.kind ≠ 3) : d.boxes = [] := by
  unfold may at h
  by_cases h1 : d.kind = 1 ∨ d.kind = 2
  · rw [if_pos h1] at h; simp only [Bool.and_eq_true] at h; exact len_zero h.1.1.2
  · rw [if_neg h1, if_neg hk] at h
    by_cases h4 : d.kind = 4 ∨ d.kind = 5
    · rw [if_pos h4] at h; simp only [noName, Bool.and_eq_true] at h; exact len_zero h.1.2
    · rw [if_neg h4] at h
      by_cases h6 : d.kind = 6
      · rw [if_pos h6] at h; simp only [noName, Bool.and_eq_true] at h; exact len_zero h.1.1.2
      · rw [if_neg h6] at h; cases h

/-! ### the reference's -/
def rsum (ahead : List Decl) (k : Int) (w : Who) : Except Int Int :=
  if w.any then .ok 255
  else if w.name.data.toList = [] then (if 7 < w.n then .error 33 else .ok (2 ^ w.n.toNat))
  else match declared ahead k w.name with
    | none => .error 21
    | some d => if 7 < d.n then .error 33 else .ok (2 ^ d.n.toNat)
def rwhere (ahead : List Decl) (w : Who) : Except Int (List Box) :=
  if w.any then .ok [grid] else match declared ahead 3 w.name with | none => .error 21 | some g => .ok g.boxes
def rrule (ahead : List Decl) (d : Decl) (n boxes : Int) : Except F3 Rule :=
  if 32 ≤ n then .error (2, d.line, d.col)
  else match rsum ahead 1 d.role with
    | .error e => .error (e, d.role.line, d.role.col)
    | .ok roles =>
      if d.kind = 6 then .ok ⟨d.kind, roles, 0, 0, 0, [], 0⟩
      else if d.hi < d.lo ∨ 7 < d.hi then .error (33, d.line, d.col)
      else match rsum ahead 2 d.label with
        | .error e => .error (e, d.label.line, d.label.col)
        | .ok labels => match rwhere ahead d.place with
          | .error e => .error (e, d.place.line, d.place.col)
          | .ok bs =>
            if 32 < boxes + bs.length then .error (2, d.line, d.col)
            else if 16 < d.zoom then .error (33, d.line, d.col)
            else .ok ⟨d.kind, roles, d.lo, d.hi, labels, bs, d.zoom⟩
def rbad (d : Decl) : Bool := d.boxes.foldl (fun b x => b || !boxR x) (decide (d.kind < 3) && decide (7 < d.n))
def rrun : List Decl → List Decl → List Rule → Int → Except F3 (List Rule)
  | _, [], out, _ => .ok out
  | a, d :: r, out, boxes =>
    if 3 < d.kind then match rrule a d out.length boxes with
      | .error f => .error f
      | .ok x => rrun (a ++ [d]) r (out ++ [x]) (boxes + x.boxes.length)
    else if (declared a d.kind d.name).isSome then .error (20, d.line, d.col)
    else if rbad d then .error (33, d.line, d.col)
    else rrun (a ++ [d]) r out boxes
def rcheckV (l : List Decl) : Except F3 (List Rule) := if l.all rRight then rrun [] l [] 0 else .error (1, 0, 0)

theorem foldl_or {α : Type} (f : α → Bool) (l : List α) : ∀ b, l.foldl (fun b x => b || !f x) b = (b || !l.all f) := by
  induction l with
  | nil => intro b; simp
  | cons x l ih => intro b; rw [List.foldl_cons, ih, List.all_cons, Bool.not_and, Bool.or_assoc]
theorem rsum_eq (ahead : List Decl) (k : Int) (w : Who) : rsum ahead k w = if setE ahead k w = 0 then .ok (setN ahead k w) else .error (setE ahead k w) := by
  unfold rsum setE setN whoN
  cases w.any with
  | true => rfl
  | false =>
    simp only [Bool.false_eq_true, if_false]
    by_cases h : w.name.data.toList = []
    · simp only [h, if_true, ne_eq, not_true, false_and, if_false]
      by_cases h7 : 7 < w.n
      · simp [h7]
      · simp [h7]
    · simp only [h, if_false, ne_eq, not_false_eq_true, true_and]
      cases hd : declared ahead k w.name with
      | none => simp
      | some d =>
        simp only [reduceCtorEq, if_false]
        by_cases h7 : 7 < d.n
        · simp [h7]
        · simp [h7]
theorem rwhere_eq (ahead : List Decl) (w : Who) : rwhere ahead w = if whereE ahead w = 0 then .ok (whereB ahead w) else .error (whereE ahead w) := by
  unfold rwhere whereE whereB
  cases w.any with
  | true => rfl
  | false =>
    simp only [Bool.false_eq_true, if_false]
    cases declared ahead 3 w.name with
    | none => simp
    | some d => simp
theorem setE_vals (ahead : List Decl) (k : Int) (w : Who) : setE ahead k w = 0 ∨ setE ahead k w = 21 ∨ setE ahead k w = 33 := by
  unfold setE
  split
  · exact .inl rfl
  · split
    · exact .inr (.inl rfl)
    · split
      · exact .inr (.inr rfl)
      · exact .inl rfl
theorem whereE_vals (ahead : List Decl) (w : Who) : whereE ahead w = 0 ∨ whereE ahead w = 21 := by
  unfold whereE
  split
  · exact .inl rfl
  · split
    · exact .inl rfl
    · exact .inr rfl

/-- a state that stopped stays -/
theorem wrong_stopped {c : Ck} (h : c.f.1 ≠ 0) (e l k : Int) : c.wrong e l k = c := by unfold Ck.wrong; rw [if_neg h]
theorem wrongIf_stopped {c : Ck} (h : c.f.1 ≠ 0) (e l k : Int) : c.wrongIf e l k = c := by
  unfold Ck.wrongIf
  split
  · rfl
  · exact wrong_stopped h _ _ _
theorem wrong_f {c : Ck} (h : c.f.1 = 0) (e l k : Int) : c.wrong e l k = { c with f := (e, l, k) } := by unfold Ck.wrong; rw [if_pos h]
theorem wrongIf_f {c : Ck} (h : c.f.1 = 0) {e : Int} (he : e ≠ 0) (l k : Int) : c.wrongIf e l k = { c with f := (e, l, k) } := by unfold Ck.wrongIf; rw [if_neg he, wrong_f h]
theorem wrongIf_zero (c : Ck) (l k : Int) : c.wrongIf 0 l k = c := by unfold Ck.wrongIf; rw [if_pos rfl]

theorem ckRule_eq (ahead : List Decl) (c : Ck) (d : Decl) (h0 : c.f = (0, 0, 0)) (hn : c.rules.length ≤ 32) :
    match rrule ahead d c.rules.length c.boxes with
    | .error f => (ckRule ahead c d).f = f ∧ f.1 ≠ 0
    | .ok x => ckRule ahead c d = ⟨c.rules ++ [x], c.boxes + x.boxes.length, (0, 0, 0)⟩ ∧ c.rules.length < 32 := by
  obtain ⟨rules, boxes, f⟩ := c
  simp only at h0 hn
  subst h0
  have v1 := setE_vals ahead 1 d.role
  have v2 := setE_vals ahead 2 d.label
  have v3 := whereE_vals ahead d.place
  unfold rrule
  rw [rsum_eq, rsum_eq, rwhere_eq]
  unfold ckRule ckCloak ckZoom ckBoxes ckMore ckWhere ckLabel ckTier ckRole ckLong ckRuleOf
  simp only
  by_cases hl : rules.length = 32
  · have hl' : (32 : Int) ≤ rules.length := by omega
    simp [hl, Ck.wrong, Ck.wrongIf]
    split <;> simp
    all_goals (repeat' split) <;> simp_all
  · have hl' : ¬ (32 : Int) ≤ rules.length := by omega
    have hl3 : rules.length < 32 := by omega
    simp only [hl, hl', if_false]
    by_cases h1 : setE ahead 1 d.role = 0
    · rw [h1]
      simp only [if_true, wrongIf_zero]
      by_cases h6 : d.kind = 6
      · simp [h6, hl3]
      · simp only [h6, if_false]
        by_cases ht : d.hi < d.lo ∨ 7 < d.hi
        · simp only [ht, if_true]
          simp [Ck.wrong, Ck.wrongIf]
          all_goals ((repeat' split) <;> simp_all)
        · simp only [ht, if_false]
          by_cases h2 : setE ahead 2 d.label = 0
          · rw [h2]
            simp only [if_true, wrongIf_zero]
            by_cases h3 : whereE ahead d.place = 0
            · rw [h3]
              simp only [if_true, wrongIf_zero]
              by_cases hb : 32 < boxes + ((whereB ahead d.place).length : Int)
              · simp only [hb, if_true]
                simp [Ck.wrong]
                all_goals ((repeat' split) <;> simp_all)
              · simp only [hb, if_false]
                by_cases hz : 16 < d.zoom
                · simp [hz, Ck.wrong]
                · simp [hz, hl3]
            · simp only [h3, if_false]
              simp [Ck.wrong, Ck.wrongIf, h3]
              all_goals ((repeat' split) <;> simp_all)
          · simp only [h2, if_false]
            simp [Ck.wrong, Ck.wrongIf, h2]
            all_goals ((repeat' split) <;> simp_all)
    · simp only [h1, if_false]
      simp [Ck.wrong, Ck.wrongIf, h1]
      all_goals ((repeat' split) <;> simp_all)

theorem rbad_eq {d : Decl} (hm : may d = true) (hk : d.kind ≤ 3) : rbad d = if d.kind = 3 then !boxesR d.boxes else decide (7 < d.n) := by
  unfold rbad boxesR
  rw [foldl_or]
  have := may_kind hm
  by_cases h3 : d.kind = 3
  · rw [if_pos h3]; simp [h3]
  · rw [if_neg h3, may_boxes hm h3]
    have : d.kind < 3 := by omega
    simp [this]

theorem ckRun_eq (l : List Decl) : ∀ (a : List Decl) (c : Ck), (∀ d ∈ l, may d = true) → c.f = (0, 0, 0) → c.rules.length ≤ 32 → rrun a l c.rules c.boxes = ckRun a l c := by
  induction l with
  | nil => intro a c _ _ _; rfl
  | cons d l ih =>
    intro a c hm h0 hn
    have hd := hm d List.mem_cons_self
    have hk := may_kind hd
    have hm' : ∀ d ∈ l, may d = true := fun x hx => hm x (List.mem_cons_of_mem _ hx)
    unfold rrun ckRun
    by_cases h3 : 3 < d.kind
    · rw [if_pos h3]
      have he : ckDecl a c d = ckRule a c d := by unfold ckDecl; rw [if_neg (by omega), if_neg (by omega)]
      rw [he]
      have hr := ckRule_eq a c d h0 hn
      revert hr
      cases rrule a d c.rules.length c.boxes with
      | error f => intro hr; simp only at hr ⊢; rw [if_neg (by rw [hr.1]; exact hr.2), hr.1]
      | ok x =>
        intro hr
        simp only at hr ⊢
        rw [hr.1, if_pos rfl]
        have := hr.2
        exact ih _ ⟨c.rules ++ [x], _, _⟩ hm' rfl (by simp only [List.length_append, List.length_cons, List.length_nil]; omega)
    · rw [if_neg h3, rbad_eq hd (by omega)]
      have hz : c.f.1 = 0 := by rw [h0]
      by_cases hk3 : d.kind = 3
      · have he : ckDecl a c d = ckRegion a c d := by unfold ckDecl; rw [if_neg (by omega), if_pos hk3]
        rw [he, if_pos hk3]
        unfold ckRegion
        rw [hk3]
        cases (declared a 3 d.name).isSome with
        | true => simp [wrong_f hz]
        | false =>
          cases hb : boxesR d.boxes with
          | true => simp [hz]; exact ih _ c hm' h0 hn
          | false => simp [wrong_f hz]
      · have he : ckDecl a c d = ckNumber a c d := by unfold ckDecl; rw [if_pos (by omega)]
        rw [he, if_neg hk3]
        unfold ckNumber
        cases (declared a d.kind d.name).isSome with
        | true => simp [wrong_f hz]
        | false =>
          by_cases h7 : 7 < d.n
          · simp [h7, wrong_f hz]
          · simp [h7, hz]; exact ih _ c hm' h0 hn

theorem rcheck_eq (l : List Decl) : rcheckV l = checkV l := by
  unfold rcheckV checkV
  have e : l.all rRight = l.all may := by congr 1; funext d; exact may_eq d
  rw [e]
  cases h : l.all may with
  | false => rfl
  | true =>
    simp only [if_true]
    exact ckRun_eq l [] ⟨[], 0, (0, 0, 0)⟩ (fun d hd => List.all_eq_true.1 h d hd) rfl (by simp)

end Go.Proofs.Ytelphkhacadfaaa.Ru
