/-
  Plain laws of the rules: a policy's rules by the program and by the reference. No program.
  Rows of declarations in memory; the walk of policy.Right.
  The checker of rules in memory; the walks of its methods wrong, set, where.
  The walks of the checker's set and where.
-/
import Derived.Test.YteddkgpnklfppaaGreatDoorPk06
import Derived.Test.YteddkgpnklfppaaGreatDoorPk15
import Derived.Test.YteddkgpnklfppaaGreatDoorPk07
import Derived.Test.YteddkgpnklfppaaGreatDoorPk11

namespace Go.Proofs.YteddkgpnklfppaaGreatDoor.Ru
open Po (Box Who Decl)

/-! ### what a declaration may be, by the reference -/
def rMay (w : Who) : Bool := if w.any then w.name.data.toList == [] && w.n == 0 else (w.name.data.toList == [] && num w.n || Lx.isName w.name.data.toList && w.n == 0)
def rNamed (d : Decl) : Bool := decide (d.kind ≤ 3) && Lx.isName d.name.data.toList || decide (3 < d.kind) && d.name.data.toList == []
def rNumber (d : Decl) : Bool := decide (d.kind ≤ 2) && num d.n || decide (2 < d.kind) && d.n == 0
def rBoxes0 (d : Decl) : Bool := (d.kind == 3) == decide ((0 : Int) < d.boxes.length)
def rBoxes (d : Decl) : Bool := d.boxes.foldl (fun b x => b && boxN x) (rBoxes0 d)
def rRole (d : Decl) : Bool := decide (3 < d.kind) && rMay d.role || decide (d.kind ≤ 3) && zeroW d.role
def rRest (d : Decl) : Bool :=
  if d.kind = 4 ∨ d.kind = 5 then rMay d.label && rMay d.place && (d.place.any || d.place.name.data.toList != []) && num d.lo && num d.hi && num d.zoom
  else zeroW d.label && zeroW d.place && d.lo == 0 && d.hi == 0 && d.zoom == 0
def rRight (d : Decl) : Bool := if d.kind < 1 ∨ 6 < d.kind then false else rNamed d && rNumber d && rBoxes d && rRole d && rRest d

theorem rMay_eq (w : Who) : rMay w = rightW w := by
  unfold rMay rightW
  cases w.any with
  | true => rfl
  | false =>
    by_cases h : w.name.data.toList = []
    · have : Lx.isName ([] : Lx.Bytes) = false := rfl
      simp [h, this]
    · have h1 : (w.name.data.toList == []) = false := beq_eq_false_iff_ne.2 h
      simp only [h1, Bool.false_and, Bool.false_or, Bool.false_eq_true, if_false]
      exact Bool.and_comm _ _
theorem foldl_and {α : Type} (f : α → Bool) (l : List α) : ∀ b, l.foldl (fun b x => b && f x) b = (b && l.all f) := by
  induction l with
  | nil => intro b; simp
  | cons x l ih => intro b; rw [List.foldl_cons, ih, List.all_cons, Bool.and_assoc]
theorem len_pos (l : List Box) : decide ((0 : Int) < l.length) = !((l.length : Int) == 0) := by
  rw [Bool.eq_iff_iff, Bool.not_eq_true', beq_eq_false_iff_ne, decide_eq_true_eq]
  omega
theorem len_zero {l : List Box} (h : ((l.length : Int) == 0) = true) : l = [] := by
  rw [beq_iff_eq] at h
  exact List.eq_nil_of_length_eq_zero (by omega)
theorem may_eq (d : Decl) : rRight d = may d := by
  unfold rRight may
  by_cases hk : d.kind < 1 ∨ 6 < d.kind
  · rw [if_pos hk, if_neg (by omega), if_neg (by omega), if_neg (by omega), if_neg (by omega)]
  · rw [if_neg hk]
    have h6 : d.kind = 1 ∨ d.kind = 2 ∨ d.kind = 3 ∨ d.kind = 4 ∨ d.kind = 5 ∨ d.kind = 6 := by omega
    have hb : rBoxes d = (rBoxes0 d && d.boxes.all boxN) := foldl_and _ _ _
    rw [hb]
    unfold rNamed rNumber rBoxes0 rRole rRest
    rw [len_pos, rMay_eq, rMay_eq, rMay_eq]
    unfold noRule noName ruleD placeW boxesN
    rw [len_pos]
    cases hl : ((d.boxes.length : Int) == 0) with
    | true =>
      have h0 := len_zero hl
      rw [h0]
      rcases h6 with h | h | h | h | h | h <;> rw [h] <;> simp <;> (try (rw [Bool.eq_iff_iff]; simp only [Bool.and_eq_true])) <;> (try (constructor <;> (intro hh; simp_all; done)))
    | false =>
      rcases h6 with h | h | h | h | h | h <;> rw [h] <;> simp <;> (try (rw [Bool.eq_iff_iff]; simp only [Bool.and_eq_true])) <;> (try (constructor <;> (intro hh; simp_all; done)))

theorem may_kind {d : Decl} (h : may d = true) : 1 ≤ d.kind ∧ d.kind ≤ 6 := by
  unfold may at h
  split at h
  · omega
  · split at h
    · omega
    · split at h
      · omega
      · split at h
        · omega
        · cases h
theorem may_boxes {d : Decl} (h : may d = true) (hk : d.kind ≠ 3) : d.boxes = [] := by
  unfold may at h
  by_cases h1 : d.kind = 1 ∨ d.kind = 2
  · rw [if_pos h1] at h; simp only [Bool.and_eq_true] at h; exact len_zero h.1.1.2
  · rw [if_neg h1, if_neg hk] at h
    by_cases h4 : d.kind = 4 ∨ d.kind = 5
    · rw [if_pos h4] at h; simp only [noName, Bool.and_eq_true] at h; exact len_zero h.1.2
    · rw [if_neg h4] at h
      by_cases h6 : d.kind = 6
      · rw [if_pos h6] at h; simp only [noName, Bool.and_eq_true] at h; exact len_zero h.1.1.2
      · rw [if_neg h6] at h; cases h

/-! ### the reference's -/
def rsum (ahead : List Decl) (k : Int) (w : Who) : Except Int Int :=
  if w.any then .ok 255
  else if w.name.data.toList = [] then (if 7 < w.n then .error 33 else .ok (2 ^ w.n.toNat))
  else match declared ahead k w.name with
    | none => .error 21
    | some d => if 7 < d.n then .error 33 else .ok (2 ^ d.n.toNat)
def rwhere (ahead : List Decl) (w : Who) : Except Int (List Box) :=
  if w.any then .ok [grid] else match declared ahead 3 w.name with | none => .error 21 | some g => .ok g.boxes
def rrule (ahead : List Decl) (d : Decl) (n boxes : Int) : Except F3 Rule :=
  if 32 ≤ n then .error (2, d.line, d.col)
  else match rsum ahead 1 d.role with
    | .error e => .error (e, d.role.line, d.role.col)
    | .ok roles =>
      if d.kind = 6 then .ok ⟨d.kind, roles, 0, 0, 0, [], 0⟩
      else if d.hi < d.lo ∨ 7 < d.hi then .error (33, d.line, d.col)
      else match rsum ahead 2 d.label with
        | .error e => .error (e, d.label.line, d.label.col)
        | .ok labels => match rwhere ahead d.place with
          | .error e => .error (e, d.place.line, d.place.col)
          | .ok bs =>
            if 32 < boxes + bs.length then .error (2, d.line, d.col)
            else if 16 < d.zoom then .error (33, d.line, d.col)
            else .ok ⟨d.kind, roles, d.lo, d.hi, labels, bs, d.zoom⟩
def rbad (d : Decl) : Bool := d.boxes.foldl (fun b x => b || !boxR x) (decide (d.kind < 3) && decide (7 < d.n))
def rrun : List Decl → List Decl → List Rule → Int → Except F3 (List Rule)
  | _, [], out, _ => .ok out
  | a, d :: r, out, boxes =>
    if 3 < d.kind then match rrule a d out.length boxes with
      | .error f => .error f
      | .ok x => rrun (a ++ [d]) r (out ++ [x]) (boxes + x.boxes.length)
    else if (declared a d.kind d.name).isSome then .error (20, d.line, d.col)
    else if rbad d then .error (33, d.line, d.col)
    else rrun (a ++ [d]) r out boxes
def rcheckV (l : List Decl) : Except F3 (List Rule) := if l.all rRight then rrun [] l [] 0 else .error (1, 0, 0)

theorem foldl_or {α : Type} (f : α → Bool) (l : List α) : ∀ b, l.foldl (fun b x => b || !f x) b = (b || !l.all f) := by
  induction l with
  | nil => intro b; simp
  | cons x l ih => intro b; rw [List.foldl_cons, ih, List.all_cons, Bool.not_and, Bool.or_assoc]
theorem rsum_eq (ahead : List Decl) (k : Int) (w : Who) : rsum ahead k w = if setE ahead k w = 0 then .ok (setN ahead k w) else .error (setE ahead k w) := by
  unfold rsum setE setN whoN
  cases w.any with
  | true => rfl
  | false =>
    simp only [Bool.false_eq_true, if_false]
    by_cases h : w.name.data.toList = []
    · simp only [h, if_true, ne_eq, not_true, false_and, if_false]
      by_cases h7 : 7 < w.n
      · simp [h7]
      · simp [h7]
    · simp only [h, if_false, ne_eq, not_false_eq_true, true_and]
      cases hd : declared ahead k w.name with
      | none => simp
      | some d =>
        simp only [reduceCtorEq, if_false]
        by_cases h7 : 7 < d.n
        · simp [h7]
        · simp [h7]
theorem rwhere_eq (ahead : List Decl) (w : Who) : rwhere ahead w = if whereE ahead w = 0 then .ok (whereB ahead w) else .error (whereE ahead w) := by
  unfold rwhere whereE whereB
  cases w.any with
  | true => rfl
  | false =>
    simp only [Bool.false_eq_true, if_false]
    cases declared ahead 3 w.name with
    | none => simp
    | some d => simp
theorem setE_vals (ahead : List Decl) (k : Int) (w : Who) : setE ahead k w = 0 ∨ setE ahead k w = 21 ∨ setE ahead k w = 33 := by
  unfold setE
  split
  · exact .inl rfl
  · split
    · exact .inr (.inl rfl)
    · split
      · exact .inr (.inr rfl)
      · exact .inl rfl
theorem whereE_vals (ahead : List Decl) (w : Who) : whereE ahead w = 0 ∨ whereE ahead w = 21 := by
  unfold whereE
  split
  · exact .inl rfl
  · split
    · exact .inl rfl
    · exact .inr rfl

/-- a state that stopped stays -/
theorem wrong_stopped {c : Ck} (h : c.f.1 ≠ 0) (e l k : Int) : c.wrong e l k = c := by unfold Ck.wrong; rw [if_neg h]
theorem wrongIf_stopped {c : Ck} (h : c.f.1 ≠ 0) (e l k : Int) : c.wrongIf e l k = c := by
  unfold Ck.wrongIf
  split
  · rfl
  · exact wrong_stopped h _ _ _
theorem wrong_f {c : Ck} (h : c.f.1 = 0) (e l k : Int) : c.wrong e l k = { c with f := (e, l, k) } := by unfold Ck.wrong; rw [if_pos h]
theorem wrongIf_f {c : Ck} (h : c.f.1 = 0) {e : Int} (he : e ≠ 0) (l k : Int) : c.wrongIf e l k = { c with f := (e, l, k) } := by unfold Ck.wrongIf; rw [if_neg he, wrong_f h]
theorem wrongIf_zero (c : Ck) (l k : Int) : c.wrongIf 0 l k = c := by unfold Ck.wrongIf; rw [if_pos rfl]

theorem ckRule_eq (ahead : List Decl) (c : Ck) (d : Decl) (h0 : c.f = (0, 0, 0)) (hn : c.rules.length ≤ 32) :
    match rrule ahead d c.rules.length c.boxes with
    | .error f => (ckRule ahead c d).f = f ∧ f.1 ≠ 0
    | .ok x => ckRule ahead c d = ⟨c.rules ++ [x], c.boxes + x.boxes.length, (0, 0, 0)⟩ ∧ c.rules.length < 32 := by
  obtain ⟨rules, boxes, f⟩ := c
  simp only at h0 hn
  subst h0
  have v1 := setE_vals ahead 1 d.role
  have v2 := setE_vals ahead 2 d.label
  have v3 := whereE_vals ahead d.place
  unfold rrule
  rw [rsum_eq, rsum_eq, rwhere_eq]
  unfold ckRule ckCloak ckZoom ckBoxes ckMore ckWhere ckLabel ckTier ckRole ckLong ckRuleOf
  simp only
  by_cases hl : rules.length = 32
  · have hl' : (32 : Int) ≤ rules.length := by omega
    simp [hl, Ck.wrong, Ck.wrongIf]
    split <;> simp
    all_goals (repeat' split) <;> simp_all
  · have hl' : ¬ (32 : Int) ≤ rules.length := by omega
    have hl3 : rules.length < 32 := by omega
    simp only [hl, hl', if_false]
    by_cases h1 : setE ahead 1 d.role = 0
    · rw [h1]
      simp only [if_true, wrongIf_zero]
      by_cases h6 : d.kind = 6
      · simp [h6, hl3]
      · simp only [h6, if_false]
        by_cases ht : d.hi < d.lo ∨ 7 < d.hi
        · simp only [ht, if_true]
          simp [Ck.wrong, Ck.wrongIf]
          all_goals ((repeat' split) <;> simp_all)
        · simp only [ht, if_false]
          by_cases h2 : setE ahead 2 d.label = 0
          · rw [h2]
            simp only [if_true, wrongIf_zero]
            by_cases h3 : whereE ahead d.place = 0
            · rw [h3]
              simp only [if_true, wrongIf_zero]
              by_cases hb : 32 < boxes + ((whereB ahead d.place).length : Int)
              · simp only [hb, if_true]
                simp [Ck.wrong]
                all_goals ((repeat' split) <;> simp_all)
              · simp only [hb, if_false]
                by_cases hz : 16 < d.zoom
                · simp [hz, Ck.wrong]
                · simp [hz, hl3]
            · simp only [h3, if_false]
              simp [Ck.wrong, Ck.wrongIf, h3]
              all_goals ((repeat' split) <;> simp_all)
          · simp only [h2, if_false]
            simp [Ck.wrong, Ck.wrongIf, h2]
            all_goals ((repeat' split) <;> simp_all)
    · simp only [h1, if_false]
      simp [Ck.wrong, Ck.wrongIf, h1]
      all_goals ((repeat' split) <;> simp_all)

theorem rbad_eq {d : Decl} (hm : may d = true) (hk : d.kind ≤ 3) : rbad d = if d.kind = 3 then !boxesR d.boxes else decide (7 < d.n) := by
  unfold rbad boxesR
  rw [foldl_or]
  have := may_kind hm
  by_cases h3 : d.kind = 3
  · rw [if_pos h3]; simp [h3]
  · rw [if_neg h3, may_boxes hm h3]
    have : d.kind < 3 := by omega
    simp [this]

theorem ckRun_eq (l : List Decl) : ∀ (a : List Decl) (c : Ck), (∀ d ∈ l, may d = true) → c.f = (0, 0, 0) → c.rules.length ≤ 32 → rrun a l c.rules c.boxes = ckRun a l c := by
  induction l with
  | nil => intro a c _ _ _; rfl
  | cons d l ih =>
    intro a c hm h0 hn
    have hd := hm d List.mem_cons_self
    have hk := may_kind hd
    have hm' : ∀ d ∈ l, may d = true := fun x hx => hm x (List.mem_cons_of_mem _ hx)
    unfold rrun ckRun
    by_cases h3 : 3 < d.kind
    · rw [if_pos h3]
      have he : ckDecl a c d = ckRule a c d := by unfold ckDecl; rw [if_neg (by omega), if_neg (by omega)]
      rw [he]
      have hr := ckRule_eq a c d h0 hn
      revert hr
      cases rrule a d c.rules.length c.boxes with
      | error f => intro hr; simp only at hr ⊢; rw [if_neg (by rw [hr.1]; exact hr.2), hr.1]
      | ok x =>
        intro hr
        simp only at hr ⊢
        rw [hr.1, if_pos rfl]
        have := hr.2
        exact ih _ ⟨c.rules ++ [x], _, _⟩ hm' rfl (by simp only [List.length_append, List.length_cons, List.length_nil]; omega)
    · rw [if_neg h3, rbad_eq hd (by omega)]
      have hz : c.f.1 = 0 := by rw [h0]
      by_cases hk3 : d.kind = 3
      · have he : ckDecl a c d = ckRegion a c d := by unfold ckDecl; rw [if_neg (by omega), if_pos hk3]
        rw [he, if_pos hk3]
        unfold ckRegion
        rw [hk3]
        cases (declared a 3 d.name).isSome with
        | true => simp [wrong_f hz]
        | false =>
          cases hb : boxesR d.boxes with
          | true => simp [hz]; exact ih _ c hm' h0 hn
          | false => simp [wrong_f hz]
      · have he : ckDecl a c d = ckNumber a c d := by unfold ckDecl; rw [if_pos (by omega)]
        rw [he, if_neg hk3]
        unfold ckNumber
        cases (declared a d.kind d.name).isSome with
        | true => simp [wrong_f hz]
        | false =>
          by_cases h7 : 7 < d.n
          · simp [h7, wrong_f hz]
          · simp [h7, hz]; exact ih _ c hm' h0 hn

theorem rcheck_eq (l : List Decl) : rcheckV l = checkV l := by
  unfold rcheckV checkV
  have e : l.all rRight = l.all may := by congr 1; funext d; exact may_eq d
  rw [e]
  cases h : l.all may with
  | false => rfl
  | true =>
    simp only [if_true]
    exact ckRun_eq l [] ⟨[], 0, (0, 0, 0)⟩ (fun d hd => List.all_eq_true.1 h d hd) rfl (by simp)

end Go.Proofs.YteddkgpnklfppaaGreatDoor.Ru

namespace Go.Proofs.YteddkgpnklfppaaGreatDoor
open Go.RowKit Go.Sort

/-- a declaration whose texts and boxes are of a size that can be -/
structure DSmall (d : Po.Decl) : Prop where
  name : d.name.size ≤ 140737488355328
  role : d.role.name.size ≤ 140737488355328
  label : d.label.name.size ≤ 140737488355328
  place : d.place.name.size ≤ 140737488355328
  boxes : d.boxes.length * 32 ≤ 140737488355328
/-- a row of declarations in memory -/
structure DRow (w : World) (g off cap : Nat) (ds : List Po.Decl) : Prop where
  cap : ds.length ≤ cap
  lt : g < w.heap.size
  get : ∀ (i : Nat) (hi : i < ds.length), ∃ x, w.rangeAt g (off + i * 24) (declCells ds[i] x).toList ∧ BRow w x ds[i].boxes
theorem DRow.ext {w w' : World} {g off cap : Nat} {ds : List Po.Decl} (h : DRow w g off cap ds) (hb : Below w.heap.size w w') : DRow w' g off cap ds :=
  ⟨h.cap, Nat.lt_of_lt_of_le h.lt hb.size, fun i hi => by
    obtain ⟨x, h1, h2⟩ := h.get i hi
    exact ⟨x, fun j u hu => (hb.cell (p := ⟨g, off + i * 24 + j, none⟩) h.lt).trans (h1 j u hu), h2.ext hb⟩⟩
/-- a slice that reads as declarations -/
def DSl (w : World) (v : Value) (ds : List Po.Decl) : Prop := (v = .slice none 0 0 ∧ ds = []) ∨ ∃ g off cap, v = .slice (some ⟨g, off, none⟩) ds.length cap ∧ DRow w g off cap ds
theorem DSl.ext {w w' : World} {v : Value} {ds : List Po.Decl} (h : DSl w v ds) (hb : Below w.heap.size w w') : DSl w' v ds := h.imp id fun ⟨g, off, cap, hv, hr⟩ => ⟨g, off, cap, hv, hr.ext hb⟩
theorem DSl.shape {w : World} {v : Value} {ds : List Po.Decl} (h : DSl w v ds) : ∃ p c, v = .slice p ds.length c := by
  rcases h with ⟨rfl, rfl⟩ | ⟨g, off, cap, rfl, _⟩
  · exact ⟨_, _, rfl⟩
  · exact ⟨_, _, rfl⟩
theorem Decls.sl {w : World} {v : Value} {ds : List Po.Decl} {vs : List Value} (h : Decls w v ds vs) : DSl w v ds := by
  have hz : (ds.zip vs).length = ds.length := by rw [List.length_zip, h.len]; omega
  have hr : Row w v (ds.zip vs).length 24 ((ds.zip vs).flatMap fun p => (declCells p.1 p.2).toList) := by rw [hz]; exact h.row
  rcases srow_of (f := fun p : Po.Decl × Value => declCells p.1 p.2) (fun _ _ => rfl) hr with ⟨hv, h0⟩ | ⟨g, off, cap, hv, hs⟩
  · refine .inl ⟨hv, ?_⟩
    have : ds.length = 0 := by rw [← hz, h0]; rfl
    exact List.eq_nil_of_length_eq_zero this
  · rw [hz] at hv
    refine .inr ⟨g, off, cap, hv, by have := hs.cap; omega, hs.lt, fun i hi => ?_⟩
    have hi2 : i < vs.length := by rw [h.len]; exact hi
    have h1 := hs.get i (by omega)
    rw [List.getElem_zip] at h1
    exact ⟨vs[i], h1, (h.box i _ _ (List.getElem?_eq_getElem hi) (List.getElem?_eq_getElem hi2)).b⟩
/-- what the walk wants of declaration number i -/
structure DAt (w : World) (g o : Nat) (d : Po.Decl) (x : Value) : Prop where
  at_ : w.rangeAt g o (declCells d x).toList
  box : BRow w x d.boxes
  one : (declCells d x).all (·.oneCell') = true
theorem DRow.at {w w' : World} {g off cap : Nat} {ds : List Po.Decl} (h : DRow w g off cap ds) (hb : Below w.heap.size w w') {i : Nat} (hi : i < ds.length) : ∃ x, DAt w' g (off + i * 24) ds[i] x := by
  obtain ⟨x, h1, h2⟩ := (h.ext hb).get i hi
  exact ⟨x, h1, h2, declCells_one _ h2.one⟩

set_option maxRecDepth 100000 in
set_option maxHeartbeats 1000000 in
theorem pright_any {w : World} {v : Value} {l : List Po.Decl} (h : DSl w v l) (hn : l.length ≤ 140737488355328) (hs : ∀ d ∈ l, DSmall d) :
    Calls Tryz.prog 31 #[v] w fun e w' => e = .returned (.bool (l.all Ru.may)) ∧ Below w.heap.size w w' := by
  rcases h with ⟨rfl, rfl⟩ | ⟨g, off, cap, rfl, hr⟩
  · go_enter Tryz.func31, Tryz.ntmps31
    go_wp2_with fail
    go_loop [7] (fun u => u = .int .i64 0) (fun _ => 0)
    case atStart => rfl
    case round =>
      subst hrel
      go_wp2_with fail
      go_ret
      exact ⟨rfl, Below.refl _ _⟩
  · have hr' := hid hr
    have hs' := hid hs
    clear hr hs
    go_enter Tryz.func31, Tryz.ntmps31
    go_wp2_with fail
    go_loopw [7] (fun u wr => ∃ i : Nat, u = .int .i64 i ∧ i ≤ l.length ∧ Below w.heap.size w wr ∧ (l.take i).all Ru.may = true) (fun u _ => l.length - (intOf u).toNat)
    case atStart => exact ⟨0, rfl, Nat.zero_le _, Below.refl _ _, rfl⟩
    case round =>
      obtain ⟨i, rfl, hle, hQ, hall⟩ := hrel
      have hQ' := hid hQ
      have hall' := hid hall
      clear hQ hall
      by_cases hlt : i < l.length
      · obtain ⟨x, hs⟩ := hr'.out.at hQ'.out hlt
        have hx' := hid hs
        have hyes := hid (fun h => all_take hlt hall'.out h)
        have hno := hid (fun h => all_no (p := Ru.may) hlt h)
        have hsm := hs'.out _ (List.getElem_mem hlt)
        have hb := hid (may_any l[i] x (wr.alloc (.cells (declCells l[i] x) 83)) hsm.name hsm.role hsm.label hsm.place (hs.box.ext (balloc wr (.cells (declCells l[i] x) 83))) (by have := hsm.boxes; omega))
        clear hs hsm
        generalize l[i] = d at *
        go_wp2_with (first | (refine wpList_load_at rfl 83 (.tmp 9) rfl 10 rfl g (off + i * 24) (declCells d x) (hx'.out.at_) rfl Tryz.underlying83 rfl (by kernel_rfl) ?_) | (refine wpList_store_new rfl 83 (.tmp 4) (.tmp 10) rfl rfl wr 83 _ (declCells d x) rfl rfl rfl (by kernel_rfl) rfl (hx'.out.one) ?_) | (refine wpList_load_blk rfl 83 (.tmp 4) rfl 11 rfl wr.heap.size 83 (declCells d x) (Blk.new wr _ _) rfl Tryz.underlying83 rfl (by kernel_rfl) ?_))
        refine hb.out.mono ?_
        rintro e w1 ⟨rfl, hb1⟩
        have Q1 := hid (bthen hQ'.out (bthen (balloc wr _) hb1))
        generalize Ru.may d = rr at *
        cases rr with
        | true =>
          have hy := hid (hyes.out rfl)
          go_wp2_with fail
          go_roundw
          case rel => exact ⟨i + 1, by go_num, by omega, Q1.out, hy.out⟩
          case measure => simp [intOf]; omega
        | false =>
          have hy := hid (hno.out rfl)
          go_wp2_with fail
          go_ret
          exact ⟨ret_bool hy.out.symm, Q1.out⟩
      · obtain rfl : i = l.length := by omega
        have hf := hid (show l.all Ru.may = true by have h := hall'.out; rwa [List.take_of_length_le (Nat.le_refl _)] at h)
        go_wp2_with fail
        go_ret
        exact ⟨ret_bool hf.out.symm, hQ'.out⟩

end Go.Proofs.YteddkgpnklfppaaGreatDoor

namespace Go.Proofs.YteddkgpnklfppaaGreatDoor
open Go.RowKit Go.Sort Go.Maps

def numF (ahead : List Po.Decl) (k : Int) : Lit → Option Value
  | .string t => (Ru.declared ahead k ⟨t.toArray⟩).map fun d => .int .i64 d.n
  | _ => none
def outF (b1 b2 : Nat) : Lit → Option Value
  | .int .i64 x => if x = 1 then some (.map (some b1)) else if x = 2 then some (.map (some b2)) else none
  | _ => none
def regF (ahead : List Po.Decl) (rg : ByteArray → Value) : Lit → Option Value
  | .string t => (Ru.declared ahead 3 ⟨t.toArray⟩).map fun _ => rg ⟨t.toArray⟩
  | _ => none
def rulesCells (rs : List Ru.Rule) (vs : List Value) : List Value := (rs.zip vs).flatMap fun p => (ruleArr p.1 p.2).toList

/-- what was declared, and the rules so far, in memory -/
structure Inner (w : World) (bo b1 b2 br c : Nat) (ahead : List Po.Decl) (rules : List Ru.Rule) (rv : Value) (vs : List Value) (rg : ByteArray → Value) : Prop where
  ord : bo < b1 ∧ b1 < b2 ∧ b2 < br ∧ br < c ∧ c < w.heap.size
  outer : KMap Tryz.prog 3 w bo 2 (outF b1 b2)
  nums1 : KMap Tryz.prog 9 w b1 ahead.length (numF ahead 1)
  nums2 : KMap Tryz.prog 9 w b2 ahead.length (numF ahead 2)
  regs : KMap Tryz.prog 9 w br ahead.length (regF ahead rg)
  rows : ∀ nm d, Ru.declared ahead 3 nm = some d → Row w (rg nm) d.boxes.length 4 (boxesCells d.boxes) ∧ d.boxes.length * 32 ≤ 140737488355328 ∧ ∀ b, (rg nm).ownBlock = some b → c < b ∧ rv.ownBlock ≠ some b
  len : vs.length = rules.length
  own : w.ownsRow (c + 1) 56 7 rv rules.length (rulesCells rules vs)
  box : ∀ (i : Nat) r x, rules[i]? = some r → vs[i]? = some x → Row w x r.boxes.length 4 (boxesCells r.boxes) ∧ r.boxes.length * 32 ≤ 140737488355328 ∧ ∀ b, x.ownBlock = some b → c < b ∧ rv.ownBlock ≠ some b
theorem Inner.touch {w w' : World} {bo b1 b2 br c : Nat} {ahead : List Po.Decl} {rules : List Ru.Rule} {rv : Value} {vs : List Value} {rg : ByteArray → Value} (h : Inner w bo b1 b2 br c ahead rules rv vs rg) (ht : Touch c w w') : Inner w' bo b1 b2 br c ahead rules rv vs rg := by
  obtain ⟨o1, o2, o3, o4, o5⟩ := h.ord
  refine ⟨⟨o1, o2, o3, o4, Nat.lt_of_lt_of_le o5 ht.size⟩, h.outer.touch ht (by omega), h.nums1.touch ht (by omega), h.nums2.touch ht (by omega), h.regs.touch ht (by omega), ?_, h.len, owns_touch h.own ht (by omega), ?_⟩
  · intro nm d hd
    obtain ⟨r1, r2, r3⟩ := h.rows nm d hd
    exact ⟨r1.touch ht (fun e => by have := (r3 c e).1; omega), r2, r3⟩
  · intro i r x hr hx
    obtain ⟨r1, r2, r3⟩ := h.box i r x hr hx
    exact ⟨r1.touch ht (fun e => by have := (r3 c e).1; omega), r2, r3⟩
theorem Inner.ext {w w' : World} {bo b1 b2 br c : Nat} {ahead : List Po.Decl} {rules : List Ru.Rule} {rv : Value} {vs : List Value} {rg : ByteArray → Value} (h : Inner w bo b1 b2 br c ahead rules rv vs rg) (hb : Below w.heap.size w w') : Inner w' bo b1 b2 br c ahead rules rv vs rg :=
  h.touch (Touch.of_below hb)

def ckCells (bo br : Nat) (k : Ru.Ck) (rv : Value) : Array Value := #[.map (some bo), .map (some br), rv, .int .i64 k.boxes, .int .i64 k.f.1, .int .i64 k.f.2.1, .int .i64 k.f.2.2]
/-- the checker in block c -/
structure Chk (w : World) (bo b1 b2 br c : Nat) (ahead : List Po.Decl) (k : Ru.Ck) (rv : Value) : Prop where
  blk : Blk w c (ckCells bo br k rv) 106
  inn : ∃ vs rg, Inner w bo b1 b2 br c ahead k.rules rv vs rg
structure ChkF (w : World) (bo br c : Nat) (rv : Value) (boxes fe fl fc : Int) : Prop where
  c0 : w.cell? ⟨c, 0, none⟩ = some (.map (some bo))
  c1 : w.cell? ⟨c, 1, none⟩ = some (.map (some br))
  c2 : w.cell? ⟨c, 2, none⟩ = some rv
  c3 : w.cell? ⟨c, 3, none⟩ = some (.int .i64 boxes)
  c4 : w.cell? ⟨c, 4, none⟩ = some (.int .i64 fe)
  c5 : w.cell? ⟨c, 4 + 1, none⟩ = some (.int .i64 fl)
  c6 : w.cell? ⟨c, 4 + 1 + 1, none⟩ = some (.int .i64 fc)
  free : ∀ o, w.frozen? ⟨c, o, none⟩ = false
  lt : c < w.heap.size
theorem Chk.f {w : World} {bo b1 b2 br c : Nat} {ahead : List Po.Decl} {k : Ru.Ck} {rv : Value} (h : Chk w bo b1 b2 br c ahead k rv) : ChkF w bo br c rv k.boxes k.f.1 k.f.2.1 k.f.2.2 :=
  ⟨h.blk.cell 0 rfl, h.blk.cell 1 rfl, h.blk.cell 2 rfl, h.blk.cell 3 rfl, h.blk.cell 4 rfl, h.blk.cell 5 rfl, h.blk.cell 6 rfl, h.blk.free, h.blk.lt⟩
theorem Chk.ext {w w' : World} {bo b1 b2 br c : Nat} {ahead : List Po.Decl} {k : Ru.Ck} {rv : Value} (h : Chk w bo b1 b2 br c ahead k rv) (hb : Below w.heap.size w w') : Chk w' bo b1 b2 br c ahead k rv :=
  ⟨h.blk.ext hb, by obtain ⟨vs, rg, hi⟩ := h.inn; exact ⟨vs, rg, hi.ext hb⟩⟩
theorem Chk.setF {w : World} {bo b1 b2 br c : Nat} {ahead : List Po.Decl} {k : Ru.Ck} {rv : Value} (h : Chk w bo b1 b2 br c ahead k rv) (x y z : Int) :
    Chk (((w.setCell ⟨c, 4, none⟩ (.int .i64 x)).setCell ⟨c, 4 + 1, none⟩ (.int .i64 y)).setCell ⟨c, 4 + 1 + 1, none⟩ (.int .i64 z)) bo b1 b2 br c ahead { k with f := (x, y, z) } rv :=
  ⟨((h.blk.set 4 _).set 5 _).set 6 _, by
    obtain ⟨vs, rg, hi⟩ := h.inn
    exact ⟨vs, rg, hi.touch ((((Touch.refl c w).setCell 4 _).setCell (4 + 1) _).setCell (4 + 1 + 1) _)⟩⟩

set_option maxHeartbeats 1000000 in
theorem cwrong_any {w : World} {bo b1 b2 br c : Nat} {ahead : List Po.Decl} {k : Ru.Ck} {rv : Value} (h : Chk w bo b1 b2 br c ahead k rv) (e l p : Int) :
    Calls Tryz.prog 105 #[.pointer (some ⟨c, 0, none⟩), .int .i64 e, .agg #[.int .i64 l, .int .i64 p]] w fun en w' => en = .returned (.tuple #[]) ∧ Chk w' bo b1 b2 br c ahead (k.wrong e l p) rv ∧ Touch c w w' := by
  have h1 := hid h
  obtain ⟨c0, c1, c2, c3, c4, c5, c6, hf, hlt⟩ := h.f
  have hne : c ≠ w.heap.size := by omega
  have hne' : w.heap.size ≠ c := by omega
  clear h
  obtain ⟨rules, boxes, fe, fl, fp⟩ := k
  simp only at c3 c4 c5 c6
  by_cases h0 : fe = 0
  · subst h0
    have he := hid (show (Ru.Ck.mk rules boxes (0, fl, fp)).wrong e l p = ⟨rules, boxes, (e, l, p)⟩ from Ru.wrong_f rfl e l p)
    go_enter Tryz.func105, Tryz.ntmps105
    go_wp2_with fail
    go_end0
    rw [he.out]
    exact ⟨rfl, (h1.out.setF e l p).ext (balloc _ _), ((((Touch.refl c w).setCell _ _).setCell _ _).setCell _ _).alloc _⟩
  · have k0 : (fe == 0) = false := beq_eq_false_iff_ne.2 h0
    have he := hid (show (Ru.Ck.mk rules boxes (fe, fl, fp)).wrong e l p = ⟨rules, boxes, (fe, fl, fp)⟩ from Ru.wrong_stopped h0 e l p)
    clear h0
    go_enter Tryz.func105, Tryz.ntmps105
    go_wp2_with fail
    go_end0
    rw [he.out]
    exact ⟨rfl, h1.out.ext (balloc _ _), (Touch.refl c w).alloc _⟩

end Go.Proofs.YteddkgpnklfppaaGreatDoor

namespace Go.Proofs.YteddkgpnklfppaaGreatDoor
open Go.RowKit Go.Sort Go.Maps

theorem zeroMap (w : World) : (zeroValue 102).run Tryz.prog w = .ok (.map none) w := by kernel_rfl
theorem zeroInt (w : World) : (zeroValue 3).run Tryz.prog w = .ok (.int .i64 0) w := by kernel_rfl
theorem zeroRects (w : World) : (zeroValue 54).run Tryz.prog w = .ok (.slice none 0 0) w := by kernel_rfl
theorem lawI : Keyed Tryz.prog 3 := int_keyed Tryz.underlying3
theorem lawS : Keyed Tryz.prog 9 := string_keyed Tryz.underlying9
theorem keyI {x : Int} (hx : x = 1 ∨ x = 2) : keyOf Tryz.prog 3 (.int .i64 x) = some (.int .i64 x) := by
  rcases hx with rfl | rfl
  · exact keyOf_int_mk Tryz.underlying3 (by decide)
  · exact keyOf_int_mk Tryz.underlying3 (by decide)
theorem keyS {s : ByteArray} (hs : s.size ≤ 140737488355328) : keyOf Tryz.prog 9 (.string s) = some (.string s.data.toList) := Go.WideMaps.keyOf_string_mk Tryz.underlying9 (by unfold maxLen; omega)
theorem byt (s : ByteArray) : (⟨s.data.toList.toArray⟩ : ByteArray) = s := by cases s; simp

theorem Chk.drewN {w : World} {bo b1 b2 br c : Nat} {ahead : List Po.Decl} {k : Ru.Ck} {rv : Value} (h : Chk w bo b1 b2 br c ahead k rv) (n : Nat) : Chk (w.drewN n) bo b1 b2 br c ahead k rv := h.ext (bdrewN (Below.refl _ _) n)
/-- a number's name looked up -/
def lookN (ahead : List Po.Decl) (k : Int) (s : ByteArray) : Int := match Ru.declared ahead k s with | some d => d.n | none => 0
theorem Chk.look {w : World} {bo b1 b2 br c : Nat} {ahead : List Po.Decl} {k : Ru.Ck} {rv : Value} (h : Chk w bo b1 b2 br c ahead k rv) {kd : Int} (hk : kd = 1 ∨ kd = 2) {s : ByteArray} (hs : s.size ≤ 140737488355328) :
    ∃ bk, (bk = b1 ∧ kd = 1 ∨ bk = b2 ∧ kd = 2) ∧ (∀ n, Sem.run Tryz.prog (Instr.lookup 103 (.map (some bo)) (.int .i64 kd) false) (w.drewN n) = .ok (.map (some bk)) (w.drewN n)) ∧
      ∀ n, Sem.run Tryz.prog (Instr.lookup 102 (.map (some bk)) (.string s) true) (w.drewN n) = .ok (.tuple #[.int .i64 (lookN ahead kd s), .bool (Ru.declared ahead kd s).isSome]) (w.drewN n) := by
  obtain ⟨vs, rg, hi⟩ := h.inn
  have ho := fun n => (hi.outer.drewN n).look1 lawI Tryz.underlying103 (zeroMap _) (keyI hk) trivial
  have key : ∀ bk, KMap Tryz.prog 9 w bk ahead.length (numF ahead kd) → ∀ n, Sem.run Tryz.prog (Instr.lookup 102 (.map (some bk)) (.string s) true) (w.drewN n) = .ok (.tuple #[.int .i64 (lookN ahead kd s), .bool (Ru.declared ahead kd s).isSome]) (w.drewN n) := by
    intro bk hm n
    have := (hm.drewN n).look lawS Tryz.underlying102 (zeroInt _) (keyS hs) trivial
    rw [this]
    unfold numF lookN
    simp only [byt]
    cases Ru.declared ahead kd s <;> simp
  rcases hk with rfl | rfl
  · exact ⟨b1, .inl ⟨rfl, rfl⟩, ho, key b1 hi.nums1⟩
  · exact ⟨b2, .inr ⟨rfl, rfl⟩, ho, key b2 hi.nums2⟩
theorem shl_ok {n : Int} (h0 : 0 ≤ n) (h7 : n ≤ 7) : wrap64 (2 ^ n.toNat) = 2 ^ n.toNat := by
  have : n = 0 ∨ n = 1 ∨ n = 2 ∨ n = 3 ∨ n = 4 ∨ n = 5 ∨ n = 6 ∨ n = 7 := by omega
  rcases this with rfl | rfl | rfl | rfl | rfl | rfl | rfl | rfl <;> decide +kernel

set_option maxHeartbeats 2000000 in
theorem cset_any {w : World} {bo b1 b2 br c : Nat} {ahead : List Po.Decl} {k : Ru.Ck} {rv : Value} (h : Chk w bo b1 b2 br c ahead k rv) {kd : Int} (hk : kd = 1 ∨ kd = 2) (x : Po.Who) (hs : x.name.size ≤ 140737488355328) (hp : x.any = false → 0 ≤ Ru.whoN ahead kd x) :
    Calls Tryz.prog 106 #[.pointer (some ⟨c, 0, none⟩), .int .i64 kd, .agg (whoArr x)] w fun en w' => en = .returned (.int .i64 (Ru.setN ahead kd x)) ∧ Chk w' bo b1 b2 br c ahead (k.wrongIf (Ru.setE ahead kd x) x.line x.col) rv ∧ Touch c w w' := by
  have hz := balloc w (.cells (whoArr x) 81)
  have h1 := hid (h.ext hz)
  have t1 := hid (Touch.of_below (b := c) hz)
  have B0 := hid (Blk.new w (whoArr x) 81)
  obtain ⟨bk, _, l1, l2⟩ := (h.ext hz).look hk hs
  have hc := h.blk.lt
  have hne : w.heap.size ≠ c := by omega
  have hN := hid (show Ru.setN ahead kd x = _ from rfl)
  have hE := hid (show Ru.setE ahead kd x = _ from rfl)
  unfold Ru.setN at hN
  unfold Ru.setE at hE
  clear hz
  cases ha : x.any with
  | true =>
    rw [ha] at hN hE
    obtain ⟨any, name, n, line, col⟩ := x
    simp only at ha
    subst ha
    unfold whoArr at *
    simp only at h1 t1 B0 ⊢
    clear l1 l2
    go_enter Tryz.func106, Tryz.ntmps106
    go_wp2_with fail
    go_ret
    refine ⟨ret_int (by unfold Ru.setN; simp), ?_, t1.out⟩
    unfold Ru.setE
    simp only [if_true, Ru.wrongIf_zero]
    exact h1.out
  | false =>
    have hp0 := hp ha
    by_cases hem : x.name.data.toList = []
    · have hw : Ru.whoN ahead kd x = x.n := by unfold Ru.whoN; rw [if_pos hem]
      rw [hw] at hp0
      have hem' : x.name.toList = [] := by rw [ByteArray.toList_eq]; exact hem
      by_cases h7 : 7 < x.n
      · have eN := hid (show Ru.setN ahead kd x = 0 by unfold Ru.setN; rw [ha, hw, if_neg (by decide), if_pos h7])
        have eE := hid (show Ru.setE ahead kd x = 33 by unfold Ru.setE; rw [ha, hw, if_neg (by decide), if_neg (fun h => h.1 hem), if_pos h7])
        obtain ⟨any, name, n, line, col⟩ := x
        simp only at ha hem' h7 hp0
        subst ha
        unfold whoArr at *
        simp only at h1 t1 B0 ⊢
        clear l1 l2 hN hE hw hp hem
        go_enter Tryz.func106, Tryz.ntmps106
        go_wp2_with fail
        refine (cwrong_any h1.out _ _ _).mono ?_
        rintro en w2 ⟨rfl, h2, t2⟩
        have h2' := hid h2
        have t2' := hid (t1.out.trans t2)
        clear h2 t2
        go_wp2_with fail
        go_ret
        rw [eN.out, eE.out]
        exact ⟨rfl, by unfold Ru.Ck.wrongIf; rw [if_neg (by decide)]; exact h2'.out, t2'.out⟩
      · have eN := hid (show Ru.setN ahead kd x = 2 ^ x.n.toNat by unfold Ru.setN; rw [ha, hw, if_neg (by decide), if_neg h7])
        have eE := hid (show Ru.setE ahead kd x = 0 by unfold Ru.setE; rw [ha, hw, if_neg (by decide), if_neg (fun h => h.1 hem), if_neg h7])
        have h7' : x.n ≤ 7 := by omega
        obtain ⟨any, name, n, line, col⟩ := x
        simp only at ha hem' h7 hp0 h7' eN
        subst ha
        unfold whoArr at *
        simp only at h1 t1 B0 ⊢
        clear l1 l2 hN hE hw hp hem
        go_enter Tryz.func106, Tryz.ntmps106
        go_wp2_with fail
        go_ret
        rw [eN.out, eE.out, Ru.wrongIf_zero]
        exact ⟨ret_int (shl_ok hp0 h7'), h1.out, t1.out⟩
    · have hem' : ¬ x.name.toList = [] := by rw [ByteArray.toList_eq]; exact hem
      have hem2 : (x.name.toList == []) = false := beq_eq_false_iff_ne.2 hem'
      have hw : Ru.whoN ahead kd x = lookN ahead kd x.name := by unfold Ru.whoN lookN; rw [if_neg hem]; cases Ru.declared ahead kd x.name <;> rfl
      cases hd : Ru.declared ahead kd x.name with
      | none =>
        have hl0 : lookN ahead kd x.name = 0 := by unfold lookN; rw [hd]
        have eN := hid (show Ru.setN ahead kd x = 1 by unfold Ru.setN; rw [ha, hw, hl0, if_neg (by decide), if_neg (by decide)]; rfl)
        have eE := hid (show Ru.setE ahead kd x = 21 by unfold Ru.setE; rw [ha, if_neg (by decide), if_pos ⟨hem, hd⟩])
        rw [hl0, hd] at l2
        obtain ⟨any, name, n, line, col⟩ := x
        simp only at ha hem' hem2 l2
        subst ha
        unfold whoArr at *
        simp only at h1 t1 B0 l1 l2 ⊢
        simp only [Option.isSome_none] at l2
        clear hN hE hw hp hem hp0 hl0 hd
        obtain ⟨c0, c1, c2, c3, c4, c5, c6, hf, hlt⟩ := h.f
        have hne' : c ≠ w.heap.size := by omega
        go_enter Tryz.func106, Tryz.ntmps106
        go_wp2_with fail
        go_quiet (fail)
        clear l1 l2 c0 c1 c2 c3 c4 c5 c6 hf
        have h2 := hid (h1.out.drewN nq)
        have t2 := hid (t1.out.drewN nq)
        have B2 := hid (B0.out.drewN nq)
        go_wp2_with fail
        refine (cwrong_any h2.out _ _ _).mono ?_
        rintro en w3 ⟨rfl, h3, t3⟩
        have h3' := hid h3
        have t3' := hid (t2.out.trans t3)
        clear h3 t3
        go_wp2_with fail
        go_ret
        rw [eN.out, eE.out]
        exact ⟨ret_int (by decide), by unfold Ru.Ck.wrongIf; rw [if_neg (by decide)]; exact h3'.out, t3'.out⟩
      | some d =>
        have hl0 : lookN ahead kd x.name = d.n := by unfold lookN; rw [hd]
        rw [hw, hl0] at hp0
        rw [hl0, hd] at l2
        obtain ⟨c0, c1, c2, c3, c4, c5, c6, hf, hlt⟩ := h.f
        have hne' : c ≠ w.heap.size := by omega
        by_cases h7 : 7 < d.n
        · have eN := hid (show Ru.setN ahead kd x = 0 by unfold Ru.setN; rw [ha, hw, hl0, if_neg (by decide), if_pos h7])
          have eE := hid (show Ru.setE ahead kd x = 33 by unfold Ru.setE; rw [ha, hw, hl0, if_neg (by decide), if_neg (fun h => by rw [hd] at h; cases h.2), if_pos h7])
          obtain ⟨any, name, n, line, col⟩ := x
          simp only at ha hem' hem2 l2
          subst ha
          unfold whoArr at *
          simp only at h1 t1 B0 l1 l2 ⊢
          simp only [Option.isSome_some] at l2
          clear hN hE hw hp hem hl0 hd
          generalize d.n = dn at *
          go_enter Tryz.func106, Tryz.ntmps106
          go_wp2_with fail
          go_quiet (fail)
          clear l1 l2 c0 c1 c2 c3 c4 c5 c6 hf
          have h2 := hid (h1.out.drewN nq)
          have t2 := hid (t1.out.drewN nq)
          go_wp2_with fail
          refine (cwrong_any h2.out _ _ _).mono ?_
          rintro en w3 ⟨rfl, h3, t3⟩
          have h3' := hid h3
          have t3' := hid (t2.out.trans t3)
          clear h3 t3
          go_wp2_with fail
          go_ret
          rw [eN.out, eE.out]
          exact ⟨rfl, by unfold Ru.Ck.wrongIf; rw [if_neg (by decide)]; exact h3'.out, t3'.out⟩
        · have eN := hid (show Ru.setN ahead kd x = 2 ^ d.n.toNat by unfold Ru.setN; rw [ha, hw, hl0, if_neg (by decide), if_neg h7])
          have eE := hid (show Ru.setE ahead kd x = 0 by unfold Ru.setE; rw [ha, hw, hl0, if_neg (by decide), if_neg (fun h => by rw [hd] at h; cases h.2), if_neg h7])
          have h7' : d.n ≤ 7 := by omega
          obtain ⟨any, name, n, line, col⟩ := x
          simp only at ha hem' hem2 l2
          subst ha
          unfold whoArr at *
          simp only at h1 t1 B0 l1 l2 ⊢
          simp only [Option.isSome_some] at l2
          clear hN hE hw hp hem hl0 hd
          generalize d.n = dn at *
          go_enter Tryz.func106, Tryz.ntmps106
          go_wp2_with fail
          go_quiet (fail)
          clear l1 l2 c0 c1 c2 c3 c4 c5 c6 hf
          have h2 := hid (h1.out.drewN nq)
          have t2 := hid (t1.out.drewN nq)
          go_wp2_with fail
          go_ret
          rw [eN.out, eE.out, Ru.wrongIf_zero]
          exact ⟨ret_int (shl_ok hp0 h7'), h2.out, t2.out⟩

end Go.Proofs.YteddkgpnklfppaaGreatDoor
