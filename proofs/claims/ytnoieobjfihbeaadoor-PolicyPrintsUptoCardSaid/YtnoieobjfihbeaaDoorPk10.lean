/-
  Plain laws of the rules: the program's and the reference's answers are one; the order of rules; one rule more. No program.
  Rows of boxes in memory, as they may come in; small laws on lists.
-/
import Derived.Test.YtnoieobjfihbeaaDoorPk04
import Derived.Test.YtnoieobjfihbeaaDoorPk09

namespace Go.Proofs.YtnoieobjfihbeaaDoor.Ru
open Po (Box Who Decl)

theorem rruleR_eq (r : Rule) : rruleR r = ruleR r := by
  unfold rruleR ruleR
  by_cases h6 : r.kind = 6
  · rw [if_pos h6, if_pos h6]
    by_cases hb : r.boxes = []
    · rw [hb]; simp
    · have : ((r.boxes.length : Int) == 0) = false := by
        rw [beq_eq_false_iff_ne]
        have := List.length_pos_iff.2 hb
        omega
      rw [this]; simp
  · rw [if_neg h6, if_neg h6]
    by_cases h4 : r.kind = 4 ∨ r.kind = 5
    · have e : (r.kind == 4 || r.kind == 5) = true := by simpa using h4
      rw [if_pos h4, e]
      unfold boxesR small
      rw [Bool.eq_iff_iff]
      simp only [Bool.and_eq_true, decide_eq_true_eq, Bool.true_and]
      constructor <;> intro h <;> simp_all
    · have e : (r.kind == 4 || r.kind == 5) = false := by
        rw [Bool.eq_false_iff]; simpa using h4
      rw [if_neg h4, e]; simp
theorem rulesR_eq (l : List Rule) : l.all rruleR = rulesR l := by
  unfold rulesR; congr 1; funext r; exact rruleR_eq r
theorem ruleR_kind {r : Rule} (h : ruleR r = true) : r.kind = 4 ∨ r.kind = 5 ∨ r.kind = 6 := by
  unfold ruleR at h
  split at h
  · omega
  · split at h
    · omega
    · cases h
theorem rforR_eq (r : Rule) (role tier label : Int) : rforR r role tier label = forR r role tier label := by
  unfold rforR forR numbers3
  rw [rruleR_eq]
  cases h : ruleR r with
  | false => simp
  | true =>
    have hk := ruleR_kind h
    have e : decide (r.kind < 6) = (r.kind != 6) := by
      rw [Bool.eq_iff_iff]
      simp only [decide_eq_true_eq, bne_iff_ne]
      omega
    rw [e]
    simp only [Bool.true_and, Bool.and_assoc]
theorem boxHas_fits {b : Box} {x y : Int} (h : boxHas b x y = true) : fits x y = true := by
  unfold boxHas at h
  simp only [Bool.and_eq_true] at h
  exact h.1.2
theorem rfor2_eq (r : Rule) (role tier label x y : Int) : rfor2 r role tier label x y = (forR r role tier label && hasB r.boxes x y) := by
  unfold rfor2 hasB
  rw [rforR_eq]
  cases forR r role tier label with
  | false => simp
  | true =>
    simp only [Bool.true_and]
    cases hf : fits x y with
    | true => simp
    | false =>
      simp only [Bool.false_and]
      symm
      rw [List.any_eq_false]
      intro b hb h
      rw [boxHas_fits h] at hf
      cases hf
theorem forR_zoom {r : Rule} {role tier label : Int} (h : forR r role tier label = true) : 0 ≤ r.zoom ∧ r.zoom ≤ 16 ∧ (r.kind = 4 ∨ r.kind = 5) := by
  unfold forR at h
  simp only [Bool.and_eq_true, bne_iff_ne] at h
  have h1 := h.1.1.1.1.1.1
  have h2 := h.1.1.1.1.1.2
  have hk := ruleR_kind h1
  have h4 : r.kind = 4 ∨ r.kind = 5 := by omega
  unfold ruleR at h1
  rw [if_neg h2, if_pos h4] at h1
  unfold small at h1
  simp only [Bool.and_eq_true, decide_eq_true_eq] at h1
  exact ⟨h1.2.1, h1.2.2, h4⟩

/-- the two folds, apart -/
theorem fold_allowed (role tier label x y : Int) (l : List Rule) : ∀ p : Int × Int, (l.foldl (zoomStep role tier label x y) p).1 = l.foldl (rstepA role tier label x y) p.1 := by
  induction l with
  | nil => intro p; rfl
  | cons r l ih =>
    intro p
    rw [List.foldl_cons, List.foldl_cons, ih]
    congr 1
    unfold zoomStep rstepA
    rw [rfor2_eq]
    cases hf : (forR r role tier label && hasB r.boxes x y) with
    | false => simp
    | true =>
      by_cases h4 : r.kind = 4
      · simp only [h4, if_true, BEq.rfl, Bool.true_and, Bool.and_true]
        by_cases hz : p.1 < r.zoom
        · rw [if_pos (by simpa using hz)]; omega
        · rw [if_neg (by simpa using hz)]; omega
      · simp [h4]
theorem fold_capped (role tier label x y : Int) (l : List Rule) : ∀ (p : Int × Int) (a : Int), l.foldl (rstepC role tier label x y) (min a p.2) = min a (l.foldl (zoomStep role tier label x y) p).2 := by
  induction l with
  | nil => intro p a; rfl
  | cons r l ih =>
    intro p a
    rw [List.foldl_cons, List.foldl_cons, ← ih]
    congr 1
    unfold zoomStep rstepC
    rw [rfor2_eq]
    cases hf : (forR r role tier label && hasB r.boxes x y) with
    | false => simp
    | true =>
      have hz := forR_zoom (by simp only [Bool.and_eq_true] at hf; exact hf.1)
      by_cases h4 : r.kind = 4
      · have h5 : (r.kind == 5) = false := by rw [beq_eq_false_iff_ne]; omega
        simp [h4]
      · have h5 : (r.kind == 5) = true := by rw [beq_iff_eq]; omega
        simp only [h4, h5, if_true, if_false, Bool.true_and, Bool.and_true]
        by_cases hz : r.zoom < min a p.2
        · rw [if_pos (by simpa using hz)]; omega
        · rw [if_neg (by simpa using hz)]; omega
theorem fold_bounds (role tier label x y : Int) (l : List Rule) : ∀ p : Int × Int, 0 ≤ p.1 → p.1 ≤ 16 → p.2 ≤ 16 → 0 ≤ p.2 →
    0 ≤ (l.foldl (zoomStep role tier label x y) p).1 ∧ (l.foldl (zoomStep role tier label x y) p).1 ≤ 16 ∧ (l.foldl (zoomStep role tier label x y) p).2 ≤ 16 ∧ 0 ≤ (l.foldl (zoomStep role tier label x y) p).2 := by
  induction l with
  | nil => intro p h1 h2 h3 h4; exact ⟨h1, h2, h3, h4⟩
  | cons r l ih =>
    intro p h1 h2 h3 h4
    rw [List.foldl_cons]
    unfold zoomStep
    split
    · rename_i hf
      have hz := forR_zoom (by simp only [Bool.and_eq_true] at hf; exact hf.1)
      split
      · exact ih _ (by show 0 ≤ max p.1 r.zoom; omega) (by show max p.1 r.zoom ≤ 16; omega) h3 h4
      · exact ih _ h1 h2 (by show min p.2 r.zoom ≤ 16; omega) (by show 0 ≤ min p.2 r.zoom; omega)
    · exact ih _ h1 h2 h3 h4
theorem rzoom_eq (l : List Rule) (role tier label x y : Int) : rzoomV l role tier label x y = zoomV l role tier label x y := by
  unfold rzoomV zoomV
  rw [rulesR_eq]
  split
  · have h1 := fold_allowed role tier label x y l (0, 16)
    have h2 := fold_bounds role tier label x y l (0, 16) (by decide) (by decide) (by decide) (by decide)
    have h3 := fold_capped role tier label x y l (0, 16) (l.foldl (rstepA role tier label x y) 0)
    simp only at h1 h3
    rw [← h1] at h3 ⊢
    rw [← h3]
    congr 1
    show _ = min _ 16
    omega
  · rfl
theorem rcloaks_eq (l : List Rule) (role : Int) : rcloaksV l role = cloaksV l role := by
  unfold rcloaksV cloaksV
  rw [rulesR_eq]
  cases rulesR l with
  | false => simp
  | true =>
    cases small role 7 with
    | false =>
      simp
    | true => simp

/-! ### in any order -/
theorem zoomStep_comm (role tier label x y : Int) (p : Int × Int) (r s : Rule) : zoomStep role tier label x y (zoomStep role tier label x y p r) s = zoomStep role tier label x y (zoomStep role tier label x y p s) r := by
  unfold zoomStep
  cases (forR r role tier label && hasB r.boxes x y) <;> cases (forR s role tier label && hasB s.boxes x y) <;> simp only [Bool.false_eq_true, if_true, if_false]
  by_cases h1 : r.kind = 4 <;> by_cases h2 : s.kind = 4 <;> simp only [h1, h2, if_true, if_false] <;> ext <;> simp only <;> omega
theorem all_perm {α : Type} {l m : List α} (h : l.Perm m) (f : α → Bool) : l.all f = m.all f := by
  rw [Bool.eq_iff_iff, List.all_eq_true, List.all_eq_true]
  exact ⟨fun hl x hx => hl x (h.mem_iff.2 hx), fun hl x hx => hl x (h.mem_iff.1 hx)⟩
theorem any_perm {α : Type} {l m : List α} (h : l.Perm m) (f : α → Bool) : l.any f = m.any f := by
  rw [Bool.eq_iff_iff, List.any_eq_true, List.any_eq_true]
  exact ⟨fun ⟨x, hx, hf⟩ => ⟨x, h.mem_iff.1 hx, hf⟩, fun ⟨x, hx, hf⟩ => ⟨x, h.mem_iff.2 hx, hf⟩⟩
theorem foldl_perm {α β : Type} {f : β → α → β} (hc : ∀ p r s, f (f p r) s = f (f p s) r) {l m : List α} (h : l.Perm m) : ∀ p, l.foldl f p = m.foldl f p := by
  induction h with
  | nil => intro p; rfl
  | cons x _ ih => intro p; exact ih _
  | swap x y l => intro p; simp only [List.foldl_cons]; rw [hc]
  | trans _ _ ih1 ih2 => intro p; rw [ih1, ih2]
theorem zoom_perm {l m : List Rule} (h : l.Perm m) (role tier label x y : Int) : zoomV l role tier label x y = zoomV m role tier label x y := by
  unfold zoomV rulesR
  rw [all_perm h, foldl_perm (zoomStep_comm role tier label x y) h]
theorem cloaks_perm {l m : List Rule} (h : l.Perm m) (role : Int) : cloaksV l role = cloaksV m role := by
  unfold cloaksV rulesR
  rw [all_perm h, any_perm h]
/-- the turned row of RulesTurned -/
theorem turned_perm (l : List Rule) (at_ : Nat) : l.Perm ((l.drop at_).reverse ++ l.take at_) := by
  have h1 : ((l.drop at_).reverse ++ l.take at_).Perm (l.drop at_ ++ l.take at_) := (List.reverse_perm _).append_right _
  have h2 : (l.drop at_ ++ l.take at_).Perm (l.take at_ ++ l.drop at_) := List.perm_append_comm
  rw [List.take_append_drop] at h2
  exact (h1.trans h2).symm

/-! ### one rule more -/
theorem zoom_more {l : List Rule} {r : Rule} (hr : ruleR r = true) (role tier label x y : Int) :
    (r.kind = 4 → zoomV l role tier label x y ≤ zoomV (l ++ [r]) role tier label x y) ∧ (r.kind = 5 → zoomV (l ++ [r]) role tier label x y ≤ zoomV l role tier label x y) ∧ (r.kind = 6 → zoomV l role tier label x y = zoomV (l ++ [r]) role tier label x y) := by
  unfold zoomV rulesR
  rw [List.all_append]
  simp only [List.all_cons, List.all_nil, hr, Bool.and_true, List.foldl_append, List.foldl_cons, List.foldl_nil]
  cases l.all ruleR with
  | false => simp
  | true =>
    simp only [if_true]
    generalize l.foldl (zoomStep role tier label x y) (0, 16) = p
    refine ⟨fun h4 => ?_, fun h5 => ?_, fun h6 => ?_⟩
    · unfold zoomStep
      split
      · show min p.1 p.2 ≤ min (max p.1 r.zoom) p.2; omega
      · exact Int.le_refl _
    · unfold zoomStep
      split
      · rw [if_neg (by omega)]; show min p.1 (min p.2 r.zoom) ≤ min p.1 p.2; omega
      · exact Int.le_refl _
    · have : forR r role tier label = false := by
        unfold forR
        have : (r.kind != 6) = false := by rw [h6]; rfl
        rw [this]; simp
      unfold zoomStep
      rw [this]; simp

end Go.Proofs.YtnoieobjfihbeaaDoor.Ru

namespace Go.Proofs.YtnoieobjfihbeaaDoor
open Go.RowKit Go.Sort

def boxArr (x : Po.Box) : Array Value := #[.int .i64 x.x0, .int .i64 x.y0, .int .i64 x.x1, .int .i64 x.y1]
theorem pboxV_eq (x : Po.Box) : pboxV x = .agg (boxArr x) := rfl
/-- boxes in memory, as they may come in: of none it does not matter where they lie -/
def BRow (w : World) (v : Value) (l : List Po.Box) : Prop := (∃ p c, v = .slice p 0 c ∧ l = []) ∨ Row w v l.length 4 (boxesCells l)
theorem Row.b {w : World} {v : Value} {l : List Po.Box} (h : Row w v l.length 4 (boxesCells l)) : BRow w v l := .inr h
theorem BRow.ext {w w' : World} {v : Value} {l : List Po.Box} (h : BRow w v l) (hb : Below w.heap.size w w') : BRow w' v l := h.imp id (fun r => r.ext hb)
theorem BRow.shape {w : World} {v : Value} {l : List Po.Box} (h : BRow w v l) : ∃ p c, v = .slice p l.length c := by
  rcases h with ⟨p, c, rfl, rfl⟩ | h
  · exact ⟨p, c, rfl⟩
  · exact row_shape h
theorem BRow.one {w : World} {v : Value} {l : List Po.Box} (h : BRow w v l) : v.oneCell' = true := by
  obtain ⟨p, c, rfl⟩ := h.shape; rfl
theorem BRow.pos {w : World} {v : Value} {l : List Po.Box} (h : BRow w v l) (hl : 0 < l.length) : Row w v l.length 4 (boxesCells l) := by
  rcases h with ⟨_, _, _, rfl⟩ | h
  · simp at hl
  · exact h
theorem brow_of {w : World} {v : Value} {l : List Po.Box} (h : BRow w v l) : (∃ p c, v = .slice p 0 c ∧ l = []) ∨ ∃ g off cap, v = .slice (some ⟨g, off, none⟩) l.length cap ∧ SRow w g off cap 4 boxArr l := by
  rcases h with h | h
  · exact .inl h
  · rcases srow_of (f := boxArr) (fun _ _ => rfl) (show Row w v l.length 4 (l.flatMap fun x => (boxArr x).toList) from h) with ⟨rfl, rfl⟩ | h
    · exact .inl ⟨none, 0, rfl, rfl⟩
    · exact .inr h
theorem boxArr_one (x : Po.Box) : (boxArr x).all (·.oneCell') = true := by unfold boxArr; rw [← Array.all_toList]; rfl
theorem all_take {α : Type} {p : α → Bool} {l : List α} {i : Nat} (hi : i < l.length) (h : (l.take i).all p = true) (hp : p l[i] = true) : (l.take (i + 1)).all p = true := by
  rw [List.take_succ_eq_append_getElem hi, List.all_append, h]; simp [hp]
theorem all_no {α : Type} {p : α → Bool} {l : List α} {i : Nat} (hi : i < l.length) (hp : p l[i] = false) : l.all p = false := by
  rw [List.all_eq_false]; exact ⟨_, List.getElem_mem hi, by simp [hp]⟩
theorem any_take {α : Type} {p : α → Bool} {l : List α} {i : Nat} (hi : i < l.length) (h : (l.take i).any p = false) (hp : p l[i] = false) : (l.take (i + 1)).any p = false := by
  rw [List.take_succ_eq_append_getElem hi, List.any_append, h]; simp [hp]
theorem any_yes {α : Type} {p : α → Bool} {l : List α} {i : Nat} (hi : i < l.length) (hp : p l[i] = true) : l.any p = true := by
  rw [List.any_eq_true]; exact ⟨_, List.getElem_mem hi, hp⟩

end Go.Proofs.YtnoieobjfihbeaaDoor
