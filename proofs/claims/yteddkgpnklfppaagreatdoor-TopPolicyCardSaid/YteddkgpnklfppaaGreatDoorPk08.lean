/-
  Laws of the patches (chapter 14): a point's zoom by them is the rules'; a rectangle's zoom by them is no more than any of its points'. No program.
-/
import Derived.Test.YteddkgpnklfppaaGreatDoorPk07
import Derived.Test.YteddkgpnklfppaaGreatDoorPk06

namespace Go.Proofs.YteddkgpnklfppaaGreatDoor.Gr
open Po (Box)
open Ru (Rule)

/-! ### the rules that are for someone -/
theorem zoom_mine {l : List Rule} (h : Ru.rulesR l = true) (role tier label x y : Int) : Ru.zoomV l role tier label x y = zoomG (mine l role tier label) x y := by
  unfold Ru.zoomV zoomG mine
  rw [if_pos h, List.foldl_filter]
  have e : (fun (p : Int × Int) (r : Rule) => if Ru.forR r role tier label = true then zStep x y p r else p) = Ru.zoomStep role tier label x y := by
    funext p r
    unfold zStep Ru.zoomStep
    cases Ru.forR r role tier label <;> simp
  rw [e]
theorem mine_for {l : List Rule} {role tier label : Int} {r : Rule} (h : r ∈ mine l role tier label) : Ru.forR r role tier label = true := (List.mem_filter.1 h).2
theorem for_boxes {r : Rule} {role tier label : Int} (h : Ru.forR r role tier label = true) : ∀ b ∈ r.boxes, Ru.boxR b = true := by
  unfold Ru.forR at h
  simp only [Bool.and_eq_true, bne_iff_ne] at h
  have h1 := h.1.1.1.1.1.1
  have h2 := h.1.1.1.1.1.2
  have hk := Ru.ruleR_kind h1
  have h4 : r.kind = 4 ∨ r.kind = 5 := by omega
  unfold Ru.ruleR at h1
  rw [if_neg h2, if_pos h4] at h1
  simp only [Bool.and_eq_true] at h1
  have := h1.1.2
  unfold Ru.boxesR at this
  exact fun b hb => List.all_eq_true.1 this b hb
/-- what is asked of rules below -/
structure Fine (l : List Rule) : Prop where
  box : ∀ r ∈ l, ∀ b ∈ r.boxes, Ru.boxR b = true
  zoom : ∀ r ∈ l, 0 ≤ r.zoom
theorem mine_fine (l : List Rule) (role tier label : Int) : Fine (mine l role tier label) :=
  ⟨fun _ hr => for_boxes (mine_for hr), fun _ hr => (Ru.forR_zoom (mine_for hr)).1⟩
theorem fold_nonneg (x y : Int) : ∀ (l : List Rule) (p : Int × Int), (∀ r ∈ l, 0 ≤ r.zoom) → 0 ≤ p.1 → 0 ≤ p.2 → 0 ≤ (l.foldl (zStep x y) p).1 ∧ 0 ≤ (l.foldl (zStep x y) p).2
  | [], _, _, h1, h2 => ⟨h1, h2⟩
  | r :: l, p, h, h1, h2 => by
    rw [List.foldl_cons]
    have hr := h r List.mem_cons_self
    refine fold_nonneg x y l _ (fun s hs => h s (List.mem_cons_of_mem _ hs)) ?_ ?_ <;> unfold zStep <;> split <;> (try split) <;> (try simp only) <;> omega
theorem zoomG_nonneg {l : List Rule} (h : Fine l) (x y : Int) : 0 ≤ zoomG l x y := by
  have := fold_nonneg x y l (0, 16) h.zoom (by decide) (by decide)
  unfold zoomG
  omega

/-! ### where nothing changes -/
def inB (b : Box) (x y : Int) : Prop := b.x0 ≤ x ∧ x ≤ b.x1 ∧ b.y0 ≤ y ∧ y ≤ b.y1
theorem has_iff {b : Box} {x y : Int} : Ru.boxHas b x y = true ↔ Ru.boxR b = true ∧ inB b x y := by
  unfold Ru.boxHas Ru.boxR Ru.fits Ru.inside inB
  simp only [Bool.and_eq_true, decide_eq_true_eq]
  omega
theorem boxR_le {b : Box} (h : Ru.boxR b = true) : 0 ≤ b.x0 ∧ b.x0 ≤ b.x1 ∧ b.x1 ≤ 65535 ∧ 0 ≤ b.y0 ∧ b.y0 ≤ b.y1 ∧ b.y1 ≤ 65535 := by
  unfold Ru.boxR Ru.fits Ru.inside at h
  simp only [Bool.and_eq_true, decide_eq_true_eq] at h
  omega
theorem boxR_of {b : Box} (h : 0 ≤ b.x0 ∧ b.x0 ≤ b.x1 ∧ b.x1 ≤ 65535 ∧ 0 ≤ b.y0 ∧ b.y0 ≤ b.y1 ∧ b.y1 ≤ 65535) : Ru.boxR b = true := by
  unfold Ru.boxR Ru.fits Ru.inside
  simp only [Bool.and_eq_true, decide_eq_true_eq]
  omega
theorem zoomG_congr {l : List Rule} {x y x' y' : Int} (h : ∀ r ∈ l, ∀ b ∈ r.boxes, (Ru.boxHas b x y = true ↔ Ru.boxHas b x' y' = true)) : zoomG l x y = zoomG l x' y' := by
  have key : ∀ (m : List Rule) (p : Int × Int), (∀ r ∈ m, ∀ b ∈ r.boxes, (Ru.boxHas b x y = true ↔ Ru.boxHas b x' y' = true)) → m.foldl (zStep x y) p = m.foldl (zStep x' y') p := by
    intro m
    induction m with
    | nil => intro p _; rfl
    | cons r m ih =>
      intro p hm
      rw [List.foldl_cons, List.foldl_cons]
      have e : zStep x y p r = zStep x' y' p r := by
        have : Ru.hasB r.boxes x y = Ru.hasB r.boxes x' y' := by
          unfold Ru.hasB
          rw [Bool.eq_iff_iff, List.any_eq_true, List.any_eq_true]
          exact ⟨fun ⟨b, hb, h1⟩ => ⟨b, hb, (hm r List.mem_cons_self b hb).1 h1⟩, fun ⟨b, hb, h1⟩ => ⟨b, hb, (hm r List.mem_cons_self b hb).2 h1⟩⟩
        unfold zStep
        rw [this]
      rw [e]
      exact ih _ (fun s hs => hm s (List.mem_cons_of_mem _ hs))
  unfold zoomG
  rw [key l _ h]
theorem zoomG_zero {l : List Rule} {x y : Int} (h : ∀ r ∈ l, ∀ b ∈ r.boxes, Ru.boxHas b x y = false) : zoomG l x y = 0 := by
  have key : ∀ (m : List Rule) (p : Int × Int), (∀ r ∈ m, ∀ b ∈ r.boxes, Ru.boxHas b x y = false) → m.foldl (zStep x y) p = p := by
    intro m
    induction m with
    | nil => intro p _; rfl
    | cons r m ih =>
      intro p hm
      rw [List.foldl_cons]
      have e : zStep x y p r = p := by
        have : Ru.hasB r.boxes x y = false := by
          unfold Ru.hasB
          rw [List.any_eq_false]
          intro b hb h1
          rw [hm r List.mem_cons_self b hb] at h1
          cases h1
        unfold zStep
        rw [this]
        simp
      rw [e]
      exact ih _ (fun s hs => hm s (List.mem_cons_of_mem _ hs))
  unfold zoomG
  rw [key l _ h]
  decide

/-! ### edges -/
theorem compact_sorted : ∀ (d : Array Int) (m : Nat), m ≤ d.size → (∀ i j, i ≤ j → j < d.size → d[i]! ≤ d[j]!) →
    (Lib.compactUpTo d m).Pairwise (· < ·) ∧ (∀ e, e ∈ Lib.compactUpTo d m ↔ ∃ i, i < m ∧ d[i]! = e)
  | d, 0, _, _ => by simp [Lib.compactUpTo]
  | d, m + 1, hm, hs => by
    obtain ⟨h1, h2⟩ := compact_sorted d m (by omega) hs
    rw [Lib.compactUpTo_succ]
    by_cases hk : Lib.keeps d m = true
    · rw [if_pos hk]
      have hk' := hk
      simp only [Lib.keeps, decide_eq_true_eq] at hk'
      constructor
      · rw [List.pairwise_append]
        refine ⟨h1, List.pairwise_singleton _ _, fun a ha b hb => ?_⟩
        rw [List.mem_singleton] at hb
        subst hb
        obtain ⟨i, hi, rfl⟩ := (h2 a).1 ha
        rcases hk' with h0 | hne
        · omega
        · have a1 := hs i (m - 1) (by omega) (by omega)
          have a2 := hs (m - 1) m (by omega) (by omega)
          omega
      · intro e
        rw [List.mem_append, h2, List.mem_singleton]
        constructor
        · rintro (⟨i, hi, h⟩ | rfl)
          · exact ⟨i, by omega, h⟩
          · exact ⟨m, by omega, rfl⟩
        · rintro ⟨i, hi, h⟩
          by_cases him : i = m
          · subst him; exact .inr h.symm
          · exact .inl ⟨i, by omega, h⟩
    · rw [if_neg hk, List.append_nil]
      simp only [Lib.keeps, decide_eq_true_eq, not_or, Decidable.not_not] at hk
      refine ⟨h1, fun e => ?_⟩
      rw [h2]
      constructor
      · rintro ⟨i, hi, h⟩; exact ⟨i, by omega, h⟩
      · rintro ⟨i, hi, h⟩
        by_cases him : i = m
        · subst him; exact ⟨i - 1, by omega, by rw [← hk.2]; exact h⟩
        · exact ⟨i, by omega, h⟩
theorem edges_law (of : Box → Int × Int) (l : List Rule) : (edges of l).Pairwise (· < ·) ∧ ∀ e, e ∈ edges of l ↔ e ∈ rawE of l := by
  unfold edges Lib.compact
  generalize hz : (rawE of l).mergeSort (fun x y => decide (x ≤ y)) = zs
  have hp : zs.Perm (rawE of l) := hz ▸ List.mergeSort_perm _ _
  have hs : zs.Pairwise (· ≤ ·) := by
    have := List.pairwise_mergeSort (le := fun x y : Int => decide (x ≤ y)) (by intro a b c; simp; omega) (by intro a b; simp; omega) (rawE of l)
    rw [hz] at this
    simpa using this
  have hg : ∀ i j, i ≤ j → j < zs.toArray.size → zs.toArray[i]! ≤ zs.toArray[j]! := by
    intro i j hij hj
    have hj' : j < zs.length := by simpa using hj
    rw [getElem!_pos zs.toArray i (by simpa using Nat.lt_of_le_of_lt hij hj'), getElem!_pos zs.toArray j (by simpa using hj')]
    by_cases h : i = j
    · subst h; exact Int.le_refl _
    · have := List.pairwise_iff_getElem.1 hs i j (by omega) hj' (by omega)
      simpa using this
  obtain ⟨h1, h2⟩ := compact_sorted zs.toArray zs.length (by simp) hg
  refine ⟨h1, fun e => ?_⟩
  rw [h2, ← hp.mem_iff]
  constructor
  · rintro ⟨i, hi, h⟩
    rw [getElem!_pos zs.toArray i (by simpa using hi)] at h
    rw [← h]
    simp
  · intro h
    obtain ⟨i, hi, h'⟩ := List.getElem_of_mem h
    exact ⟨i, hi, by rw [getElem!_pos zs.toArray i (by simpa using hi)]; simpa using h'⟩
theorem raw_mem {of : Box → Int × Int} {l : List Rule} {e : Int} : e ∈ rawE of l ↔ ∃ r ∈ l, ∃ b ∈ r.boxes, e = (of b).1 ∨ e = (of b).2 + 1 := by
  unfold rawE
  simp only [List.mem_flatMap, List.mem_cons, List.not_mem_nil, or_false]

/-- a rising row of numbers -/
theorem up_lt {xs : List Int} (h : xs.Pairwise (· < ·)) {i j : Nat} (hij : i < j) (hj : j < xs.length) : xs.getD i 0 < xs.getD j 0 := by
  have := List.pairwise_iff_getElem.1 h i j (by omega) hj hij
  simpa [List.getD_eq_getElem?_getD, List.getElem?_eq_getElem hj, List.getElem?_eq_getElem (show i < xs.length by omega)] using this
theorem up_le {xs : List Int} (h : xs.Pairwise (· < ·)) {i j : Nat} (hij : i ≤ j) (hj : j < xs.length) : xs.getD i 0 ≤ xs.getD j 0 := by
  by_cases e : i = j
  · subst e; exact Int.le_refl _
  · exact Int.le_of_lt (up_lt h (by omega) hj)
theorem getD_mem {xs : List Int} {i : Nat} (h : i < xs.length) : xs.getD i 0 ∈ xs := by
  rw [List.getD_eq_getElem?_getD, List.getElem?_eq_getElem h]
  exact List.getElem_mem h
theorem mem_getD {xs : List Int} {e : Int} (h : e ∈ xs) : ∃ i, i < xs.length ∧ xs.getD i 0 = e := by
  obtain ⟨i, hi, h'⟩ := List.getElem_of_mem h
  exact ⟨i, hi, by rw [List.getD_eq_getElem?_getD, List.getElem?_eq_getElem hi]; exact h'⟩
/-- no edge lies inside a stretch -/
theorem up_next {xs : List Int} (h : xs.Pairwise (· < ·)) {i : Nat} (hi : i + 1 < xs.length) {e : Int} (he : e ∈ xs) : e ≤ xs.getD i 0 ∨ xs.getD (i + 1) 0 ≤ e := by
  obtain ⟨j, hj, rfl⟩ := mem_getD he
  by_cases hij : j ≤ i
  · exact .inl (up_le h hij (by omega))
  · exact .inr (up_le h (by omega) hj)
theorem up_find {xs : List Int} {x : Int} : ∀ (n i : Nat), i + n < xs.length → xs.getD i 0 ≤ x → x < xs.getD (i + n) 0 → ∃ j, i ≤ j ∧ j < i + n ∧ xs.getD j 0 ≤ x ∧ x < xs.getD (j + 1) 0
  | 0, i, _, h1, h2 => by rw [Nat.add_zero] at h2; omega
  | n + 1, i, hn, h1, h2 => by
    by_cases h : xs.getD (i + 1) 0 ≤ x
    · obtain ⟨j, a, b, c, d⟩ := up_find n (i + 1) (by omega) h (by rw [show i + 1 + n = i + (n + 1) by omega]; exact h2)
      exact ⟨j, by omega, by omega, c, d⟩
    · exact ⟨i, Nat.le_refl _, by omega, h1, by omega⟩

/-- xs: all places at which a rule's boxes begin or have just ended -/
structure Edged (of : Box → Int × Int) (l : List Rule) (xs : List Int) : Prop where
  up : xs.Pairwise (· < ·)
  low : ∀ r ∈ l, ∀ b ∈ r.boxes, (of b).1 ∈ xs
  high : ∀ r ∈ l, ∀ b ∈ r.boxes, (of b).2 + 1 ∈ xs
  from_ : ∀ e ∈ xs, ∃ r ∈ l, ∃ b ∈ r.boxes, e = (of b).1 ∨ e = (of b).2 + 1
theorem edged (of : Box → Int × Int) (l : List Rule) : Edged of l (edges of l) := by
  obtain ⟨h1, h2⟩ := edges_law of l
  exact ⟨h1, fun r hr b hb => (h2 _).2 (raw_mem.2 ⟨r, hr, b, hb, .inl rfl⟩), fun r hr b hb => (h2 _).2 (raw_mem.2 ⟨r, hr, b, hb, .inr rfl⟩), fun e he => raw_mem.1 ((h2 e).1 he)⟩
section
variable {l : List Rule} {xs ys : List Int}
theorem Edged.rangeX (h : Edged ofX l xs) (hf : Fine l) : ∀ e ∈ xs, 0 ≤ e ∧ e ≤ 65536 := by
  intro e he
  obtain ⟨r, hr, b, hb, h1⟩ := h.from_ e he
  have := boxR_le (hf.box r hr b hb)
  unfold ofX at h1
  simp only at h1
  omega
theorem Edged.rangeY (h : Edged ofY l ys) (hf : Fine l) : ∀ e ∈ ys, 0 ≤ e ∧ e ≤ 65536 := by
  intro e he
  obtain ⟨r, hr, b, hb, h1⟩ := h.from_ e he
  have := boxR_le (hf.box r hr b hb)
  unfold ofY at h1
  simp only at h1
  omega
theorem Edged.cellX (h : Edged ofX l xs) {i : Nat} (hi : i + 1 < xs.length) {x : Int} (h1 : xs.getD i 0 ≤ x) (h2 : x < xs.getD (i + 1) 0) (y : Int) : zoomG l x y = zoomG l (xs.getD i 0) y :=
  zoomG_congr fun r hr b hb => by
    rw [has_iff, has_iff]
    have a := up_next h.up hi (h.low r hr b hb)
    have c := up_next h.up hi (h.high r hr b hb)
    unfold ofX at a c
    simp only at a c
    unfold inB
    constructor <;> intro ⟨p, q⟩ <;> refine ⟨p, ?_⟩ <;> omega
theorem Edged.cellY (h : Edged ofY l ys) {i : Nat} (hi : i + 1 < ys.length) {y : Int} (h1 : ys.getD i 0 ≤ y) (h2 : y < ys.getD (i + 1) 0) (x : Int) : zoomG l x y = zoomG l x (ys.getD i 0) :=
  zoomG_congr fun r hr b hb => by
    rw [has_iff, has_iff]
    have a := up_next h.up hi (h.low r hr b hb)
    have c := up_next h.up hi (h.high r hr b hb)
    unfold ofY at a c
    simp only at a c
    unfold inB
    constructor <;> intro ⟨p, q⟩ <;> refine ⟨p, ?_⟩ <;> omega
theorem Edged.inX (h : Edged ofX l xs) {x y : Int} (hz : zoomG l x y ≠ 0) : 0 < xs.length ∧ xs.getD 0 0 ≤ x ∧ x < xs.getD (xs.length - 1) 0 := by
  by_cases hx : 0 < xs.length ∧ xs.getD 0 0 ≤ x ∧ x < xs.getD (xs.length - 1) 0
  · exact hx
  · refine absurd (zoomG_zero fun r hr b hb => ?_) hz
    rw [Bool.eq_false_iff]
    intro hh
    obtain ⟨_, hin⟩ := has_iff.1 hh
    obtain ⟨i, hi, a⟩ := mem_getD (h.low r hr b hb)
    obtain ⟨j, hj, c⟩ := mem_getD (h.high r hr b hb)
    have a' := up_le h.up (Nat.zero_le i) hi
    have c' := up_le h.up (show j ≤ xs.length - 1 by omega) (by omega)
    unfold ofX at a c
    simp only at a c
    unfold inB at hin
    omega
theorem Edged.inY (h : Edged ofY l ys) {x y : Int} (hz : zoomG l x y ≠ 0) : 0 < ys.length ∧ ys.getD 0 0 ≤ y ∧ y < ys.getD (ys.length - 1) 0 := by
  by_cases hx : 0 < ys.length ∧ ys.getD 0 0 ≤ y ∧ y < ys.getD (ys.length - 1) 0
  · exact hx
  · refine absurd (zoomG_zero fun r hr b hb => ?_) hz
    rw [Bool.eq_false_iff]
    intro hh
    obtain ⟨_, hin⟩ := has_iff.1 hh
    obtain ⟨i, hi, a⟩ := mem_getD (h.low r hr b hb)
    obtain ⟨j, hj, c⟩ := mem_getD (h.high r hr b hb)
    have a' := up_le h.up (Nat.zero_le i) hi
    have c' := up_le h.up (show j ≤ ys.length - 1 by omega) (by omega)
    unfold ofY at a c
    simp only at a c
    unfold inB at hin
    omega

/-! ### the runs of a row -/
structure RowOk (l : List Rule) (xs : List Int) (y : Int) (n : Nat) (out : List Span) : Prop where
  rng : ∀ s ∈ out, xs.getD 0 0 ≤ s.s0 ∧ s.s0 ≤ s.s1 ∧ s.s1 < xs.getD n 0 ∧ s.z ≠ 0
  val : ∀ s ∈ out, ∀ x, s.s0 ≤ x → x ≤ s.s1 → zoomG l x y = s.z
  cov : ∀ x, xs.getD 0 0 ≤ x → x < xs.getD n 0 → zoomG l x y ≠ 0 → ∃ s ∈ out, s.s0 ≤ x ∧ x ≤ s.s1
  apart : out.Pairwise fun s t => s.s1 < t.s0
theorem row_start (l : List Rule) (xs : List Int) (y : Int) : RowOk l xs y 0 [] :=
  ⟨by simp, by simp, fun x h1 h2 => by omega, List.Pairwise.nil⟩
theorem row_add (h : Edged ofX l xs) {y : Int} {n : Nat} (hn : n + 1 < xs.length) {out : List Span} (ho : RowOk l xs y n out) {a b : Int} (ha : xs.getD n 0 = a) (hb : xs.getD (n + 1) 0 = b)
    {t : Span} (h1 : t.s1 = b - 1) (h2 : t.s0 ≤ a) (h3 : xs.getD 0 0 ≤ t.s0) (hz : t.z ≠ 0) (hv : ∀ x, t.s0 ≤ x → x < b → zoomG l x y = t.z) {o : List Span} (hsub : ∀ s ∈ o, s ∈ out) (hap : o.Pairwise fun s t => s.s1 < t.s0)
    (hlt : ∀ s ∈ o, s.s1 < t.s0) (hc : ∀ s ∈ out, s ∈ o ∨ (t.s0 ≤ s.s0 ∧ s.s1 ≤ t.s1)) : RowOk l xs y (n + 1) (o ++ [t]) := by
  have hab := up_lt h.up (show n < n + 1 by omega) hn
  rw [ha, hb] at hab
  refine ⟨fun s hs => ?_, fun s hs x hx1 hx2 => ?_, fun x hx1 hx2 hz0 => ?_, ?_⟩
  · rw [hb]
    rcases List.mem_append.1 hs with hs | hs
    · have := ho.rng s (hsub s hs)
      rw [ha] at this
      omega
    · rw [List.mem_singleton] at hs
      subst hs
      omega
  · rcases List.mem_append.1 hs with hs | hs
    · exact ho.val s (hsub s hs) x hx1 hx2
    · rw [List.mem_singleton] at hs
      subst hs
      exact hv x hx1 (by omega)
  · rw [hb] at hx2
    by_cases hxa : x < a
    · obtain ⟨s, hs, s1, s2⟩ := ho.cov x hx1 (by rw [ha]; exact hxa) hz0
      rcases hc s hs with hs' | ⟨hs1, hs2⟩
      · exact ⟨s, List.mem_append.2 (.inl hs'), s1, s2⟩
      · exact ⟨t, List.mem_append.2 (.inr (List.mem_singleton.2 rfl)), by omega, by omega⟩
    · exact ⟨t, List.mem_append.2 (.inr (List.mem_singleton.2 rfl)), by omega, by omega⟩
  · rw [List.pairwise_append]
    exact ⟨hap, List.pairwise_singleton _ _, fun s hs u hu => by rw [List.mem_singleton] at hu; subst hu; exact hlt s hs⟩
theorem row_step (h : Edged ofX l xs) {y : Int} {n : Nat} (hn : n + 1 < xs.length) {out : List Span} (ho : RowOk l xs y n out) :
    RowOk l xs y (n + 1) (putS out (xs.getD n 0) (xs.getD (n + 1) 0) (zoomG l (xs.getD n 0) y)) := by
  have hab := up_lt h.up (show n < n + 1 by omega) hn
  have h0a := up_le h.up (Nat.zero_le n) (by omega)
  have hcell : ∀ x, xs.getD n 0 ≤ x → x < xs.getD (n + 1) 0 → zoomG l x y = zoomG l (xs.getD n 0) y := fun x h1 h2 => h.cellX hn h1 h2 y
  obtain ⟨a, ha⟩ : ∃ a, xs.getD n 0 = a := ⟨_, rfl⟩
  obtain ⟨b, hb⟩ : ∃ b, xs.getD (n + 1) 0 = b := ⟨_, rfl⟩
  rw [ha] at hcell h0a
  rw [ha, hb] at hab
  rw [hb] at hcell
  rw [ha, hb]
  unfold putS
  by_cases hz : zoomG l a y = 0
  · rw [if_pos hz]
    refine ⟨fun s hs => ?_, ho.val, fun x hx1 hx2 hz0 => ?_, ho.apart⟩
    · have := ho.rng s hs
      rw [ha] at this
      rw [hb]
      omega
    · rw [hb] at hx2
      by_cases hxa : x < a
      · exact ho.cov x hx1 (by rw [ha]; exact hxa) hz0
      · rw [hcell x (by omega) hx2, hz] at hz0
        exact absurd rfl hz0
  · rw [if_neg hz]
    cases hl : out.getLast? with
    | none =>
      simp only
      have he : out = [] := List.getLast?_eq_none_iff.1 hl
      subst he
      exact row_add (t := ⟨a, b - 1, zoomG l a y⟩) (o := []) h hn ho ha hb rfl (Int.le_refl _) h0a hz hcell (by simp) List.Pairwise.nil (by simp) (by simp)
    | some s =>
      simp only
      obtain ⟨o, rfl⟩ : ∃ o, out = o ++ [s] := by
        obtain ⟨ys', rfl⟩ := List.getLast?_eq_some_iff.1 hl
        exact ⟨ys', rfl⟩
      have hs := ho.rng s (by simp)
      rw [ha] at hs
      have hap := List.pairwise_append.1 ho.apart
      have hos : ∀ u ∈ o, u.s1 < s.s0 := fun u hu => hap.2.2 u hu s (by simp)
      by_cases hm : s.z = zoomG l a y ∧ s.s1 + 1 = a
      · rw [if_pos hm, List.dropLast_concat]
        refine row_add (t := ⟨s.s0, b - 1, s.z⟩) (o := o) h hn ho ha hb rfl (by show s.s0 ≤ a; omega) hs.1 hs.2.2.2 (fun x hx1 hx2 => ?_) (by simp +contextual) hap.1 hos (fun u hu => ?_)
        · by_cases hxa : x < a
          · exact ho.val s (by simp) x hx1 (by omega)
          · rw [hcell x (by omega) hx2]; exact hm.1.symm
        · rcases List.mem_append.1 hu with hu | hu
          · exact .inl hu
          · rw [List.mem_singleton] at hu
            subst hu
            exact .inr ⟨Int.le_refl _, by show u.s1 ≤ b - 1; omega⟩
      · rw [if_neg hm]
        refine row_add (t := ⟨a, b - 1, zoomG l a y⟩) (o := o ++ [s]) h hn ho ha hb rfl (Int.le_refl _) h0a hz hcell (fun _ hu => hu) ho.apart (fun u hu => ?_) (fun u hu => .inl hu)
        have := ho.rng u hu
        rw [ha] at this
        exact this.2.2.1
theorem rowN_succ (l : List Rule) (xs : List Int) (y : Int) (n : Nat) : rowN l xs y (n + 1) = putS (rowN l xs y n) (xs.getD n 0) (xs.getD (n + 1) 0) (zoomG l (xs.getD n 0) y) := by
  unfold rowN
  rw [List.range_succ, List.foldl_append]
  rfl
theorem rowN_ok (h : Edged ofX l xs) (y : Int) : ∀ n, n < xs.length → RowOk l xs y n (rowN l xs y n)
  | 0, _ => row_start l xs y
  | n + 1, hn => by rw [rowN_succ]; exact row_step h hn (rowN_ok h y n (by omega))
theorem row_ok (h : Edged ofX l xs) (y : Int) (hx : 0 < xs.length) : RowOk l xs y (xs.length - 1) (row l xs y) := rowN_ok h y _ (by omega)
theorem row_none (l : List Rule) (y : Int) : row l [] y = [] := rfl

/-! ### bands -/
theorem bandEnd_law (l : List Rule) (xs ys : List Int) (now : List Span) (k : Nat) (hk : k < ys.length) : bandEnd l xs ys now k < ys.length ∧ ∀ j, k ≤ j → j < bandEnd l xs ys now k → row l xs (ys.getD j 0) = now := by
  rw [bandEnd]
  split
  · rename_i h
    obtain ⟨h1, h2⟩ := bandEnd_law l xs ys now (k + 1) h.1
    refine ⟨h1, fun j hj1 hj2 => ?_⟩
    by_cases e : j = k
    · subst e; exact h.2.symm
    · exact h2 j (by omega) hj2
  · exact ⟨hk, fun j h1 h2 => by omega⟩
termination_by ys.length - k

structure BandOk (l : List Rule) (y0 : Int) (ps : List Patch) : Prop where
  rng : ∀ q ∈ ps, y0 ≤ q.box.y0 ∧ Ru.boxR q.box = true ∧ q.z ≠ 0
  val : ∀ q ∈ ps, ∀ x y, inB q.box x y → zoomG l x y = q.z
  cov : ∀ x y, y0 ≤ y → zoomG l x y ≠ 0 → ∃ q ∈ ps, inB q.box x y
  apart : ps.Pairwise fun p q => ∀ x y, inB p.box x y → ¬ inB q.box x y

theorem bandP_mem {y0 y1 : Int} {runs : List Span} {q : Patch} (h : q ∈ bandP y0 y1 runs) : ∃ s ∈ runs, q = ⟨⟨s.s0, y0, s.s1, y1⟩, s.z⟩ := by
  unfold bandP at h
  obtain ⟨s, hs, e⟩ := List.mem_map.1 h
  exact ⟨s, hs, e.symm⟩
theorem bandsN_ok (hf : Fine l) (hx : Edged ofX l xs) (hy : Edged ofY l ys) (i : Nat) (hi : i < ys.length) : BandOk l (ys.getD i 0) (bandsN l xs ys i) := by
  rw [bandsN]
  split
  · rename_i hlt
    have hle := bandEnd_le l xs ys (row l xs (ys.getD i 0)) (i + 1)
    obtain ⟨hk, hrow⟩ := bandEnd_law l xs ys (row l xs (ys.getD i 0)) (i + 1) hlt
    generalize hkk : bandEnd l xs ys (row l xs (ys.getD i 0)) (i + 1) = k at *
    have ih := bandsN_ok hf hx hy k hk
    have hik := up_lt hy.up (show i < k by omega) hk
    have hrow' : ∀ j, i ≤ j → j < k → row l xs (ys.getD j 0) = row l xs (ys.getD i 0) := fun j h1 h2 => by
      by_cases e : j = i
      · rw [e]
      · exact hrow j (by omega) h2
    -- a row of the band, by its runs
    have hband : ∀ y, ys.getD i 0 ≤ y → y < ys.getD k 0 → ∃ j, j + 1 < ys.length ∧ row l xs (ys.getD j 0) = row l xs (ys.getD i 0) ∧ ∀ x, zoomG l x y = zoomG l x (ys.getD j 0) := fun y h1 h2 => by
      obtain ⟨j, a, b, c, d⟩ := up_find (xs := ys) (x := y) (k - i) i (by omega) h1 (by rw [show i + (k - i) = k by omega]; exact h2)
      exact ⟨j, by omega, hrow' j a (by omega), fun x => hy.cellY (by omega) c d x⟩
    generalize hnow : row l xs (ys.getD i 0) = now at *
    have hyr := hy.rangeY hf _ (getD_mem hi)
    have hyk := hy.rangeY hf _ (getD_mem hk)
    generalize hyi : ys.getD i 0 = yi at *
    generalize hyk' : ys.getD k 0 = yk at *
    -- the runs' own facts, at every row of the band
    have hruns : ∀ s ∈ now, 0 < xs.length ∧ 0 ≤ s.s0 ∧ s.s0 ≤ s.s1 ∧ s.s1 ≤ 65535 ∧ s.z ≠ 0 := fun s hs => by
      by_cases hl : 0 < xs.length
      · have ho := row_ok hx yi hl
        rw [hnow] at ho
        have := ho.rng s hs
        have a := hx.rangeX hf _ (getD_mem hl)
        have b := hx.rangeX hf _ (getD_mem (show xs.length - 1 < xs.length by omega))
        refine ⟨hl, ?_, ?_, ?_, this.2.2.2⟩ <;> omega
      · have : xs = [] := List.eq_nil_of_length_eq_zero (by omega)
        rw [this, row_none] at hnow
        rw [← hnow] at hs
        cases hs
    refine ⟨fun q hq => ?_, fun q hq x y hin => ?_, fun x y h0 hz => ?_, ?_⟩
    · rcases List.mem_append.1 hq with hq | hq
      · obtain ⟨s, hs, rfl⟩ := bandP_mem hq
        have := hruns s hs
        exact ⟨Int.le_refl _, boxR_of (by simp only; omega), this.2.2.2.2⟩
      · have := ih.rng q hq
        exact ⟨by omega, this.2⟩
    · rcases List.mem_append.1 hq with hq | hq
      · obtain ⟨s, hs, rfl⟩ := bandP_mem hq
        unfold inB at hin
        simp only at hin
        obtain ⟨j, _, hj2, hj3⟩ := hband y hin.2.2.1 (by omega)
        have ho := row_ok hx (ys.getD j 0) (hruns s hs).1
        rw [hj2] at ho
        rw [hj3]
        exact ho.val s hs x hin.1 hin.2.1
      · exact ih.val q hq x y hin
    · by_cases hyy : y < yk
      · obtain ⟨j, _, hj2, hj3⟩ := hband y h0 hyy
        rw [hj3] at hz
        obtain ⟨c1, c2, c3⟩ := hx.inX hz
        have ho := row_ok hx (ys.getD j 0) c1
        rw [hj2] at ho
        obtain ⟨s, hs, s1, s2⟩ := ho.cov x c2 c3 hz
        refine ⟨⟨⟨s.s0, yi, s.s1, yk - 1⟩, s.z⟩, List.mem_append.2 (.inl (List.mem_map.2 ⟨s, hs, rfl⟩)), ?_⟩
        unfold inB
        simp only
        omega
      · obtain ⟨q, hq, hin⟩ := ih.cov x y (by omega) hz
        exact ⟨q, List.mem_append.2 (.inr hq), hin⟩
    · rw [List.pairwise_append]
      refine ⟨?_, ih.apart, fun p hp q hq x y h1 h2 => ?_⟩
      · by_cases hl : 0 < xs.length
        · have ho := row_ok hx yi hl
          rw [hnow] at ho
          unfold bandP
          rw [List.pairwise_map]
          refine ho.apart.imp fun {s t} hst x y h1 h2 => ?_
          unfold inB at h1 h2
          simp only at h1 h2
          omega
        · have : xs = [] := List.eq_nil_of_length_eq_zero (by omega)
          rw [this, row_none] at hnow
          rw [← hnow]
          exact List.Pairwise.nil
      · obtain ⟨s, hs, rfl⟩ := bandP_mem hp
        have := ih.rng q hq
        unfold inB at h1 h2
        simp only at h1
        omega
  · rename_i hge
    refine ⟨by simp, by simp, fun x y h0 hz => ?_, List.Pairwise.nil⟩
    obtain ⟨_, _, h3⟩ := hy.inY hz
    rw [show ys.length - 1 = i by omega] at h3
    omega
termination_by ys.length - i
decreasing_by simp only [List.getD_eq_getElem?_getD] at *; omega
theorem bands_ok (hf : Fine l) : ∃ y0, BandOk l y0 (bands l) ∧ ∀ x y, zoomG l x y ≠ 0 → y0 ≤ y := by
  unfold bands
  have hx := edged ofX l
  have hy := edged ofY l
  by_cases h : 0 < (edges ofY l).length
  · exact ⟨_, bandsN_ok hf hx hy 0 h, fun x y hz => (hy.inY hz).2.1⟩
  · refine ⟨0, ?_, fun x y hz => absurd (hy.inY hz).1 h⟩
    rw [bandsN, if_neg (by omega)]
    exact ⟨by simp, by simp, fun x y _ hz => absurd (hy.inY hz).1 h, List.Pairwise.nil⟩
theorem bands_cov (hf : Fine l) {x y : Int} (hz : zoomG l x y ≠ 0) : ∃ q ∈ bands l, inB q.box x y := by
  obtain ⟨y0, h, h0⟩ := bands_ok hf
  exact h.cov x y (h0 x y hz) hz

/-! ### a point's zoom -/
theorem zoomP_is (hf : Fine l) (x y : Int) : zoomP (bands l) x y = zoomG l x y := by
  obtain ⟨y0, h, h0⟩ := bands_ok hf
  unfold zoomP
  cases hq : (bands l).find? fun q => Ru.boxHas q.box x y with
  | some q =>
    have h1 := List.mem_of_find?_eq_some hq
    have h2 := List.find?_some hq
    exact (h.val q h1 x y (has_iff.1 h2).2).symm
  | none =>
    by_cases hz : zoomG l x y = 0
    · exact hz.symm
    · obtain ⟨q, hq1, hq2⟩ := h.cov x y (h0 x y hz) hz
      have := List.find?_eq_none.1 hq q hq1
      exact absurd (has_iff.2 ⟨(h.rng q hq1).2.1, hq2⟩) this
end
theorem zoom_patches {rs : List Rule} (h : Ru.rulesR rs = true) (role tier label x y : Int) : zoomP (patches rs role tier label) x y = Ru.zoomV rs role tier label x y := by
  rw [zoom_mine h]
  exact zoomP_is (mine_fine rs role tier label) x y

/-! ### how many points -/
def sumI : Nat → (Nat → Int) → Int
  | 0, _ => 0
  | n + 1, f => sumI n f + f n
theorem sumI_le {f g : Nat → Int} : ∀ n, (∀ i, i < n → f i ≤ g i) → sumI n f ≤ sumI n g
  | 0, _ => Int.le_refl _
  | n + 1, h => by
    have a := sumI_le n (fun i hi => h i (by omega))
    have b := h n (by omega)
    simp only [sumI]; omega
theorem sumI_const (c : Int) : ∀ n, sumI n (fun _ => c) = n * c
  | 0 => by simp [sumI]
  | n + 1 => by
    rw [sumI, sumI_const c n]
    have : ((n + 1 : Nat) : Int) * c = n * c + c := by rw [Int.natCast_add, Int.add_mul]; simp
    omega
theorem sumI_add (f g : Nat → Int) : ∀ n, sumI n (fun i => f i + g i) = sumI n f + sumI n g
  | 0 => rfl
  | n + 1 => by simp only [sumI, sumI_add f g n]; omega
theorem sumI_mul (f : Nat → Int) (c : Int) : ∀ n, sumI n (fun i => f i * c) = sumI n f * c
  | 0 => by simp [sumI]
  | n + 1 => by simp only [sumI, sumI_mul f c n]; rw [Int.add_mul]
theorem sumI_congr {f g : Nat → Int} : ∀ n, (∀ i, i < n → f i = g i) → sumI n f = sumI n g
  | 0, _ => rfl
  | n + 1, h => by simp only [sumI, sumI_congr n (fun i hi => h i (by omega)), h n (by omega)]
theorem sumI_lt {f : Nat → Int} {M : Int} : ∀ n, (∀ i, i < n → f i ≤ M) → ∀ k, k < n → f k < M → sumI n f < n * M
  | 0, _, k, hk, _ => by omega
  | n + 1, h, k, hk, hlt => by
    have e : ((n + 1 : Nat) : Int) * M = n * M + M := by rw [Int.natCast_add, Int.add_mul]; simp
    have b := h n (by omega)
    simp only [sumI]
    by_cases hkn : k = n
    · subst hkn
      have a := sumI_le (g := fun _ => M) k (fun i hi => h i (by omega))
      rw [sumI_const] at a
      omega
    · have a := sumI_lt n (fun i hi => h i (by omega)) k (by omega) hlt
      omega
def ind (a b x : Int) : Int := if a ≤ x ∧ x ≤ b then 1 else 0
theorem sumI_ind (a b x0 : Int) : ∀ n : Nat, sumI n (fun i => ind a b (x0 + i)) = max 0 (min b (x0 + n - 1) - max a x0 + 1)
  | 0 => by simp only [sumI]; omega
  | n + 1 => by
    rw [sumI, sumI_ind a b x0 n]
    unfold ind
    split <;> omega
def wide (r : Box) : Nat := (r.x1 - r.x0 + 1).toNat
def high (r : Box) : Nat := (r.y1 - r.y0 + 1).toNat
def sum2 (r : Box) (f : Int → Int → Int) : Int := sumI (wide r) fun i => sumI (high r) fun j => f (r.x0 + i) (r.y0 + j)
def indB (b : Box) (x y : Int) : Int := ind b.y0 b.y1 y * ind b.x0 b.x1 x
theorem indB_one {b : Box} {x y : Int} (h : inB b x y) : indB b x y = 1 := by
  unfold inB at h
  unfold indB ind
  rw [if_pos ⟨h.2.2.1, h.2.2.2⟩, if_pos ⟨h.1, h.2.1⟩]
  rfl
theorem indB_zero {b : Box} {x y : Int} (h : ¬ inB b x y) : indB b x y = 0 := by
  unfold inB at h
  unfold indB ind
  by_cases h1 : b.y0 ≤ y ∧ y ≤ b.y1
  · rw [if_neg (show ¬ (b.x0 ≤ x ∧ x ≤ b.x1) by omega)]; simp
  · rw [if_neg h1]; simp
theorem sum2_ind (r b : Box) : sum2 r (indB b) = max 0 (min b.y1 (r.y0 + high r - 1) - max b.y0 r.y0 + 1) * max 0 (min b.x1 (r.x0 + wide r - 1) - max b.x0 r.x0 + 1) := by
  unfold sum2 indB
  simp only [sumI_mul, sumI_ind]
  have e : (fun i : Nat => max 0 (min b.y1 (r.y0 + high r - 1) - max b.y0 r.y0 + 1) * ind b.x0 b.x1 (r.x0 + i)) = fun i : Nat => ind b.x0 b.x1 (r.x0 + i) * max 0 (min b.y1 (r.y0 + high r - 1) - max b.y0 r.y0 + 1) := by
    funext i; exact Int.mul_comm _ _
  rw [e, sumI_mul, sumI_ind, Int.mul_comm]
theorem meet_area {r b : Box} (hr : Ru.boxR r = true) (hm : meets b r = true) : sum2 r (indB b) = area (meet b r) := by
  have h1 := boxR_le hr
  unfold meets at hm
  simp only [Bool.and_eq_true, decide_eq_true_eq] at hm
  have h2 := boxR_le hm.1.1.1.1.1
  have h3 : Ru.boxR (meet b r) = true := by
    apply boxR_of
    unfold meet
    simp only
    omega
  rw [sum2_ind]
  unfold area
  rw [if_pos h3]
  unfold meet wide high
  simp only
  rw [Int.mul_comm]
  congr 1 <;> omega
theorem sum2_nonneg (r b : Box) : 0 ≤ sum2 r (indB b) := by
  rw [sum2_ind]
  exact Int.mul_nonneg (by omega) (by omega)
def taken (r : Box) : List Patch → Int
  | [] => 0
  | q :: ps => (if meets q.box r then area (meet q.box r) else 0) + taken r ps
def dens : List Patch → Int → Int → Int
  | [], _, _ => 0
  | q :: ps, x, y => indB q.box x y + dens ps x y
theorem sum2_add (r : Box) (f g : Int → Int → Int) : sum2 r (fun x y => f x y + g x y) = sum2 r f + sum2 r g := by
  unfold sum2
  simp only [sumI_add]
theorem sum2_zero (r : Box) : sum2 r (fun _ _ => 0) = 0 := by
  unfold sum2
  simp only [sumI_const]
  simp
theorem taken_le {r : Box} (hr : Ru.boxR r = true) : ∀ ps, taken r ps ≤ sum2 r (dens ps)
  | [] => by
    have : dens [] = fun _ _ => 0 := by funext x y; rfl
    rw [this, sum2_zero]
    exact Int.le_refl _
  | q :: ps => by
    have e : dens (q :: ps) = fun x y => indB q.box x y + dens ps x y := by funext x y; rfl
    have ih := taken_le hr ps
    rw [e, sum2_add, taken]
    split
    · rename_i hm
      rw [meet_area hr hm]
      omega
    · have := sum2_nonneg r q.box
      omega
theorem dens_out : ∀ (ps : List Patch) (x y : Int), (∀ q ∈ ps, ¬ inB q.box x y) → dens ps x y = 0
  | [], _, _, _ => rfl
  | q :: ps, x, y, h => by
    rw [dens, indB_zero (h q List.mem_cons_self), dens_out ps x y (fun p hp => h p (List.mem_cons_of_mem _ hp))]
    rfl
theorem dens_le : ∀ (ps : List Patch) (x y : Int), (ps.Pairwise fun p q => ∀ x y, inB p.box x y → ¬ inB q.box x y) → dens ps x y ≤ 1
  | [], _, _, _ => by simp [dens]
  | q :: ps, x, y, h => by
    rw [List.pairwise_cons] at h
    rw [dens]
    by_cases hq : inB q.box x y
    · rw [indB_one hq, dens_out ps x y (fun p hp => h.1 p hp x y hq)]
      decide
    · rw [indB_zero hq]
      have := dens_le ps x y h.2
      omega
theorem area_eq {r : Box} (hr : Ru.boxR r = true) : area r = wide r * high r ∧ 0 ≤ area r ∧ area r ≤ 4294967296 := by
  have h := boxR_le hr
  have h1 : (wide r : Int) = r.x1 - r.x0 + 1 := by unfold wide; omega
  have h2 : (high r : Int) = r.y1 - r.y0 + 1 := by unfold high; omega
  have e : area r = wide r * high r := by unfold area; rw [if_pos hr, h1, h2]
  refine ⟨e, ?_, ?_⟩
  · rw [e]; exact Int.mul_nonneg (by omega) (by omega)
  · rw [e]
    have : (wide r : Int) * high r ≤ 65536 * 65536 := Int.mul_le_mul (by omega) (by omega) (by omega) (by omega)
    omega
theorem taken_lt {r : Box} (hr : Ru.boxR r = true) {ps : List Patch} (hp : ps.Pairwise fun p q => ∀ x y, inB p.box x y → ¬ inB q.box x y) {x y : Int} (hin : inB r x y) (hout : ∀ q ∈ ps, ¬ inB q.box x y) : taken r ps < area r := by
  refine Int.lt_of_le_of_lt (taken_le hr ps) ?_
  rw [(area_eq hr).1]
  have h := boxR_le hr
  unfold inB at hin
  have h1 : (wide r : Int) = r.x1 - r.x0 + 1 := by unfold wide; omega
  have h2 : (high r : Int) = r.y1 - r.y0 + 1 := by unfold high; omega
  have hrow : ∀ i : Nat, sumI (high r) (fun j => dens ps (r.x0 + i) (r.y0 + j)) ≤ high r := fun i => by
    have := sumI_le (g := fun _ => 1) (high r) (fun j _ => dens_le ps (r.x0 + i) (r.y0 + j) hp)
    rw [sumI_const] at this
    omega
  unfold sum2
  refine sumI_lt (M := high r) _ (fun i _ => hrow i) (x - r.x0).toNat (by omega) ?_
  have hx : r.x0 + ((x - r.x0).toNat : Int) = x := by omega
  have hy : r.y0 + ((y - r.y0).toNat : Int) = y := by omega
  have hz : dens ps (r.x0 + ((x - r.x0).toNat : Int)) (r.y0 + ((y - r.y0).toNat : Int)) = 0 := by rw [hx, hy]; exact dens_out ps x y hout
  have := sumI_lt (M := 1) (f := fun j : Nat => dens ps (r.x0 + ((x - r.x0).toNat : Int)) (r.y0 + j)) (high r) (fun j _ => dens_le ps _ _ hp) (y - r.y0).toNat (by omega) (by rw [hz]; decide)
  omega
theorem taken_nonneg (r : Box) (hr : Ru.boxR r = true) : ∀ ps, 0 ≤ taken r ps
  | [] => Int.le_refl _
  | q :: ps => by
    have := taken_nonneg r hr ps
    rw [taken]
    split
    · rename_i hm
      rw [← meet_area hr hm]
      have := sum2_nonneg r q.box
      omega
    · omega

/-! ### a rectangle's zoom -/
theorem of_fold (r : Box) : ∀ (ps : List Patch) (p : Int × Int), (ps.foldl (ofStep r) p).1 % 18446744073709551616 = (p.1 - taken r ps) % 18446744073709551616 ∧ (ps.foldl (ofStep r) p).2 ≤ p.2 ∧ (∀ q ∈ ps, meets q.box r = true → (ps.foldl (ofStep r) p).2 ≤ q.z)
  | [], p => by simp [taken]
  | q :: ps, p => by
    rw [List.foldl_cons]
    obtain ⟨h1, h2, h3⟩ := of_fold r ps (ofStep r p q)
    rw [h1, taken]
    by_cases hm : meets q.box r = true
    · have e : ofStep r p q = ((p.1 - area (meet q.box r)) % 18446744073709551616, min p.2 q.z) := by unfold ofStep; rw [if_pos hm]
      rw [e] at h2 h3 ⊢
      simp only at h2 h3 ⊢
      rw [if_pos hm]
      refine ⟨by omega, by omega, fun s hs hms => ?_⟩
      rcases List.mem_cons.1 hs with rfl | hs
      · omega
      · exact h3 s hs hms
    · have e : ofStep r p q = p := by unfold ofStep; rw [if_neg hm]
      rw [e] at h2 h3 ⊢
      rw [if_neg hm]
      refine ⟨by simp, h2, fun s hs hms => ?_⟩
      rcases List.mem_cons.1 hs with rfl | hs
      · exact absurd hms hm
      · exact h3 s hs hms
theorem of_range (r : Box) : ∀ (ps : List Patch) (p : Int × Int), 0 ≤ p.1 → p.1 < 18446744073709551616 → 0 ≤ (ps.foldl (ofStep r) p).1 ∧ (ps.foldl (ofStep r) p).1 < 18446744073709551616
  | [], _, h1, h2 => ⟨h1, h2⟩
  | q :: ps, p, h1, h2 => by
    rw [List.foldl_cons]
    refine of_range r ps _ ?_ ?_ <;> unfold ofStep <;> split <;> (try simp only) <;> omega
theorem ofP_le {l : List Rule} (hf : Fine l) {r : Box} {x y : Int} (h : Ru.boxHas r x y = true) : ofP (bands l) r ≤ zoomG l x y := by
  obtain ⟨hr, hin⟩ := has_iff.1 h
  obtain ⟨y0, hb, h0⟩ := bands_ok hf
  obtain ⟨f1, f2, f3⟩ := of_fold r (bands l) (area r, 16)
  have fr := of_range r (bands l) (area r, 16) (area_eq hr).2.1 (by have := (area_eq hr).2.2; omega)
  have ha := area_eq hr
  have hn := zoomG_nonneg hf x y
  unfold ofP ofG
  by_cases hpos : (List.foldl (ofStep r) (area r, 16) (bands l)).1 > 0
  · rw [if_pos hpos]; exact hn
  · rw [if_neg hpos]
    by_cases hc : ∃ q ∈ bands l, inB q.box x y
    · obtain ⟨q, hq, hqin⟩ := hc
      rw [hb.val q hq x y hqin]
      refine f3 q hq ?_
      unfold meets
      rw [(hb.rng q hq).2.1, hr]
      unfold inB at hin hqin
      simp only [Bool.true_and, Bool.and_eq_true, decide_eq_true_eq]
      omega
    · have hout : ∀ q ∈ bands l, ¬ inB q.box x y := fun q hq hqin => hc ⟨q, hq, hqin⟩
      have a := taken_lt hr hb.apart hin hout
      have b := taken_nonneg r hr (bands l)
      simp only at f1
      omega
theorem of_patches {rs : List Rule} (_h : Ru.rulesR rs = true) (role tier label : Int) {r : Box} {x y : Int} (hr : Ru.boxHas r x y = true) : ofP (patches rs role tier label) r ≤ zoomP (patches rs role tier label) x y := by
  have hf := mine_fine rs role tier label
  unfold patches
  rw [zoomP_is hf]
  exact ofP_le hf hr

end Go.Proofs.YteddkgpnklfppaaGreatDoor.Gr
