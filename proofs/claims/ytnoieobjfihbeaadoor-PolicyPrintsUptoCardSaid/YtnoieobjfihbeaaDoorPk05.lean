/-
  The form of declarations as plain Lean, and: it is read as it was, but for places. No program.
  Small general laws: what a call leaves of memory ('Below', 'Touch'), facts kept hidden, blocks and their cells.
  The document's own printer of policies: numbers.
-/
import Derived.Test.YtnoieobjfihbeaaDoorPk01
import Derived.Test.YtnoieobjfihbeaaDoorPk02
import Derived.Test.YtnoieobjfihbeaaDoorPk04
import Derived.Lib.ItoaNum
import Derived.Test.YtnoieobjfihbeaaDoorRows
import Derived.WalkKit
import Derived.WalkSpells
import Derived.WalkLawsBesides
import Derived.Deep.QuietTactic
import Derived.BigQuiet
import Derived.Deep.DeepFit
import Derived.Deep.DeepMust
import Derived.Deep.RegionHeld3
import Derived.Deep.DeepCutAuto
import Derived.Lib.QuietBelow
import Derived.Lib.ItoaLen
import Derived.IntWalk

namespace Go.Proofs.YtnoieobjfihbeaaDoor.Pt
open Lx Po

/-! ### the form -/
def put (ws : List Bytes) : Bytes := ws.flatMap fun s => 32 :: s
def whoB (all : Bytes) (w : Who) : Bytes := if w.any then all else if w.name.data.toList = [] then Go.Lib.itoa w.n else w.name.data.toList
def tiersB (lo hi : Int) : Bytes := if lo = 0 ∧ hi = 7 then wAny else if lo = hi then Go.Lib.itoa lo else Go.Lib.itoa lo ++ ([46, 46] ++ Go.Lib.itoa hi)
def boxB (b : Box) : Bytes := put [Go.Lib.itoa b.x0, Go.Lib.itoa b.y0, Go.Lib.itoa b.x1, Go.Lib.itoa b.y1]
def plusB (b : Box) : Bytes := put [[43]] ++ boxB b
def boxesB : List Box → Bytes
  | [] => []
  | b :: l => boxB b ++ l.flatMap plusB
def restB (d : Decl) : Bytes :=
  if d.kind = 1 ∨ d.kind = 2 then put [d.name.data.toList, [61], Go.Lib.itoa d.n]
  else if d.kind = 3 then put [d.name.data.toList, [61]] ++ boxesB d.boxes
  else if d.kind = 6 then put [wRole] ++ put [whoB wAny d.role]
  else put [wRole] ++ (put [whoB wAny d.role] ++ (put [wTier] ++ (put [tiersB d.lo d.hi] ++ (put [wLabel] ++ (put [whoB wAny d.label] ++ (put [wIn] ++ (put [whoB wAll d.place] ++ put [wZoom, Go.Lib.itoa d.zoom])))))))
def firstB (k : Int) : Bytes := if k = 1 then wRole else if k = 2 then wLabel else if k = 3 then wRegion else if k = 4 then wAllow else if k = 5 then wCap else if k = 6 then wCloak else []
def lineB (d : Decl) : Bytes := firstB d.kind ++ (restB d ++ [59, 10])
def printB (l : List Decl) : Bytes := if l.all Ru.may then l.flatMap lineB else []

/-! ### tokens, each with what stands behind it -/
abbrev G := T3 × Bytes
def bl : Bytes := [32]
def numG (n : Int) (z : Bytes) : G := ((3, Go.Lib.itoa n, n.toNat), z)
def markG (x z : Bytes) : G := ((4, x, 0), z)
def wordG (x z : Bytes) : G := ((2, x, 0), z)
def nameG (x z : Bytes) : G := ((1, x, 0), z)
def whoG (all : Bytes) (w : Who) (z : Bytes) : G := if w.any then wordG all z else if w.name.data.toList = [] then numG w.n z else nameG w.name.data.toList z
def tiersG (lo hi : Int) (z : Bytes) : List G := if lo = 0 ∧ hi = 7 then [wordG wAny z] else if lo = hi then [numG lo z] else [numG lo [], markG [46, 46] [], numG hi z]
def boxG (b : Box) (z : Bytes) : List G := [numG b.x0 bl, numG b.y0 bl, numG b.x1 bl, numG b.y1 z]
def boxesG : Box → List Box → List G
  | b, [] => boxG b []
  | b, c :: l => boxG b bl ++ markG [43] bl :: boxesG c l
def boxesG0 : List Box → List G
  | [] => []
  | b :: l => boxesG b l
def restG (d : Decl) : List G :=
  if d.kind = 1 ∨ d.kind = 2 then [nameG d.name.data.toList bl, markG [61] bl, numG d.n []]
  else if d.kind = 3 then nameG d.name.data.toList bl :: markG [61] bl :: boxesG0 d.boxes
  else if d.kind = 6 then [wordG wRole bl, whoG wAny d.role []]
  else wordG wRole bl :: whoG wAny d.role bl :: wordG wTier bl :: (tiersG d.lo d.hi bl ++ [wordG wLabel bl, whoG wAny d.label bl, wordG wIn bl, whoG wAll d.place bl, wordG wZoom bl, numG d.zoom []])
def endG : List G := [markG [59] [10]]
def declG (d : Decl) : List G := wordG (firstB d.kind) bl :: (restG d ++ endG)
def glue (l : List G) : Bytes := l.flatMap fun g => g.1.2.1 ++ g.2
theorem glue_cons (g : G) (l : List G) : glue (g :: l) = g.1.2.1 ++ (g.2 ++ glue l) := by unfold glue; rw [List.flatMap_cons, List.append_assoc]
theorem glue_app (l m : List G) : glue (l ++ m) = glue l ++ glue m := by unfold glue; rw [List.flatMap_append]
theorem glue_nil : glue [] = [] := rfl
theorem put_cons (s : Bytes) (l : List Bytes) : put (s :: l) = 32 :: (s ++ put l) := rfl
theorem whoG_text (all : Bytes) (w : Who) (z : Bytes) : (whoG all w z).1.2.1 = whoB all w ∧ (whoG all w z).2 = z := by
  unfold whoG whoB
  split
  · exact ⟨rfl, rfl⟩
  · split <;> exact ⟨rfl, rfl⟩
theorem tiersG_text (lo hi : Int) (z : Bytes) : glue (tiersG lo hi z) = tiersB lo hi ++ z := by
  unfold tiersG tiersB
  split
  · simp [glue, wordG]
  · split
    · simp [glue, numG]
    · simp [glue, numG, markG]
theorem boxG_text (b : Box) (z : Bytes) : 32 :: glue (boxG b z) = boxB b ++ z := by simp [glue, boxG, boxB, put, numG, bl]
theorem boxesG_text (l : List Box) : ∀ b : Box, 32 :: glue (boxesG b l) = boxB b ++ l.flatMap plusB := by
  induction l with
  | nil => intro b; unfold boxesG; rw [boxG_text]; simp
  | cons c l ih =>
    intro b
    unfold boxesG
    rw [glue_app, ← List.cons_append, boxG_text, glue_cons, List.flatMap_cons]
    rw [show plusB c = put [[43]] ++ boxB c from rfl, List.append_assoc, List.append_assoc, ← ih c]
    simp [put, bl, markG]
theorem boxesG0_text {l : List Box} (h : l ≠ []) : 32 :: glue (boxesG0 l) = boxesB l := by
  cases l with
  | nil => exact absurd rfl h
  | cons b l => exact boxesG_text l b

/-! ### which tokens are read -/
def Free (t : T3) : Prop := ∀ rest, tok (t.2.1 ++ rest) = .ok t ∧ skipN false (t.2.1 ++ rest) = 0
def Good : List G → Prop
  | [] => True
  | g :: l => Plain g.1 ∧ (Sep g.2 ∨ (g.2 = [] ∧ (Free g.1 ∨ hdIs inner (glue l) = false))) ∧ Good l
theorem sep_bl : Sep bl := sep_blank
theorem sep_nl : Sep [10] := ⟨fun x => skip10 x, fun _x => rfl⟩
theorem lexL_free {f : Nat} {t : T3} {rest : Bytes} (h : Free t) (h1 : 0 < t.2.1.length) : lexL (f + 1) (t.2.1 ++ rest) = (lexL f rest).map (t :: ·) := by
  obtain ⟨h3, h4⟩ := h rest
  obtain ⟨k, t, n⟩ := t
  simp only at *
  simp only [lexL]
  rw [h4, if_neg (by rw [List.length_append]; omega), List.drop_zero, h3]
  simp only [Nat.zero_add, List.drop_left]
theorem lexL_good (l : List G) : ∀ f : Nat, l.length ≤ f → Good l → lexL f (glue l) = .ok (l.map (·.1)) := by
  induction l with
  | nil => intro f _ _; cases f <;> rfl
  | cons g l ih =>
    intro f hf h
    simp only [List.length_cons] at hf
    obtain ⟨f, rfl⟩ : ∃ k, f = k + 1 := ⟨f - 1, by omega⟩
    obtain ⟨h1, h2, h3⟩ := h
    rw [glue_cons]
    have hl : lexL f (g.2 ++ glue l) = lexL f (glue l) := by
      rcases h2 with h2 | ⟨h2, _⟩
      · exact lexL_sep h2
      · rw [h2, List.nil_append]
    have hs : lexL (f + 1) (g.1.2.1 ++ (g.2 ++ glue l)) = (lexL f (g.2 ++ glue l)).map (g.1 :: ·) := by
      rcases h2 with h2 | ⟨h2, h4 | h4⟩
      · exact lexL_one h1 (h2.head _)
      · exact lexL_free h4 h1.1
      · exact lexL_one h1 (by rw [h2, List.nil_append]; exact h4)
    rw [hs, hl, ih f (by omega) h3]
    rfl

/-! ### the tokens are good -/
theorem plain_mark {x : Bytes} (h : x = [61] ∨ x = [43] ∨ x = [59] ∨ x = [46, 46]) : Plain (4, x, 0) ∧ Free (4, x, 0) := by
  rcases h with rfl | rfl | rfl | rfl
  · exact ⟨plain_of_tok (l := [61]) rfl, fun rest => ⟨rfl, rfl⟩⟩
  · exact ⟨plain_of_tok (l := [43]) rfl, fun rest => ⟨rfl, rfl⟩⟩
  · exact ⟨plain_of_tok (l := [59]) rfl, fun rest => ⟨rfl, rfl⟩⟩
  · exact ⟨plain_of_tok (l := [46, 46]) rfl, fun rest => ⟨rfl, rfl⟩⟩
theorem word_tok : ∀ w ∈ words, tok w = .ok (2, w, 0) := by
  intro w hw
  unfold words at hw
  simp only [List.mem_cons, List.not_mem_nil, or_false] at hw
  rcases hw with rfl | rfl | rfl | rfl | rfl | rfl | rfl | rfl | rfl | rfl | rfl <;> rfl
theorem plain_word {x : Bytes} (h : x ∈ words) : Plain (2, x, 0) := plain_of_tok (word_tok x h)
theorem plain_name {x : Bytes} (h : isName x = true) : Plain (1, x, 0) := by
  refine plain_of_tok (l := x) ?_
  cases x with
  | nil => cases h
  | cons c l =>
    simp only [isName, Bool.and_eq_true, decide_eq_true_eq, Bool.not_eq_true'] at h
    obtain ⟨⟨⟨h1, h2⟩, h3⟩, h4⟩ := h
    have e : (c :: l).takeWhile inner = c :: l := by
      have := takeWhile_app (p := inner) (rest := []) h3 rfl
      rwa [List.append_nil] at this
    rw [tok_cons, if_pos h2, e, if_neg (by omega), h4]
    rfl
theorem digit_of {c : UInt8} {k : Nat} (hk : k < 10) (h : c = UInt8.ofNat (48 + k)) : c.toNat = 48 + k ∧ digit c = true := by
  have e : c.toNat = 48 + k := by rw [h, UInt8.toNat_ofNat']; omega
  refine ⟨e, ?_⟩
  unfold digit
  simp only [Bool.and_eq_true, decide_eq_true_eq, UInt8.le_iff_toNat_le]
  rw [e]
  exact ⟨by show 48 ≤ 48 + k; omega, by show 48 + k ≤ 57; omega⟩
theorem dec_props (u : Nat) : (Go.Lib.decDigits u).all digit = true ∧ numAcc 0 (Go.Lib.decDigits u) = u ∧ 0 < (Go.Lib.decDigits u).length ∧ (0 < u → (Go.Lib.decDigits u).head? ≠ some 48) ∧ (u < 10 → (Go.Lib.decDigits u).length = 1) := by
  induction u using Nat.strongRecOn with
  | _ u ih =>
    by_cases h : u < 10
    · obtain ⟨h1, h2⟩ := digit_of h (c := UInt8.ofNat (48 + u)) rfl
      rw [Go.Lib.decDigits, dif_pos h]
      generalize UInt8.ofNat (48 + u) = c at *
      refine ⟨by simp [h2], ?_, by simp, fun h0 => ?_, fun _ => rfl⟩
      · show 10 * 0 + (c.toNat - 48) = u
        omega
      · intro hc
        simp only [List.head?_cons, Option.some.injEq] at hc
        rw [hc] at h1
        have : (48 : UInt8).toNat = 48 := rfl
        omega
    · obtain ⟨i1, i2, i3, i4, _⟩ := ih (u / 10) (by omega)
      obtain ⟨h1, h2⟩ := digit_of (k := u % 10) (by omega) (c := UInt8.ofNat (48 + u % 10)) rfl
      rw [Go.Lib.decDigits, dif_neg h]
      generalize UInt8.ofNat (48 + u % 10) = c at *
      refine ⟨by simp [i1, h2], ?_, by simp, fun h0 => ?_, fun h0 => absurd h0 h⟩
      · unfold numAcc at i2 ⊢
        rw [List.foldl_append, i2]
        simp only [List.foldl_cons, List.foldl_nil, h1]
        omega
      · have := i4 (by omega)
        generalize Go.Lib.decDigits (u / 10) = q at *
        cases q with
        | nil => simp at i3
        | cons c q => simpa using this
theorem itoa_tok {n : Int} (h0 : 0 ≤ n) (h1 : n ≤ 65535) : tok (Go.Lib.itoa n) = .ok (3, Go.Lib.itoa n, n.toNat) := by
  obtain ⟨u, rfl⟩ : ∃ u : Nat, n = u := ⟨n.toNat, by omega⟩
  have e : Go.Lib.itoa (u : Int) = Go.Lib.decDigits u := by unfold Go.Lib.itoa; rw [if_neg (by omega)]; simp
  obtain ⟨d1, d2, d3, d4, d5⟩ := dec_props u
  have hnum : number (Go.Lib.decDigits u) = some u := by
    unfold number
    rw [d2, if_neg]
    rintro (⟨h2, h3⟩ | h2)
    · by_cases h10 : u < 10
      · have := d5 h10; omega
      · exact d4 (by omega) h3
    · omega
  rw [e]
  have ht : ((u : Int).toNat) = u := by simp
  rw [ht]
  generalize Go.Lib.decDigits u = q at *
  cases q with
  | nil => simp at d3
  | cons c l =>
    have hd : digit c = true := by simp only [List.all_cons, Bool.and_eq_true] at d1; exact d1.1
    have hl : letter c = false := by
      unfold digit at hd
      unfold letter
      simp only [Bool.and_eq_true, decide_eq_true_eq, UInt8.le_iff_toNat_le] at hd
      have h57 : c.toNat ≤ 57 := hd.2
      simp only [Bool.and_eq_false_iff, decide_eq_false_iff_not, UInt8.le_iff_toNat_le]
      left
      show ¬ 97 ≤ c.toNat
      omega
    have e2 : (c :: l).takeWhile digit = c :: l := by
      have := takeWhile_app (p := digit) (rest := []) d1 rfl
      rwa [List.append_nil] at this
    rw [tok_cons, if_neg (by rw [hl]; decide), if_pos hd, e2, hnum]
theorem plain_num {n : Int} (h : Ru.num n = true) : Plain (3, Go.Lib.itoa n, n.toNat) := by
  unfold Ru.num at h
  simp only [Bool.and_eq_true, decide_eq_true_eq] at h
  exact plain_of_tok (itoa_tok h.1 h.2)
theorem itoa_word {n : Int} (h : Ru.num n = true) {x : Bytes} (hx : x ∈ words) : Go.Lib.itoa n ≠ x := by
  unfold Ru.num at h
  simp only [Bool.and_eq_true, decide_eq_true_eq] at h
  intro e
  have h1 := itoa_tok h.1 h.2
  rw [e, word_tok x hx] at h1
  cases h1
theorem name_word {s : Bytes} (h : isName s = true) {x : Bytes} (hx : x ∈ words) : s ≠ x := by
  rintro rfl
  have : isWord s = true := by unfold isWord; exact List.contains_iff_mem.2 hx
  rw [word_isName this] at h
  cases h

theorem good_sep {g : G} {l : List G} (h : Plain g.1) (hs : Sep g.2) (hl : Good l) : Good (g :: l) := ⟨h, .inl hs, hl⟩
theorem good_mark {x z : Bytes} {l : List G} (h : x = [61] ∨ x = [43] ∨ x = [59] ∨ x = [46, 46]) (hz : Sep z ∨ z = []) (hl : Good l) : Good (markG x z :: l) := by
  obtain ⟨h1, h2⟩ := plain_mark h
  refine ⟨h1, ?_, hl⟩
  rcases hz with hz | hz
  · exact .inl hz
  · exact .inr ⟨hz, .inl h2⟩
theorem good_end {g : G} {x z : Bytes} {l : List G} (h : Plain g.1) (hz : g.2 = []) (hx : x = [59] ∨ x = [46, 46]) (hl : Good (markG x z :: l)) : Good (g :: markG x z :: l) := by
  refine ⟨h, .inr ⟨hz, .inr ?_⟩, hl⟩
  rw [glue_cons]
  rcases hx with rfl | rfl <;> rfl
theorem good_who {all : Bytes} (ha : all ∈ words) {w : Who} (h : Ru.rightW w = true) (z : Bytes) : Plain (whoG all w z).1 := by
  unfold Ru.rightW at h
  unfold whoG
  split
  · exact plain_word ha
  · rename_i hn
    rw [if_neg hn] at h
    split
    · rename_i he
      rw [if_pos (by rw [he]; rfl)] at h
      exact plain_num h
    · rename_i he
      rw [if_neg (by simpa using he)] at h
      simp only [Bool.and_eq_true] at h
      exact plain_name h.2
theorem good_tiers {lo hi : Int} (h1 : Ru.num lo = true) (h2 : Ru.num hi = true) {l : List G} (hl : Good l) : Good (tiersG lo hi bl ++ l) := by
  unfold tiersG
  split
  · exact good_sep (plain_word (by decide)) sep_bl hl
  · split
    · exact good_sep (plain_num h1) sep_bl hl
    · exact good_end (plain_num h1) rfl (.inr rfl) (good_mark (by simp) (.inr rfl) (good_sep (plain_num h2) sep_bl hl))
theorem good_boxes (m : List G) (hm : Good (markG [59] [10] :: m)) (l : List Box) : ∀ b : Box, (∀ c ∈ b :: l, Ru.boxN c = true) → Good (boxesG b l ++ markG [59] [10] :: m) := by
  induction l with
  | nil =>
    intro b h
    have hb := h b List.mem_cons_self
    simp only [Ru.boxN, Bool.and_eq_true] at hb
    unfold boxesG boxG
    exact good_sep (plain_num hb.1.1.1) sep_bl (good_sep (plain_num hb.1.1.2) sep_bl (good_sep (plain_num hb.1.2) sep_bl (good_end (plain_num hb.2) rfl (.inl rfl) hm)))
  | cons c l ih =>
    intro b h
    have hb := h b List.mem_cons_self
    simp only [Ru.boxN, Bool.and_eq_true] at hb
    unfold boxesG boxG
    exact good_sep (plain_num hb.1.1.1) sep_bl (good_sep (plain_num hb.1.1.2) sep_bl (good_sep (plain_num hb.1.2) sep_bl (good_sep (plain_num hb.2) sep_bl (good_mark (by simp) (.inl sep_bl) (ih c (fun x hx => h x (List.mem_cons_of_mem _ hx)))))))

/-- what a declaration that may be has, by its kind -/
inductive May (d : Decl) : Prop
  | named (h : d.kind = 1 ∨ d.kind = 2) (hn : isName d.name.data.toList = true) (hi : Ru.num d.n = true) (hb : d.boxes = []) (hr : Ru.zeroW d.role = true) (hz : Ru.noRule d = true) : May d
  | region (h : d.kind = 3) (hn : isName d.name.data.toList = true) (hi : d.n = 0) (hb : ∀ b ∈ d.boxes, Ru.boxN b = true) (h0 : d.boxes ≠ []) (hr : Ru.zeroW d.role = true) (hz : Ru.noRule d = true) : May d
  | rule (h : d.kind = 4 ∨ d.kind = 5) (hn : d.name.data.toList = []) (hi : d.n = 0) (hb : d.boxes = []) (hr : Ru.rightW d.role = true) (h1 : Ru.num d.lo = true) (h2 : Ru.num d.hi = true) (h3 : Ru.num d.zoom = true) (hl : Ru.rightW d.label = true) (hp : Ru.placeW d.place = true) : May d
  | cloak (h : d.kind = 6) (hn : d.name.data.toList = []) (hi : d.n = 0) (hb : d.boxes = []) (hr : Ru.rightW d.role = true) (hz : Ru.noRule d = true) : May d
theorem nil_of {l : List Box} (h : ((l.length : Int) == 0) = true) : l = [] := by
  cases l with
  | nil => rfl
  | cons b l => simp only [List.length_cons, beq_iff_eq] at h; omega
theorem may_cases {d : Decl} (h : Ru.may d = true) : May d := by
  unfold Ru.may at h
  by_cases h12 : d.kind = 1 ∨ d.kind = 2
  · rw [if_pos h12] at h
    simp only [Bool.and_eq_true] at h
    exact .named h12 h.1.1.1.1 h.1.1.1.2 (nil_of h.1.1.2) h.1.2 h.2
  · rw [if_neg h12] at h
    by_cases h3 : d.kind = 3
    · rw [if_pos h3] at h
      simp only [Bool.and_eq_true, Ru.boxesN, List.all_eq_true, decide_eq_true_eq, beq_iff_eq] at h
      exact .region h3 h.1.1.1.1 h.1.1.1.2 h.1.1.2.1 (by intro e; have := h.1.1.2.2; rw [e] at this; simp at this) h.1.2 h.2
    · rw [if_neg h3] at h
      by_cases h45 : d.kind = 4 ∨ d.kind = 5
      · rw [if_pos h45] at h
        simp only [Bool.and_eq_true, Ru.noName, Ru.ruleD, beq_iff_eq] at h
        exact .rule h45 h.1.1.1 h.1.1.2 (nil_of (by simpa using h.1.2)) h.2.1.1.1 h.2.1.1.2.1.1 h.2.1.1.2.1.2 h.2.1.1.2.2 h.2.1.2 h.2.2
      · rw [if_neg h45] at h
        by_cases h6 : d.kind = 6
        · rw [if_pos h6] at h
          simp only [Bool.and_eq_true, Ru.noName, beq_iff_eq] at h
          exact .cloak h6 h.1.1.1.1 h.1.1.1.2 (nil_of (by simpa using h.1.1.2)) h.1.2 h.2
        · rw [if_neg h6] at h; cases h
theorem place_right {w : Who} (h : Ru.placeW w = true) : Ru.rightW w = true := by unfold Ru.placeW at h; simp only [Bool.and_eq_true] at h; exact h.1
theorem first_word {k : Int} (h : 1 ≤ k) (h6 : k ≤ 6) : firstB k ∈ words := by
  unfold firstB
  repeat' split
  all_goals first | decide | omega
theorem good_decl {d : Decl} (h : Ru.may d = true) {m : List G} (hm : Good m) : Good (declG d ++ m) := by
  have hend : Good (markG [59] [10] :: m) := good_mark (by simp) (.inl sep_nl) hm
  have hm' := may_cases h
  unfold declG restG
  have hf : firstB d.kind ∈ words := by cases hm' <;> exact first_word (by omega) (by omega)
  refine good_sep (plain_word hf) sep_bl ?_
  show Good ((_ ++ endG) ++ m)
  rw [List.append_assoc]
  show Good (_ ++ markG [59] [10] :: m)
  cases hm' with
  | named h hn hi hb hr hz =>
    rw [if_pos h]
    exact good_sep (plain_name hn) sep_bl (good_mark (by simp) (.inl sep_bl) (good_end (plain_num hi) rfl (.inl rfl) hend))
  | region h hn hi hb h0 hr hz =>
    rw [if_neg (by omega), if_pos h]
    refine good_sep (plain_name hn) sep_bl (good_mark (by simp) (.inl sep_bl) ?_)
    cases hbx : d.boxes with
    | nil => exact absurd hbx h0
    | cons b l => exact good_boxes m hend l b (by rw [← hbx]; exact hb)
  | rule h hn hi hb hr h1 h2 h3 hl hp =>
    rw [if_neg (by omega), if_neg (by omega), if_neg (by omega)]
    refine good_sep (plain_word (by decide)) sep_bl (good_sep (good_who (by decide) hr bl) (by rw [(whoG_text _ _ _).2]; exact sep_bl) (good_sep (plain_word (by decide)) sep_bl ?_))
    show Good ((_ ++ _) ++ _)
    rw [List.append_assoc]
    exact good_tiers h1 h2 (good_sep (plain_word (by decide)) sep_bl (good_sep (good_who (by decide) hl bl) (by rw [(whoG_text _ _ _).2]; exact sep_bl) (good_sep (plain_word (by decide)) sep_bl (good_sep (good_who (by decide) (place_right hp) bl) (by rw [(whoG_text _ _ _).2]; exact sep_bl) (good_sep (plain_word (by decide)) sep_bl (good_end (plain_num h3) rfl (.inl rfl) hend))))))
  | cloak h hn hi hb hr hz =>
    rw [if_neg (by omega), if_neg (by omega), if_pos h]
    exact good_sep (plain_word (by decide)) sep_bl (good_end (good_who (by decide) hr []) (whoG_text _ _ _).2 (.inl rfl) hend)
theorem decl_text {d : Decl} (h : Ru.may d = true) : glue (declG d) = lineB d := by
  have hm' := may_cases h
  unfold declG restG lineB restB
  rw [glue_cons, glue_app]
  show firstB d.kind ++ (bl ++ (_ ++ glue endG)) = _
  have e0 : glue endG = [59, 10] := rfl
  rw [e0, ← List.append_assoc bl]
  congr 2
  show 32 :: glue _ = _
  cases hm' with
  | named h hn hi hb hr hz =>
    rw [if_pos h, if_pos h]
    simp [glue, nameG, markG, numG, put, bl]
  | region h hn hi hb h0 hr hz =>
    rw [if_neg (by omega), if_pos h, if_neg (by omega), if_pos h, ← boxesG0_text h0]
    simp [glue_cons, nameG, markG, put, bl]
  | rule h hn hi hb hr h1 h2 h3 hl hp =>
    rw [if_neg (by omega), if_neg (by omega), if_neg (by omega), if_neg (by omega), if_neg (by omega), if_neg (by omega)]
    simp only [glue_cons, glue_app, glue_nil, (whoG_text _ _ _).1, (whoG_text _ _ _).2, tiersG_text]
    simp [wordG, numG, put, bl]
  | cloak h hn hi hb hr hz =>
    rw [if_neg (by omega), if_neg (by omega), if_pos h, if_neg (by omega), if_neg (by omega), if_pos h]
    simp only [glue_cons, glue_nil, (whoG_text _ _ _).1, (whoG_text _ _ _).2]
    simp [wordG, put, bl]
def allG (l : List Decl) : List G := l.flatMap declG
theorem all_good (l : List Decl) (h : ∀ d ∈ l, Ru.may d = true) : Good (allG l) ∧ glue (allG l) = l.flatMap lineB := by
  induction l with
  | nil => exact ⟨trivial, rfl⟩
  | cons d l ih =>
    obtain ⟨h1, h2⟩ := ih (fun x hx => h x (List.mem_cons_of_mem _ hx))
    have hd := h d List.mem_cons_self
    unfold allG at *
    rw [List.flatMap_cons, List.flatMap_cons]
    exact ⟨good_decl hd h1, by rw [glue_app, decl_text hd, h2]⟩
theorem glue_ge (l : List G) (h : Good l) : l.length ≤ (glue l).length := by
  induction l with
  | nil => exact Nat.le_refl _
  | cons g l ih =>
    have := ih h.2.2
    have := h.1.1
    rw [glue_cons, List.length_cons, List.length_append, List.length_append]
    omega
/-- the form's tokens -/
theorem tokens_print {l : List Decl} (h : ∀ d ∈ l, Ru.may d = true) (hn : (l.flatMap lineB).length ≤ 512) : ∃ T, tokens (l.flatMap lineB) = .ok T ∧ T.map strip = (allG l).map (·.1) := by
  obtain ⟨h1, h2⟩ := all_good l h
  have hg := glue_ge _ h1
  rw [h2] at hg
  have h3 := lexL_good _ ((l.flatMap lineB).length + 1) (by omega) h1
  rw [h2] at h3
  have h4 := lexL_toks (l.flatMap lineB) ((l.flatMap lineB).length + 1) 0
  rw [List.drop_zero, h3] at h4
  unfold tokens
  rw [if_neg (by omega)]
  cases hk : toks (l.flatMap lineB) ((l.flatMap lineB).length + 1) 0 with
  | error x => rw [hk] at h4; obtain ⟨a, b, c⟩ := x; cases h4
  | ok T =>
    rw [hk] at h4
    exact ⟨T, rfl, (Except.ok.inj h4).symm⟩

end Go.Proofs.YtnoieobjfihbeaaDoor.Pt

namespace Go.Proofs.YtnoieobjfihbeaaDoor
open Go.RowKit Go.Sort

theorem hid {p : Prop} (h : p) : Hid p := h

theorem bcell {W w1 : World} (hb : Below W.heap.size W w1) : (∀ b o, b < W.heap.size → w1.cell? ⟨b, o, none⟩ = W.cell? ⟨b, o, none⟩) ∧ (∀ b o, b < W.heap.size → w1.frozen? ⟨b, o, none⟩ = W.frozen? ⟨b, o, none⟩) :=
  ⟨fun b o h => hb.cell (p := ⟨b, o, none⟩) h, fun b o h => hb.frozen (p := ⟨b, o, none⟩) h⟩

theorem ret_int {k : IntKind} {a b : Int} (h : a = b) : Ending.returned (.int k a) = .returned (.int k b) := by rw [h]
theorem ret_bool {a b : Bool} (h : a = b) : Ending.returned (.bool a) = .returned (.bool b) := by rw [h]
theorem ret_str {a b : ByteArray} (h : a = b) : Ending.returned (.string a) = .returned (.string b) := by rw [h]
theorem ret_eq {a b : Value} (h : a = b) : Ending.returned a = .returned b := by rw [h]

/-- two calls behind one another -/
theorem bthen {x y z : World} (h : Below x.heap.size x y) (k : Below y.heap.size y z) : Below x.heap.size x z := h.trans (k.mono h.size)
theorem balloc (w : World) (o : Obj) : Below w.heap.size w (w.alloc o) := (Below.refl _ _).alloc (Nat.le_refl _) _
theorem bdrewN {B : Nat} {a w : World} (h : Below B a w) (n : Nat) : Below B a (w.drewN n) := h.trans ⟨rfl, rfl, rfl, Nat.le_refl _, fun _ _ => rfl⟩
theorem bset {B : Nat} {a w : World} (h : Below B a w) {b o : Nat} (hp : B ≤ b) (u : Value) : Below B a (w.setCell ⟨b, o, none⟩ u) := h.setCell (p := ⟨b, o, none⟩) hp u
theorem same_below {P : Program} {f : FuncId} {args : Array Value} {w : World} {e : Ending} (h : Calls P f args w fun e' w' => e' = e ∧ w = w') : Calls P f args w fun e' w' => e' = e ∧ Below w.heap.size w w' :=
  h.mono fun _ _ ⟨h1, h2⟩ => ⟨h1, h2 ▸ Below.refl _ _⟩

/-- only block b of what was there may have changed -/
structure Touch (b : Nat) (w w' : World) : Prop where
  os : w'.os = w.os
  tape : w'.tape = w.tape
  output : w'.output = w.output
  size : w.heap.size ≤ w'.heap.size
  block : ∀ k, k < w.heap.size → k ≠ b → w'.heap[k]? = w.heap[k]?

theorem Touch.refl (b : Nat) (w : World) : Touch b w w := ⟨rfl, rfl, rfl, Nat.le_refl _, fun _ _ _ => rfl⟩
theorem Touch.trans {b : Nat} {x y z : World} (h : Touch b x y) (k : Touch b y z) : Touch b x z :=
  ⟨k.os.trans h.os, k.tape.trans h.tape, k.output.trans h.output, Nat.le_trans h.size k.size, fun i hi hn => (k.block i (Nat.lt_of_lt_of_le hi h.size) hn).trans (h.block i hi hn)⟩
theorem Touch.of_below {b : Nat} {w w' : World} (h : Below w.heap.size w w') : Touch b w w' := ⟨h.os, h.tape, h.output, h.size, fun k hk _ => h.block k hk⟩
theorem Touch.below {b : Nat} {x y z : World} (h : Touch b x y) (k : Below y.heap.size y z) : Touch b x z := h.trans (Touch.of_below k)
theorem Touch.drew {b : Nat} {a w : World} (h : Touch b a w) : Touch b a w.drew := ⟨h.os, h.tape, h.output, h.size, h.block⟩
theorem Touch.drewN {b : Nat} {a w : World} (h : Touch b a w) (n : Nat) : Touch b a (w.drewN n) := h.trans ⟨rfl, rfl, rfl, Nat.le_refl _, fun _ _ _ => rfl⟩
theorem Touch.setCell {b : Nat} {a w : World} (h : Touch b a w) (o : Nat) (u : Value) : Touch b a (w.setCell ⟨b, o, none⟩ u) :=
  h.trans ⟨rfl, rfl, rfl, by simp [World.setCell], fun k _ hn => Below.heap_setCell _ _ _ _ hn⟩
theorem Touch.alloc {b : Nat} {a w : World} (h : Touch b a w) (o : Obj) : Touch b a (w.alloc o) :=
  h.trans ⟨rfl, rfl, rfl, by simp, fun k hk _ => Below.heap_alloc _ _ _ hk⟩
/-- a store into a block of the call's own -/
theorem Touch.setNew {b : Nat} {a w : World} (h : Touch b a w) {k : Nat} (hk : a.heap.size ≤ k) (o : Nat) (u : Value) : Touch b a (w.setCell ⟨k, o, none⟩ u) :=
  ⟨h.os, h.tape, h.output, by simpa [World.setCell] using h.size, fun i hi hn => (Below.heap_setCell _ _ _ _ (show i ≠ (⟨k, o, none⟩ : Addr).block by simp only; omega)).trans (h.block i hi hn)⟩
theorem Touch.to_below {b B : Nat} {x y : World} (h : Touch b x y) (hB : B ≤ x.heap.size) (hb : B ≤ b) : Below B x y := ⟨h.os, h.tape, h.output, h.size, fun k hk => h.block k (by omega) (by omega)⟩
theorem tcell {b : Nat} {W w1 : World} (hb : Touch b W w1) : (∀ k o, k < W.heap.size → k ≠ b → w1.cell? ⟨k, o, none⟩ = W.cell? ⟨k, o, none⟩) ∧ (∀ k o, k < W.heap.size → k ≠ b → w1.frozen? ⟨k, o, none⟩ = W.frozen? ⟨k, o, none⟩) :=
  ⟨fun k o h hn => World.cell?_of_block (w := W) (a := ⟨k, o, none⟩) (hb.block k h hn), fun k o h hn => World.frozen?_of_block (w := W) (a := ⟨k, o, none⟩) (hb.block k h hn)⟩

/-- block b holds these cells -/
def Blk (w : World) (b : Nat) (cs : Array Value) (t : TypeId) : Prop := w.heap[b]? = some (.cells cs t (0, 0))
theorem Blk.lt {w : World} {b : Nat} {cs : Array Value} {t : TypeId} (h : Blk w b cs t) : b < w.heap.size := lt_of_block h
theorem Blk.cell {w : World} {b : Nat} {cs : Array Value} {t : TypeId} (h : Blk w b cs t) (o : Nat) {v : Value} (hv : cs[o]? = some v) : w.cell? ⟨b, o, none⟩ = some v := by
  unfold Blk at h; simp [World.cell?, h, hv]
theorem Blk.free {w : World} {b : Nat} {cs : Array Value} {t : TypeId} (h : Blk w b cs t) (o : Nat) : w.frozen? ⟨b, o, none⟩ = false := by
  unfold Blk at h; simp [World.frozen?, h]
theorem Blk.below {B : Nat} {w w' : World} {b : Nat} {cs : Array Value} {t : TypeId} (h : Blk w b cs t) (hb : Below B w w') (hB : b < B) : Blk w' b cs t := (hb.block b hB).trans h
theorem Blk.ext {w w' : World} {b : Nat} {cs : Array Value} {t : TypeId} (h : Blk w b cs t) (hb : Below w.heap.size w w') : Blk w' b cs t := h.below hb h.lt
theorem Blk.touch {k : Nat} {w w' : World} {b : Nat} {cs : Array Value} {t : TypeId} (h : Blk w b cs t) (hb : Touch k w w') (hn : b ≠ k) : Blk w' b cs t := (hb.block b h.lt hn).trans h
theorem Blk.drew {w : World} {b : Nat} {cs : Array Value} {t : TypeId} (h : Blk w b cs t) : Blk w.drew b cs t := h
theorem Blk.drewN {w : World} {b : Nat} {cs : Array Value} {t : TypeId} (h : Blk w b cs t) (n : Nat) : Blk (w.drewN n) b cs t := h
theorem Blk.alloc {w : World} {b : Nat} {cs : Array Value} {t : TypeId} (h : Blk w b cs t) (o : Obj) : Blk (w.alloc o) b cs t := (Below.heap_alloc _ _ _ h.lt).trans h
theorem Blk.new (w : World) (cs : Array Value) (t : TypeId) : Blk (w.alloc (.cells cs t)) w.heap.size cs t := heap_alloc_new w _
theorem Blk.newAt {w : World} {k : Nat} (h : k = w.heap.size) (cs : Array Value) (t : TypeId) : Blk (w.alloc (.cells cs t)) k cs t := h ▸ Blk.new w cs t
theorem Blk.set {w : World} {b : Nat} {cs : Array Value} {t : TypeId} (h : Blk w b cs t) (o : Nat) (u : Value) : Blk (w.setCell ⟨b, o, none⟩ u) b (cs.setIfInBounds o u) t := by
  have hlt := h.lt
  unfold Blk at *
  have h' : w.heap[b] = .cells cs t (0, 0) := by simpa [Array.getElem?_eq_getElem hlt] using h
  show (w.heap.modify b _)[b]? = _
  rw [Array.getElem?_eq_getElem (by simpa using hlt), Array.getElem_modify_self, h']
  simp
theorem Blk.setOther {w : World} {b : Nat} {cs : Array Value} {t : TypeId} (h : Blk w b cs t) {k : Nat} (hk : b ≠ k) (o : Nat) (u : Value) : Blk (w.setCell ⟨k, o, none⟩ u) b cs t :=
  (Below.heap_setCell _ _ _ _ hk).trans h

theorem Blk.setOther_iff {w : World} {b : Nat} {cs : Array Value} {t : TypeId} {k : Nat} (hk : b ≠ k) (o : Nat) (u : Value) : Blk (w.setCell ⟨k, o, none⟩ u) b cs t ↔ Blk w b cs t := by
  unfold Blk; rw [Below.heap_setCell _ _ _ _ hk]
theorem Touch.setNew_iff {b : Nat} {a w : World} {k : Nat} (hk : a.heap.size ≤ k) (o : Nat) (u : Value) : Touch b a (w.setCell ⟨k, o, none⟩ u) ↔ Touch b a w :=
  ⟨fun h => ⟨h.os, h.tape, h.output, by simpa [World.setCell] using h.size, fun i hi hn => (Below.heap_setCell _ _ _ _ (show i ≠ (⟨k, o, none⟩ : Addr).block by simp only; omega)).symm.trans (h.block i hi hn)⟩, fun h => h.setNew hk o u⟩
theorem below_setNew_iff {B : Nat} {a w : World} {k : Nat} (hk : B ≤ k) (o : Nat) (u : Value) : Below B a (w.setCell ⟨k, o, none⟩ u) ↔ Below B a w :=
  ⟨fun h => ⟨h.os, h.tape, h.output, by simpa [World.setCell] using h.size, fun i hi => (Below.heap_setCell _ _ _ _ (show i ≠ (⟨k, o, none⟩ : Addr).block by simp only; omega)).symm.trans (h.block i hi)⟩, fun h => bset h hk u⟩
theorem Touch.drew_iff {b : Nat} {a w : World} : Touch b a w.drew ↔ Touch b a w := ⟨fun h => ⟨h.os, h.tape, h.output, h.size, h.block⟩, Touch.drew⟩
theorem Touch.drewN_iff {b : Nat} {a w : World} (n : Nat) : Touch b a (w.drewN n) ↔ Touch b a w := ⟨fun h => ⟨h.os, h.tape, h.output, h.size, h.block⟩, fun h => h.drewN n⟩
theorem below_drew_iff {B : Nat} {a w : World} : Below B a w.drew ↔ Below B a w := ⟨fun h => ⟨h.os, h.tape, h.output, h.size, h.block⟩, Below.drew⟩
theorem below_drewN_iff {B : Nat} {a w : World} (n : Nat) : Below B a (w.drewN n) ↔ Below B a w := ⟨fun h => ⟨h.os, h.tape, h.output, h.size, h.block⟩, fun h => bdrewN h n⟩
theorem Blk.drew_iff {w : World} {b : Nat} {cs : Array Value} {t : TypeId} : Blk w.drew b cs t ↔ Blk w b cs t := Iff.rfl
theorem Blk.drewN_iff {w : World} {b : Nat} {cs : Array Value} {t : TypeId} (n : Nat) : Blk (w.drewN n) b cs t ↔ Blk w b cs t := Iff.rfl

/-- what the walk wants of a block of one, two, .. cells: each cell, each mark -/
theorem Blk.two {w : World} {b : Nat} {x y : Value} {t : TypeId} (h : Blk w b #[x, y] t) : w.cell? ⟨b, 0, none⟩ = some x ∧ w.cell? ⟨b, 1, none⟩ = some y ∧ (∀ o, w.frozen? ⟨b, o, none⟩ = false) ∧ b < w.heap.size :=
  ⟨h.cell 0 rfl, h.cell 1 rfl, h.free, h.lt⟩
theorem Blk.one {w : World} {b : Nat} {x : Value} {t : TypeId} (h : Blk w b #[x] t) : w.cell? ⟨b, 0, none⟩ = some x ∧ (∀ o, w.frozen? ⟨b, o, none⟩ = false) ∧ b < w.heap.size :=
  ⟨h.cell 0 rfl, h.free, h.lt⟩
theorem Blk.three {w : World} {b : Nat} {x y z : Value} {t : TypeId} (h : Blk w b #[x, y, z] t) : w.cell? ⟨b, 0, none⟩ = some x ∧ w.cell? ⟨b, 1, none⟩ = some y ∧ w.cell? ⟨b, 2, none⟩ = some z ∧ (∀ o, w.frozen? ⟨b, o, none⟩ = false) ∧ b < w.heap.size :=
  ⟨h.cell 0 rfl, h.cell 1 rfl, h.cell 2 rfl, h.free, h.lt⟩
theorem Blk.five {w : World} {b : Nat} {x y z u v : Value} {t : TypeId} (h : Blk w b #[x, y, z, u, v] t) : w.cell? ⟨b, 0, none⟩ = some x ∧ w.cell? ⟨b, 1, none⟩ = some y ∧ w.cell? ⟨b, 2, none⟩ = some z ∧ w.cell? ⟨b, 3, none⟩ = some u ∧ w.cell? ⟨b, 4, none⟩ = some v ∧ (∀ o, w.frozen? ⟨b, o, none⟩ = false) ∧ b < w.heap.size :=
  ⟨h.cell 0 rfl, h.cell 1 rfl, h.cell 2 rfl, h.cell 3 rfl, h.cell 4 rfl, h.free, h.lt⟩

/-- a slice value that reads as n elements of so many cells -/
def Row (w : World) (v : Value) (n size : Nat) (xs : List Value) : Prop :=
  xs.length = n * size ∧ ((v = .slice none 0 0 ∧ n = 0) ∨
    ∃ g off cap, v = .slice (some ⟨g, off, none⟩) n cap ∧ n ≤ cap ∧ g < w.heap.size ∧ ∀ j u, xs[j]? = some u → w.cell? ⟨g, off + j, none⟩ = some u)
theorem Row.nil (w : World) (size : Nat) : Row w (.slice none 0 0) 0 size [] := ⟨by simp, .inl ⟨rfl, rfl⟩⟩
theorem Row.below {w w' : World} {v : Value} {n size : Nat} {xs : List Value} {B : Nat} (h : Row w v n size xs) (hb : Below B w w') (hB : w.heap.size ≤ B) : Row w' v n size xs := by
  refine ⟨h.1, ?_⟩
  rcases h.2 with h2 | ⟨g, off, cap, hv, hn, hg, hc⟩
  · exact .inl h2
  · exact .inr ⟨g, off, cap, hv, hn, Nat.lt_of_lt_of_le hg hb.size, fun j u hj => (hb.cell (p := ⟨g, off + j, none⟩) (by simp only; omega)).trans (hc j u hj)⟩
theorem Row.ext {w w' : World} {v : Value} {n size : Nat} {xs : List Value} (h : Row w v n size xs) (hb : Below w.heap.size w w') : Row w' v n size xs := h.below hb (Nat.le_refl _)
theorem Row.touch {w w' : World} {v : Value} {n size : Nat} {xs : List Value} {b : Nat} (h : Row w v n size xs) (hb : Touch b w w') (hne : v.ownBlock ≠ some b) : Row w' v n size xs := by
  refine ⟨h.1, ?_⟩
  rcases h.2 with h2 | ⟨g, off, cap, hv, hn, hg, hc⟩
  · exact .inl h2
  · subst hv
    exact .inr ⟨g, off, cap, rfl, hn, Nat.lt_of_lt_of_le hg hb.size, fun j u hj => (World.cell?_of_block (w := w) (a := ⟨g, off + j, none⟩) (hb.block g hg (fun e => hne (by simp [Value.ownBlock, e])))).trans (hc j u hj)⟩
theorem Row.of_owns {w : World} {base : Nat} {e : TypeId} {size : Nat} {v : Value} {n : Nat} {xs : List Value} (h : w.ownsRow base e size v n xs) : Row w v n size xs := by
  refine ⟨h.1, ?_⟩
  rcases h.2 with h2 | ⟨g, cap, cur, hv, hb, hg, hn, hm, hs, ht⟩
  · exact .inl h2
  · refine .inr ⟨g, 0, cap, hv, hn, lt_of_block hg, fun j u hj => ?_⟩
    rw [Nat.zero_add, cell_of_row w g j cur e (0, 0) hg]
    rw [← ht, List.getElem?_take] at hj
    split at hj
    · simpa using hj
    · cases hj
theorem Row.empty {w : World} {k : Nat} (hk : k < w.heap.size) (size : Nat) : Row w (.slice (some ⟨k, 0, none⟩) 0 0) 0 size [] :=
  ⟨by simp, .inr ⟨k, 0, 0, rfl, Nat.le_refl _, hk, fun j u h => by simp at h⟩⟩
/-- an owned row while another block is written, whatever comes behind -/
theorem owns_touch {w w' : World} {base : Nat} {e : TypeId} {size : Nat} {v : Value} {n : Nat} {xs : List Value} {b : Nat} (h : w.ownsRow base e size v n xs) (hb : Touch b w w') (hlt : b < base) : w'.ownsRow base e size v n xs := by
  refine ⟨h.1, ?_⟩
  rcases h.2 with h2 | ⟨g, cap, cur, hv, hbb, hg, r⟩
  · exact .inl h2
  · exact .inr ⟨g, cap, cur, hv, hbb, (hb.block g (lt_of_block hg) (by omega)).trans hg, r⟩
theorem owns_ext {w w' : World} {base : Nat} {e : TypeId} {size : Nat} {v : Value} {n : Nat} {xs : List Value} (h : w.ownsRow base e size v n xs) (hb : Below w.heap.size w w') : w'.ownsRow base e size v n xs := by
  refine ⟨h.1, ?_⟩
  rcases h.2 with h2 | ⟨g, cap, cur, hv, hbb, hg, r⟩
  · exact .inl h2
  · exact .inr ⟨g, cap, cur, hv, hbb, (hb.block g (lt_of_block hg)).trans hg, r⟩
/-- behind an append to the call's own row: all else is as it was -/
theorem Blk.grown {w w' : World} {row : Option Nat} {b : Nat} {cs : Array Value} {t : TypeId} (h : Blk w b cs t) (hg : w.grownBy w' row) (hn : row ≠ some b) : Blk w' b cs t := (hg.block b h.lt (Ne.symm hn)).trans h
theorem own_ne {w : World} {base : Nat} {e : TypeId} {size : Nat} {v : Value} {n : Nat} {xs : List Value} (h : w.ownsRow base e size v n xs) {b : Nat} (hb : b < base) : v.ownBlock ≠ some b := fun e => by
  have := (h.lt b e).1; omega
theorem Touch.grown {b : Nat} {x y z : World} {row : Option Nat} (h : Touch b x y) (hg : y.grownBy z row) (hr : ∀ k, row = some k → x.heap.size ≤ k) : Touch b x z :=
  ⟨hg.os.trans h.os, hg.tape.trans h.tape, hg.output.trans h.output, Nat.le_trans h.size hg.size, fun k hk hn =>
    (hg.block k (Nat.lt_of_lt_of_le hk h.size) (fun e => by have := hr k e.symm; omega)).trans (h.block k hk hn)⟩

/-- the cells of a block that has just been laid -/
theorem cells_new (w : World) (cs : List Value) (t : TypeId) {k : Nat} (hk : k = w.heap.size) : ∀ j u, cs[j]? = some u → (w.alloc (.cells cs.toArray t)).cell? ((⟨k, 0, none⟩ : Addr).add j) = some u := by
  intro j u hj
  have hadd : (⟨k, 0, none⟩ : Addr).add j = ⟨k, j, none⟩ := by unfold Addr.add; split <;> simp_all
  rw [hadd]
  exact (Blk.newAt hk cs.toArray t).cell j (by simpa using hj)

end Go.Proofs.YtnoieobjfihbeaaDoor

namespace Go.Proofs.YtnoieobjfihbeaaDoor
open Go.RowKit Go.Sort

theorem digits_at {k : Nat} (hk : k < 10) : (⟨#[48, 49, 50, 51, 52, 53, 54, 55, 56, 57]⟩ : ByteArray).extract k (k + 1) = ⟨#[UInt8.ofNat (48 + k)]⟩ := by
  have hc : k = 0 ∨ k = 1 ∨ k = 2 ∨ k = 3 ∨ k = 4 ∨ k = 5 ∨ k = 6 ∨ k = 7 ∨ k = 8 ∨ k = 9 := by omega
  rcases hc with rfl | rfl | rfl | rfl | rfl | rfl | rfl | rfl | rfl | rfl <;> rfl
theorem dec_short {n : Nat} (h : n < 9223372036854775808) : (⟨(Go.Lib.decDigits n).toArray⟩ : ByteArray).size ≤ 21 := by
  have h1 := Go.Lib.itoa_length_le (n : Int) (by omega) (by omega)
  rw [Go.Lib.itoa_nonneg] at h1
  show (Go.Lib.decDigits n).toArray.size ≤ 21
  simpa using h1
set_option maxHeartbeats 2000000 in
theorem rtext_u : ∀ n : Nat, n < 9223372036854775808 → ∀ w : World, Calls Tryd.prog 67 #[.int .u64 n] w fun e w' => e = .returned (.string ⟨(Go.Lib.decDigits n).toArray⟩) ∧ Below w.heap.size w w' := by
  intro n
  induction n using Nat.strongRecOn with
  | _ n ih =>
    intro hn w
    have hk : n % 10 < 10 := Nat.mod_lt _ (by decide)
    have hdig := digits_at hk
    by_cases h : n < 10
    · have hnI : (n : Int) < 10 := by omega
      go_enter Tryd.func67, Tryd.ntmps67
      go_wp2_with fail
      go_ret
      refine ⟨?_, Below.refl _ _⟩
      rw [hdig, Nat.mod_eq_of_lt h, Go.Lib.decDigits_one h]
      rfl
    · have hnI : ¬ (n : Int) < 10 := by omega
      have hrec := hid (show ∀ w : World, Calls Tryd.prog 67 #[.int .u64 ((n : Int) / 10)] w fun e w' => e = .returned (.string ⟨(Go.Lib.decDigits (n / 10)).toArray⟩) ∧ Below w.heap.size w w' from by
        have h1 := ih (n / 10) (by omega) (by omega)
        rwa [show (((n / 10 : Nat)) : Int) = (n : Int) / 10 by omega] at h1)
      have hlen := dec_short (n := n / 10) (by omega)
      have hdd : Hid (⟨(Go.Lib.decDigits n).toArray⟩ = (⟨(Go.Lib.decDigits (n / 10)).toArray⟩ : ByteArray) ++ ⟨#[UInt8.ofNat (48 + n % 10)]⟩) := hid (by
        rw [Go.Lib.decDigits.eq_1 n, dif_neg h]
        apply ByteArray.ext
        simp)
      rw [hdd.out]
      generalize (⟨(Go.Lib.decDigits (n / 10)).toArray⟩ : ByteArray) = a at *
      have hd1 : (⟨#[UInt8.ofNat (48 + n % 10)]⟩ : ByteArray).size = 1 := rfl
      rw [← hdig] at hd1 ⊢
      have hcat : ¬ (9223372036854775807 : Int) < (a.size : Int) + (((⟨#[48, 49, 50, 51, 52, 53, 54, 55, 56, 57]⟩ : ByteArray).extract (n % 10) (n % 10 + 1)).size : Int) := by rw [hd1]; omega
      have p1 : IntKind.i64.wrap ((n : Int) % 10 + 1) = (n : Int) % 10 + 1 := IntWalk.i64_in _ (by omega)
      have k0 : (0 : Int) ≤ (n : Int) % 10 := by omega
      have k1 : (n : Int) % 10 ≤ (n : Int) % 10 + 1 := by omega
      have k2 : (n : Int) % 10 + 1 ≤ 10 := by omega
      have q1 : IntKind.u64.wrap ((n : Int) / 10) = (n : Int) / 10 := by rw [IntKind.wrap_u64]; omega
      have hcat2 : ¬ (9223372036854775807 < a.size + (((n : Int) % 10 + 1).toNat - ((n : Int) % 10).toNat)) := by omega
      clear ih hdd
      go_enter Tryd.func67, Tryd.ntmps67
      go_upto_region 5 with (fail)
      go_region_held3 (fun _ => True) (trivial) (first
        | ((go_at_call 67
            with_reducible refine (hrec.out _).mono ?_
            rintro e w1 ⟨rfl, hb1⟩
            have Q1 := hid hb1
            clear hb1)))
      all_goals
        go_wp2_with fail
        go_ret
        refine ⟨?_, bthen (Below.refl _ w).drew Q1.out⟩
        rw [hdig]
        have t0 : ((n : Int) % 10).toNat = n % 10 := by omega
        have t1 : ((n : Int) % 10 + 1).toNat = n % 10 + 1 := by omega
        simp
        rw [t0, t1, hdig]
        simp

end Go.Proofs.YtnoieobjfihbeaaDoor
