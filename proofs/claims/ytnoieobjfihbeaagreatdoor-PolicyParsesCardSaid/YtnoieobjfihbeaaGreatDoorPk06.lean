/-
  The form of declarations as plain Lean, and: it is read as it was, but for places. No program.
  The walks of package lex: bytes, the reader's methods.
  The walks of package lex: skip, begin, End, Word, Name, number.
-/
import Derived.Test.YtnoieobjfihbeaaGreatDoorPk02
import Derived.Test.YtnoieobjfihbeaaGreatDoorPk03
import Derived.Test.YtnoieobjfihbeaaGreatDoorPk05
import Derived.Lib.ItoaNum
import Derived.Test.YtnoieobjfihbeaaGreatDoorPk01

namespace Go.Proofs.YtnoieobjfihbeaaGreatDoor.Pt
open Lx Po

/-! ### the form -/
def put (ws : List Bytes) : Bytes := ws.flatMap fun s => 32 :: s
def whoB (all : Bytes) (w : Who) : Bytes := if w.any then all else if w.name.data.toList = [] then Go.Lib.itoa w.n else w.name.data.toList
def tiersB (lo hi : Int) : Bytes := if lo = 0 ∧ hi = 7 then wAny else if lo = hi then Go.Lib.itoa lo else Go.Lib.itoa lo ++ ([46, 46] ++ Go.Lib.itoa hi)
def boxB (b : Box) : Bytes := put [Go.Lib.itoa b.x0, Go.Lib.itoa b.y0, Go.Lib.itoa b.x1, Go.Lib.itoa b.y1]
def plusB (b : Box) : Bytes := put [[43]] ++ boxB b
def boxesB : List Box → Bytes
  | [] => []
  | b :: l => boxB b ++ l.flatMap plusB
def restB (d : Decl) : Bytes :=
  if d.kind = 1 ∨ d.kind = 2 then put [d.name.data.toList, [61], Go.Lib.itoa d.n]
  else if d.kind = 3 then put [d.name.data.toList, [61]] ++ boxesB d.boxes
  else if d.kind = 6 then put [wRole] ++ put [whoB wAny d.role]
  else put [wRole] ++ (put [whoB wAny d.role] ++ (put [wTier] ++ (put [tiersB d.lo d.hi] ++ (put [wLabel] ++ (put [whoB wAny d.label] ++ (put [wIn] ++ (put [whoB wAll d.place] ++ put [wZoom, Go.Lib.itoa d.zoom])))))))
def firstB (k : Int) : Bytes := if k = 1 then wRole else if k = 2 then wLabel else if k = 3 then wRegion else if k = 4 then wAllow else if k = 5 then wCap else if k = 6 then wCloak else []
def lineB (d : Decl) : Bytes := firstB d.kind ++ (restB d ++ [59, 10])
def printB (l : List Decl) : Bytes := if l.all Ru.may then l.flatMap lineB else []

/-! ### tokens, each with what stands behind it -/
abbrev G := T3 × Bytes
def bl : Bytes := [32]
def numG (n : Int) (z : Bytes) : G := ((3, Go.Lib.itoa n, n.toNat), z)
def markG (x z : Bytes) : G := ((4, x, 0), z)
def wordG (x z : Bytes) : G := ((2, x, 0), z)
def nameG (x z : Bytes) : G := ((1, x, 0), z)
def whoG (all : Bytes) (w : Who) (z : Bytes) : G := if w.any then wordG all z else if w.name.data.toList = [] then numG w.n z else nameG w.name.data.toList z
def tiersG (lo hi : Int) (z : Bytes) : List G := if lo = 0 ∧ hi = 7 then [wordG wAny z] else if lo = hi then [numG lo z] else [numG lo [], markG [46, 46] [], numG hi z]
def boxG (b : Box) (z : Bytes) : List G := [numG b.x0 bl, numG b.y0 bl, numG b.x1 bl, numG b.y1 z]
def boxesG : Box → List Box → List G
  | b, [] => boxG b []
  | b, c :: l => boxG b bl ++ markG [43] bl :: boxesG c l
def boxesG0 : List Box → List G
  | [] => []
  | b :: l => boxesG b l
def restG (d : Decl) : List G :=
  if d.kind = 1 ∨ d.kind = 2 then [nameG d.name.data.toList bl, markG [61] bl, numG d.n []]
  else if d.kind = 3 then nameG d.name.data.toList bl :: markG [61] bl :: boxesG0 d.boxes
  else if d.kind = 6 then [wordG wRole bl, whoG wAny d.role []]
  else wordG wRole bl :: whoG wAny d.role bl :: wordG wTier bl :: (tiersG d.lo d.hi bl ++ [wordG wLabel bl, whoG wAny d.label bl, wordG wIn bl, whoG wAll d.place bl, wordG wZoom bl, numG d.zoom []])
def endG : List G := [markG [59] [10]]
def declG (d : Decl) : List G := wordG (firstB d.kind) bl :: (restG d ++ endG)
def glue (l : List G) : Bytes := l.flatMap fun g => g.1.2.1 ++ g.2
theorem glue_cons (g : G) (l : List G) : glue (g :: l) = g.1.2.1 ++ (g.2 ++ glue l) := by unfold glue; rw [List.flatMap_cons, List.append_assoc]
theorem glue_app (l m : List G) : glue (l ++ m) = glue l ++ glue m := by unfold glue; rw [List.flatMap_append]
theorem glue_nil : glue [] = [] := rfl
theorem put_cons (s : Bytes) (l : List Bytes) : put (s :: l) = 32 :: (s ++ put l) := rfl
theorem whoG_text (all : Bytes) (w : Who) (z : Bytes) : (whoG all w z).1.2.1 = whoB all w ∧ (whoG all w z).2 = z := by
  unfold whoG whoB
  split
  · exact ⟨rfl, rfl⟩
  · split <;> exact ⟨rfl, rfl⟩
theorem tiersG_text (lo hi : Int) (z : Bytes) : glue (tiersG lo hi z) = tiersB lo hi ++ z := by
  unfold tiersG tiersB
  split
  · simp [glue, wordG]
  · split
    · simp [glue, numG]
    · simp [glue, numG, markG]
theorem boxG_text (b : Box) (z : Bytes) : 32 :: glue (boxG b z) = boxB b ++ z := by simp [glue, boxG, boxB, put, numG, bl]
theorem boxesG_text (l : List Box) : ∀ b : Box, 32 :: glue (boxesG b l) = boxB b ++ l.flatMap plusB := by
  induction l with
  | nil => intro b; unfold boxesG; rw [boxG_text]; simp
  | cons c l ih =>
    intro b
    unfold boxesG
    rw [glue_app, ← List.cons_append, boxG_text, glue_cons, List.flatMap_cons]
    rw [show plusB c = put [[43]] ++ boxB c from rfl, List.append_assoc, List.append_assoc, ← ih c]
    simp [put, bl, markG]
theorem boxesG0_text {l : List Box} (h : l ≠ []) : 32 :: glue (boxesG0 l) = boxesB l := by
  cases l with
  | nil => exact absurd rfl h
  | cons b l => exact boxesG_text l b

/-! ### which tokens are read -/
def Free (t : T3) : Prop := ∀ rest, tok (t.2.1 ++ rest) = .ok t ∧ skipN false (t.2.1 ++ rest) = 0
def Good : List G → Prop
  | [] => True
  | g :: l => Plain g.1 ∧ (Sep g.2 ∨ (g.2 = [] ∧ (Free g.1 ∨ hdIs inner (glue l) = false))) ∧ Good l
theorem sep_bl : Sep bl := sep_blank
theorem sep_nl : Sep [10] := ⟨fun x => skip10 x, fun _x => rfl⟩
theorem lexL_free {f : Nat} {t : T3} {rest : Bytes} (h : Free t) (h1 : 0 < t.2.1.length) : lexL (f + 1) (t.2.1 ++ rest) = (lexL f rest).map (t :: ·) := by
  obtain ⟨h3, h4⟩ := h rest
  obtain ⟨k, t, n⟩ := t
  simp only at *
  simp only [lexL]
  rw [h4, if_neg (by rw [List.length_append]; omega), List.drop_zero, h3]
  simp only [Nat.zero_add, List.drop_left]
theorem lexL_good (l : List G) : ∀ f : Nat, l.length ≤ f → Good l → lexL f (glue l) = .ok (l.map (·.1)) := by
  induction l with
  | nil => intro f _ _; cases f <;> rfl
  | cons g l ih =>
    intro f hf h
    simp only [List.length_cons] at hf
    obtain ⟨f, rfl⟩ : ∃ k, f = k + 1 := ⟨f - 1, by omega⟩
    obtain ⟨h1, h2, h3⟩ := h
    rw [glue_cons]
    have hl : lexL f (g.2 ++ glue l) = lexL f (glue l) := by
      rcases h2 with h2 | ⟨h2, _⟩
      · exact lexL_sep h2
      · rw [h2, List.nil_append]
    have hs : lexL (f + 1) (g.1.2.1 ++ (g.2 ++ glue l)) = (lexL f (g.2 ++ glue l)).map (g.1 :: ·) := by
      rcases h2 with h2 | ⟨h2, h4 | h4⟩
      · exact lexL_one h1 (h2.head _)
      · exact lexL_free h4 h1.1
      · exact lexL_one h1 (by rw [h2, List.nil_append]; exact h4)
    rw [hs, hl, ih f (by omega) h3]
    rfl

/-! ### the tokens are good -/
theorem plain_mark {x : Bytes} (h : x = [61] ∨ x = [43] ∨ x = [59] ∨ x = [46, 46]) : Plain (4, x, 0) ∧ Free (4, x, 0) := by
  rcases h with rfl | rfl | rfl | rfl
  · exact ⟨plain_of_tok (l := [61]) rfl, fun rest => ⟨rfl, rfl⟩⟩
  · exact ⟨plain_of_tok (l := [43]) rfl, fun rest => ⟨rfl, rfl⟩⟩
  · exact ⟨plain_of_tok (l := [59]) rfl, fun rest => ⟨rfl, rfl⟩⟩
  · exact ⟨plain_of_tok (l := [46, 46]) rfl, fun rest => ⟨rfl, rfl⟩⟩
theorem word_tok : ∀ w ∈ words, tok w = .ok (2, w, 0) := by
  intro w hw
  unfold words at hw
  simp only [List.mem_cons, List.not_mem_nil, or_false] at hw
  rcases hw with rfl | rfl | rfl | rfl | rfl | rfl | rfl | rfl | rfl | rfl | rfl <;> rfl
theorem plain_word {x : Bytes} (h : x ∈ words) : Plain (2, x, 0) := plain_of_tok (word_tok x h)
theorem plain_name {x : Bytes} (h : isName x = true) : Plain (1, x, 0) := by
  refine plain_of_tok (l := x) ?_
  cases x with
  | nil => cases h
  | cons c l =>
    simp only [isName, Bool.and_eq_true, decide_eq_true_eq, Bool.not_eq_true'] at h
    obtain ⟨⟨⟨h1, h2⟩, h3⟩, h4⟩ := h
    have e : (c :: l).takeWhile inner = c :: l := by
      have := takeWhile_app (p := inner) (rest := []) h3 rfl
      rwa [List.append_nil] at this
    rw [tok_cons, if_pos h2, e, if_neg (by omega), h4]
    rfl
theorem digit_of {c : UInt8} {k : Nat} (hk : k < 10) (h : c = UInt8.ofNat (48 + k)) : c.toNat = 48 + k ∧ digit c = true := by
  have e : c.toNat = 48 + k := by rw [h, UInt8.toNat_ofNat']; omega
  refine ⟨e, ?_⟩
  unfold digit
  simp only [Bool.and_eq_true, decide_eq_true_eq, UInt8.le_iff_toNat_le]
  rw [e]
  exact ⟨by show 48 ≤ 48 + k; omega, by show 48 + k ≤ 57; omega⟩
theorem dec_props (u : Nat) : (Go.Lib.decDigits u).all digit = true ∧ numAcc 0 (Go.Lib.decDigits u) = u ∧ 0 < (Go.Lib.decDigits u).length ∧ (0 < u → (Go.Lib.decDigits u).head? ≠ some 48) ∧ (u < 10 → (Go.Lib.decDigits u).length = 1) := by
  induction u using Nat.strongRecOn with
  | _ u ih =>
    by_cases h : u < 10
    · obtain ⟨h1, h2⟩ := digit_of h (c := UInt8.ofNat (48 + u)) rfl
      rw [Go.Lib.decDigits, dif_pos h]
      generalize UInt8.ofNat (48 + u) = c at *
      refine ⟨by simp [h2], ?_, by simp, fun h0 => ?_, fun _ => rfl⟩
      · show 10 * 0 + (c.toNat - 48) = u
        omega
      · intro hc
        simp only [List.head?_cons, Option.some.injEq] at hc
        rw [hc] at h1
        have : (48 : UInt8).toNat = 48 := rfl
        omega
    · obtain ⟨i1, i2, i3, i4, _⟩ := ih (u / 10) (by omega)
      obtain ⟨h1, h2⟩ := digit_of (k := u % 10) (by omega) (c := UInt8.ofNat (48 + u % 10)) rfl
      rw [Go.Lib.decDigits, dif_neg h]
      generalize UInt8.ofNat (48 + u % 10) = c at *
      refine ⟨by simp [i1, h2], ?_, by simp, fun h0 => ?_, fun h0 => absurd h0 h⟩
      · unfold numAcc at i2 ⊢
        rw [List.foldl_append, i2]
        simp only [List.foldl_cons, List.foldl_nil, h1]
        omega
      · have := i4 (by omega)
        generalize Go.Lib.decDigits (u / 10) = q at *
        cases q with
        | nil => simp at i3
        | cons c q => simpa using this
theorem itoa_tok {n : Int} (h0 : 0 ≤ n) (h1 : n ≤ 65535) : tok (Go.Lib.itoa n) = .ok (3, Go.Lib.itoa n, n.toNat) := by
  obtain ⟨u, rfl⟩ : ∃ u : Nat, n = u := ⟨n.toNat, by omega⟩
  have e : Go.Lib.itoa (u : Int) = Go.Lib.decDigits u := by unfold Go.Lib.itoa; rw [if_neg (by omega)]; simp
  obtain ⟨d1, d2, d3, d4, d5⟩ := dec_props u
  have hnum : number (Go.Lib.decDigits u) = some u := by
    unfold number
    rw [d2, if_neg]
    rintro (⟨h2, h3⟩ | h2)
    · by_cases h10 : u < 10
      · have := d5 h10; omega
      · exact d4 (by omega) h3
    · omega
  rw [e]
  have ht : ((u : Int).toNat) = u := by simp
  rw [ht]
  generalize Go.Lib.decDigits u = q at *
  cases q with
  | nil => simp at d3
  | cons c l =>
    have hd : digit c = true := by simp only [List.all_cons, Bool.and_eq_true] at d1; exact d1.1
    have hl : letter c = false := by
      unfold digit at hd
      unfold letter
      simp only [Bool.and_eq_true, decide_eq_true_eq, UInt8.le_iff_toNat_le] at hd
      have h57 : c.toNat ≤ 57 := hd.2
      simp only [Bool.and_eq_false_iff, decide_eq_false_iff_not, UInt8.le_iff_toNat_le]
      left
      show ¬ 97 ≤ c.toNat
      omega
    have e2 : (c :: l).takeWhile digit = c :: l := by
      have := takeWhile_app (p := digit) (rest := []) d1 rfl
      rwa [List.append_nil] at this
    rw [tok_cons, if_neg (by rw [hl]; decide), if_pos hd, e2, hnum]
theorem plain_num {n : Int} (h : Ru.num n = true) : Plain (3, Go.Lib.itoa n, n.toNat) := by
  unfold Ru.num at h
  simp only [Bool.and_eq_true, decide_eq_true_eq] at h
  exact plain_of_tok (itoa_tok h.1 h.2)
theorem itoa_word {n : Int} (h : Ru.num n = true) {x : Bytes} (hx : x ∈ words) : Go.Lib.itoa n ≠ x := by
  unfold Ru.num at h
  simp only [Bool.and_eq_true, decide_eq_true_eq] at h
  intro e
  have h1 := itoa_tok h.1 h.2
  rw [e, word_tok x hx] at h1
  cases h1
theorem name_word {s : Bytes} (h : isName s = true) {x : Bytes} (hx : x ∈ words) : s ≠ x := by
  rintro rfl
  have : isWord s = true := by unfold isWord; exact List.contains_iff_mem.2 hx
  rw [word_isName this] at h
  cases h

theorem good_sep {g : G} {l : List G} (h : Plain g.1) (hs : Sep g.2) (hl : Good l) : Good (g :: l) := ⟨h, .inl hs, hl⟩
theorem good_mark {x z : Bytes} {l : List G} (h : x = [61] ∨ x = [43] ∨ x = [59] ∨ x = [46, 46]) (hz : Sep z ∨ z = []) (hl : Good l) : Good (markG x z :: l) := by
  obtain ⟨h1, h2⟩ := plain_mark h
  refine ⟨h1, ?_, hl⟩
  rcases hz with hz | hz
  · exact .inl hz
  · exact .inr ⟨hz, .inl h2⟩
theorem good_end {g : G} {x z : Bytes} {l : List G} (h : Plain g.1) (hz : g.2 = []) (hx : x = [59] ∨ x = [46, 46]) (hl : Good (markG x z :: l)) : Good (g :: markG x z :: l) := by
  refine ⟨h, .inr ⟨hz, .inr ?_⟩, hl⟩
  rw [glue_cons]
  rcases hx with rfl | rfl <;> rfl
theorem good_who {all : Bytes} (ha : all ∈ words) {w : Who} (h : Ru.rightW w = true) (z : Bytes) : Plain (whoG all w z).1 := by
  unfold Ru.rightW at h
  unfold whoG
  split
  · exact plain_word ha
  · rename_i hn
    rw [if_neg hn] at h
    split
    · rename_i he
      rw [if_pos (by rw [he]; rfl)] at h
      exact plain_num h
    · rename_i he
      rw [if_neg (by simpa using he)] at h
      simp only [Bool.and_eq_true] at h
      exact plain_name h.2
theorem good_tiers {lo hi : Int} (h1 : Ru.num lo = true) (h2 : Ru.num hi = true) {l : List G} (hl : Good l) : Good (tiersG lo hi bl ++ l) := by
  unfold tiersG
  split
  · exact good_sep (plain_word (by decide)) sep_bl hl
  · split
    · exact good_sep (plain_num h1) sep_bl hl
    · exact good_end (plain_num h1) rfl (.inr rfl) (good_mark (by simp) (.inr rfl) (good_sep (plain_num h2) sep_bl hl))
theorem good_boxes (m : List G) (hm : Good (markG [59] [10] :: m)) (l : List Box) : ∀ b : Box, (∀ c ∈ b :: l, Ru.boxN c = true) → Good (boxesG b l ++ markG [59] [10] :: m) := by
  induction l with
  | nil =>
    intro b h
    have hb := h b List.mem_cons_self
    simp only [Ru.boxN, Bool.and_eq_true] at hb
    unfold boxesG boxG
    exact good_sep (plain_num hb.1.1.1) sep_bl (good_sep (plain_num hb.1.1.2) sep_bl (good_sep (plain_num hb.1.2) sep_bl (good_end (plain_num hb.2) rfl (.inl rfl) hm)))
  | cons c l ih =>
    intro b h
    have hb := h b List.mem_cons_self
    simp only [Ru.boxN, Bool.and_eq_true] at hb
    unfold boxesG boxG
    exact good_sep (plain_num hb.1.1.1) sep_bl (good_sep (plain_num hb.1.1.2) sep_bl (good_sep (plain_num hb.1.2) sep_bl (good_sep (plain_num hb.2) sep_bl (good_mark (by simp) (.inl sep_bl) (ih c (fun x hx => h x (List.mem_cons_of_mem _ hx)))))))

/-- what a declaration that may be has, by its kind -/
inductive May (d : Decl) : Prop
  | named (h : d.kind = 1 ∨ d.kind = 2) (hn : isName d.name.data.toList = true) (hi : Ru.num d.n = true) (hb : d.boxes = []) (hr : Ru.zeroW d.role = true) (hz : Ru.noRule d = true) : May d
  | region (h : d.kind = 3) (hn : isName d.name.data.toList = true) (hi : d.n = 0) (hb : ∀ b ∈ d.boxes, Ru.boxN b = true) (h0 : d.boxes ≠ []) (hr : Ru.zeroW d.role = true) (hz : Ru.noRule d = true) : May d
  | rule (h : d.kind = 4 ∨ d.kind = 5) (hn : d.name.data.toList = []) (hi : d.n = 0) (hb : d.boxes = []) (hr : Ru.rightW d.role = true) (h1 : Ru.num d.lo = true) (h2 : Ru.num d.hi = true) (h3 : Ru.num d.zoom = true) (hl : Ru.rightW d.label = true) (hp : Ru.placeW d.place = true) : May d
  | cloak (h : d.kind = 6) (hn : d.name.data.toList = []) (hi : d.n = 0) (hb : d.boxes = []) (hr : Ru.rightW d.role = true) (hz : Ru.noRule d = true) : May d
theorem nil_of {l : List Box} (h : ((l.length : Int) == 0) = true) : l = [] := by
  cases l with
  | nil => rfl
  | cons b l => simp only [List.length_cons, beq_iff_eq] at h; omega
theorem may_cases {d : Decl} (h : Ru.may d = true) : May d := by
  unfold Ru.may at h
  by_cases h12 : d.kind = 1 ∨ d.kind = 2
  · rw [if_pos h12] at h
    simp only [Bool.and_eq_true] at h
    exact .named h12 h.1.1.1.1 h.1.1.1.2 (nil_of h.1.1.2) h.1.2 h.2
  · rw [if_neg h12] at h
    by_cases h3 : d.kind = 3
    · rw [if_pos h3] at h
      simp only [Bool.and_eq_true, Ru.boxesN, List.all_eq_true, decide_eq_true_eq, beq_iff_eq] at h
      exact .region h3 h.1.1.1.1 h.1.1.1.2 h.1.1.2.1 (by intro e; have := h.1.1.2.2; rw [e] at this; simp at this) h.1.2 h.2
    · rw [if_neg h3] at h
      by_cases h45 : d.kind = 4 ∨ d.kind = 5
      · rw [if_pos h45] at h
        simp only [Bool.and_eq_true, Ru.noName, Ru.ruleD, beq_iff_eq] at h
        exact .rule h45 h.1.1.1 h.1.1.2 (nil_of (by simpa using h.1.2)) h.2.1.1.1 h.2.1.1.2.1.1 h.2.1.1.2.1.2 h.2.1.1.2.2 h.2.1.2 h.2.2
      · rw [if_neg h45] at h
        by_cases h6 : d.kind = 6
        · rw [if_pos h6] at h
          simp only [Bool.and_eq_true, Ru.noName, beq_iff_eq] at h
          exact .cloak h6 h.1.1.1.1 h.1.1.1.2 (nil_of (by simpa using h.1.1.2)) h.1.2 h.2
        · rw [if_neg h6] at h; cases h
theorem place_right {w : Who} (h : Ru.placeW w = true) : Ru.rightW w = true := by unfold Ru.placeW at h; simp only [Bool.and_eq_true] at h; exact h.1
theorem first_word {k : Int} (h : 1 ≤ k) (h6 : k ≤ 6) : firstB k ∈ words := by
  unfold firstB
  repeat' split
  all_goals first | decide | omega
theorem good_decl {d : Decl} (h : Ru.may d = true) {m : List G} (hm : Good m) : Good (declG d ++ m) := by
  have hend : Good (markG [59] [10] :: m) := good_mark (by simp) (.inl sep_nl) hm
  have hm' := may_cases h
  unfold declG restG
  have hf : firstB d.kind ∈ words := by cases hm' <;> exact first_word (by omega) (by omega)
  refine good_sep (plain_word hf) sep_bl ?_
  show Good ((_ ++ endG) ++ m)
  rw [List.append_assoc]
  show Good (_ ++ markG [59] [10] :: m)
  cases hm' with
  | named h hn hi hb hr hz =>
    rw [if_pos h]
    exact good_sep (plain_name hn) sep_bl (good_mark (by simp) (.inl sep_bl) (good_end (plain_num hi) rfl (.inl rfl) hend))
  | region h hn hi hb h0 hr hz =>
    rw [if_neg (by omega), if_pos h]
    refine good_sep (plain_name hn) sep_bl (good_mark (by simp) (.inl sep_bl) ?_)
    cases hbx : d.boxes with
    | nil => exact absurd hbx h0
    | cons b l => exact good_boxes m hend l b (by rw [← hbx]; exact hb)
  | rule h hn hi hb hr h1 h2 h3 hl hp =>
    rw [if_neg (by omega), if_neg (by omega), if_neg (by omega)]
    refine good_sep (plain_word (by decide)) sep_bl (good_sep (good_who (by decide) hr bl) (by rw [(whoG_text _ _ _).2]; exact sep_bl) (good_sep (plain_word (by decide)) sep_bl ?_))
    show Good ((_ ++ _) ++ _)
    rw [List.append_assoc]
    exact good_tiers h1 h2 (good_sep (plain_word (by decide)) sep_bl (good_sep (good_who (by decide) hl bl) (by rw [(whoG_text _ _ _).2]; exact sep_bl) (good_sep (plain_word (by decide)) sep_bl (good_sep (good_who (by decide) (place_right hp) bl) (by rw [(whoG_text _ _ _).2]; exact sep_bl) (good_sep (plain_word (by decide)) sep_bl (good_end (plain_num h3) rfl (.inl rfl) hend))))))
  | cloak h hn hi hb hr hz =>
    rw [if_neg (by omega), if_neg (by omega), if_pos h]
    exact good_sep (plain_word (by decide)) sep_bl (good_end (good_who (by decide) hr []) (whoG_text _ _ _).2 (.inl rfl) hend)
theorem decl_text {d : Decl} (h : Ru.may d = true) : glue (declG d) = lineB d := by
  have hm' := may_cases h
  unfold declG restG lineB restB
  rw [glue_cons, glue_app]
  show firstB d.kind ++ (bl ++ (_ ++ glue endG)) = _
  have e0 : glue endG = [59, 10] := rfl
  rw [e0, ← List.append_assoc bl]
  congr 2
  show 32 :: glue _ = _
  cases hm' with
  | named h hn hi hb hr hz =>
    rw [if_pos h, if_pos h]
    simp [glue, nameG, markG, numG, put, bl]
  | region h hn hi hb h0 hr hz =>
    rw [if_neg (by omega), if_pos h, if_neg (by omega), if_pos h, ← boxesG0_text h0]
    simp [glue_cons, nameG, markG, put, bl]
  | rule h hn hi hb hr h1 h2 h3 hl hp =>
    rw [if_neg (by omega), if_neg (by omega), if_neg (by omega), if_neg (by omega), if_neg (by omega), if_neg (by omega)]
    simp only [glue_cons, glue_app, glue_nil, (whoG_text _ _ _).1, (whoG_text _ _ _).2, tiersG_text]
    simp [wordG, numG, put, bl]
  | cloak h hn hi hb hr hz =>
    rw [if_neg (by omega), if_neg (by omega), if_pos h, if_neg (by omega), if_neg (by omega), if_pos h]
    simp only [glue_cons, glue_nil, (whoG_text _ _ _).1, (whoG_text _ _ _).2]
    simp [wordG, put, bl]
def allG (l : List Decl) : List G := l.flatMap declG
theorem all_good (l : List Decl) (h : ∀ d ∈ l, Ru.may d = true) : Good (allG l) ∧ glue (allG l) = l.flatMap lineB := by
  induction l with
  | nil => exact ⟨trivial, rfl⟩
  | cons d l ih =>
    obtain ⟨h1, h2⟩ := ih (fun x hx => h x (List.mem_cons_of_mem _ hx))
    have hd := h d List.mem_cons_self
    unfold allG at *
    rw [List.flatMap_cons, List.flatMap_cons]
    exact ⟨good_decl hd h1, by rw [glue_app, decl_text hd, h2]⟩
theorem glue_ge (l : List G) (h : Good l) : l.length ≤ (glue l).length := by
  induction l with
  | nil => exact Nat.le_refl _
  | cons g l ih =>
    have := ih h.2.2
    have := h.1.1
    rw [glue_cons, List.length_cons, List.length_append, List.length_append]
    omega
/-- the form's tokens -/
theorem tokens_print {l : List Decl} (h : ∀ d ∈ l, Ru.may d = true) (hn : (l.flatMap lineB).length ≤ 512) : ∃ T, tokens (l.flatMap lineB) = .ok T ∧ T.map strip = (allG l).map (·.1) := by
  obtain ⟨h1, h2⟩ := all_good l h
  have hg := glue_ge _ h1
  rw [h2] at hg
  have h3 := lexL_good _ ((l.flatMap lineB).length + 1) (by omega) h1
  rw [h2] at h3
  have h4 := lexL_toks (l.flatMap lineB) ((l.flatMap lineB).length + 1) 0
  rw [List.drop_zero, h3] at h4
  unfold tokens
  rw [if_neg (by omega)]
  cases hk : toks (l.flatMap lineB) ((l.flatMap lineB).length + 1) 0 with
  | error x => rw [hk] at h4; obtain ⟨a, b, c⟩ := x; cases h4
  | ok T =>
    rw [hk] at h4
    exact ⟨T, rfl, (Except.ok.inj h4).symm⟩

end Go.Proofs.YtnoieobjfihbeaaGreatDoor.Pt

namespace Go.Proofs.YtnoieobjfihbeaaGreatDoor
open Go.RowKit Go.Sort

theorem u8_le (k : UInt8) (n : Int) (h : (k.toNat : Int) = n) (c : UInt8) : decide (k ≤ c) = decide (n ≤ c.toNat) := by
  subst h
  simp only [UInt8.le_iff_toNat_le, Int.ofNat_le]
theorem u8_ge (k : UInt8) (n : Int) (h : (k.toNat : Int) = n) (c : UInt8) : decide (c ≤ k) = decide ((c.toNat : Int) ≤ n) := by
  subst h
  simp only [UInt8.le_iff_toNat_le, Int.ofNat_le]
theorem u8_eq (k : UInt8) (n : Int) (h : (k.toNat : Int) = n) (c : UInt8) : (c == k) = ((c.toNat : Int) == n) := by
  subst h
  by_cases h' : c = k
  · subst h'; simp
  · have : c.toNat ≠ k.toNat := fun e => h' (UInt8.toNat_inj.1 e)
    rw [beq_eq_false_iff_ne.2 h', beq_eq_false_iff_ne.2 (by omega)]
theorem letter_eq (c : UInt8) : Lx.letter c = (decide ((97 : Int) ≤ c.toNat) && decide ((c.toNat : Int) ≤ 122)) := by
  unfold Lx.letter; rw [u8_le 97 97 rfl, u8_ge 122 122 rfl]
theorem digit_eq (c : UInt8) : Lx.digit c = (decide ((48 : Int) ≤ c.toNat) && decide ((c.toNat : Int) ≤ 57)) := by
  unfold Lx.digit; rw [u8_le 48 48 rfl, u8_ge 57 57 rfl]
theorem blank_eq (c : UInt8) : Lx.blank c = (((c.toNat : Int) == 32) || ((c.toNat : Int) == 10)) := by
  unfold Lx.blank; rw [u8_eq 32 32 rfl, u8_eq 10 10 rfl]

theorem letter_any (c : UInt8) (w : World) : Calls Tryz.prog 70 #[.int .u8 c.toNat] w fun e w' => e = .returned (.bool (Lx.letter c)) ∧ w = w' := by
  rw [letter_eq]
  go_enter Tryz.func70, Tryz.ntmps70
  go_wp2
  all_goals (go_ret; exact ⟨ret_bool (by first | rfl | (rw [Bool.eq_iff_iff]; simp; done) | (rw [Bool.eq_iff_iff]; simp; omega)), rfl⟩)
theorem digit_any (c : UInt8) (w : World) : Calls Tryz.prog 72 #[.int .u8 c.toNat] w fun e w' => e = .returned (.bool (Lx.digit c)) ∧ w = w' := by
  rw [digit_eq]
  go_enter Tryz.func72, Tryz.ntmps72
  go_wp2
  all_goals (go_ret; exact ⟨ret_bool (by first | rfl | (rw [Bool.eq_iff_iff]; simp; done) | (rw [Bool.eq_iff_iff]; simp; omega)), rfl⟩)
theorem blank_any (c : UInt8) (w : World) : Calls Tryz.prog 65 #[.int .u8 c.toNat] w fun e w' => e = .returned (.bool (Lx.blank c)) ∧ w = w' := by
  rw [blank_eq]
  go_enter Tryz.func65, Tryz.ntmps65
  go_wp2
  all_goals (go_ret; exact ⟨ret_bool (by first | rfl | (rw [Bool.eq_iff_iff]; simp; done) | (rw [Bool.eq_iff_iff]; simp; omega)), rfl⟩)
theorem is35_any (c : UInt8) (w : World) : Calls Tryz.prog 67 #[.int .u8 c.toNat] w fun e w' => e = .returned (.bool (c == 35)) ∧ w = w' := by
  rw [u8_eq 35 35 rfl]
  go_enter Tryz.func67, Tryz.ntmps67
  go_wp2
  all_goals (go_ret; exact ⟨rfl, rfl⟩)
theorem not10_any (c : UInt8) (w : World) : Calls Tryz.prog 68 #[.int .u8 c.toNat] w fun e w' => e = .returned (.bool (Lx.not10 c)) ∧ w = w' := by
  unfold Lx.not10
  rw [bne, u8_eq 10 10 rfl]
  go_enter Tryz.func68, Tryz.ntmps68
  go_wp2
  all_goals (go_ret; exact ⟨rfl, rfl⟩)
theorem all_any (c : UInt8) (w : World) : Calls Tryz.prog 33 #[.int .u8 c.toNat] w fun e w' => e = .returned (.bool ((fun _ => true) c)) ∧ w = w' := by
  go_enter Tryz.func33, Tryz.ntmps33
  go_wp2
  all_goals (go_ret; exact ⟨rfl, rfl⟩)
theorem inner_any (c : UInt8) (w : World) : Calls Tryz.prog 104 #[.int .u8 c.toNat] w fun e w' => e = .returned (.bool (Lx.inner c)) ∧ w = w' := by
  unfold Lx.inner
  rw [u8_eq 45 45 rfl]
  go_enter Tryz.func104, Tryz.ntmps104
  go_wp2_with (first | (go_at_call 70; refine (letter_any _ _).mono ?_; rintro e w' ⟨rfl, rfl⟩) | (go_at_call 72; refine (digit_any _ _).mono ?_; rintro e w' ⟨rfl, rfl⟩))
  all_goals (go_ret; exact ⟨ret_bool (by simp [*]), rfl⟩)

/-- the reader stands at byte i of s -/
def Rd (w : World) (b : Nat) (s : ByteArray) (i line col : Nat) : Prop := Blk w b #[.string s, .int .i64 i, .int .i64 line, .int .i64 col] 83
def RdP (w : World) (b : Nat) (s : ByteArray) (i : Nat) : Prop := Rd w b s i (Lx.posOf (s.data.toList.take i)).1 (Lx.posOf (s.data.toList.take i)).2

structure RdF (w : World) (b : Nat) (s : ByteArray) (i line col : Nat) : Prop where
  lt : b < w.heap.size
  c0 : w.cell? ⟨b, 0, none⟩ = some (.string s)
  c1 : w.cell? ⟨b, 1, none⟩ = some (.int .i64 i)
  c2 : w.cell? ⟨b, 2, none⟩ = some (.int .i64 line)
  c3 : w.cell? ⟨b, 3, none⟩ = some (.int .i64 col)
  f1 : w.frozen? ⟨b, 1, none⟩ = false
  f2 : w.frozen? ⟨b, 2, none⟩ = false
  f3 : w.frozen? ⟨b, 3, none⟩ = false
theorem Rd.f {w : World} {b : Nat} {s : ByteArray} {i line col : Nat} (h : Rd w b s i line col) : RdF w b s i line col :=
  ⟨Blk.lt h, Blk.cell h 0 rfl, Blk.cell h 1 rfl, Blk.cell h 2 rfl, Blk.cell h 3 rfl, Blk.free h 1, Blk.free h 2, Blk.free h 3⟩
theorem Rd.ext {w w' : World} {b : Nat} {s : ByteArray} {i line col : Nat} (h : Rd w b s i line col) (hb : Below w.heap.size w w') : Rd w' b s i line col := Blk.ext h hb
theorem RdP.ext {w w' : World} {b : Nat} {s : ByteArray} {i : Nat} (h : RdP w b s i) (hb : Below w.heap.size w w') : RdP w' b s i := Blk.ext h hb
theorem RdP.lt {w : World} {b : Nat} {s : ByteArray} {i : Nat} (h : RdP w b s i) : b < w.heap.size := Blk.lt h

theorem list_get (s : ByteArray) (i : Nat) (h : i < s.size) : s.data.toList[i]'(by simpa using h) = s[i] := rfl
theorem list_len (s : ByteArray) : s.data.toList.length = s.size := by simp

theorem step_any {b : Nat} {s : ByteArray} {i : Nat} {w : World} (hr : RdP w b s i) (hl : i < s.size) (hs : s.size ≤ 140737488355328) :
    Calls Tryz.prog 74 #[.pointer (some ⟨b, 0, none⟩)] w fun e w' => e = .returned (.tuple #[]) ∧ RdP w' b s (i + 1) ∧ Touch b w w' := by
  have hp := Lx.posOf_le (s.data.toList.take i)
  have ht : (s.data.toList.take i).length = i := by rw [List.length_take, list_len]; omega
  have hq := hid (Lx.posOf_succ (L := s.data.toList) (i := i) (by simpa using hl))
  rw [ht] at hp
  unfold RdP at hr ⊢
  generalize hg : Lx.posOf (s.data.toList.take i) = p at *
  obtain ⟨line, col⟩ := p
  simp only at hr hp
  clear hg ht
  have H := hid hr
  obtain ⟨hz, h0, h1, h2, h3, f1, f2, f3⟩ := hr.f
  clear hr
  go_enter Tryz.func74, Tryz.ntmps74
  go_wp2
  go_quiet (fail)
  go_wp2
  · have e : s[i] = 10 := by rename_i h; rw [← u8_eq 10 10 rfl] at h; simpa using h
    go_end0
    refine ⟨rfl, ?_, ((((Touch.refl b w).setCell 3 _).drewN nq).setCell 2 _ |>.setCell 3 _).setCell 1 _⟩
    rw [hq.out, list_get _ _ hl]
    simp only [Lx.adv, e, if_true]
    exact (((H.out.set 3 _).drewN nq).set 2 _ |>.set 3 _).set 1 _
  · have e : ¬ s[i] = 10 := by rename_i h; rw [← u8_eq 10 10 rfl] at h; simpa using h
    go_end0
    refine ⟨rfl, ?_, (((Touch.refl b w).setCell 3 _).drewN nq).setCell 1 _⟩
    rw [hq.out, list_get _ _ hl]
    simp only [Lx.adv, e, if_false]
    exact ((H.out.set 3 _).drewN nq).set 1 _

theorem place_any {b : Nat} {s : ByteArray} {i line col : Nat} {w : World} (hr : Rd w b s i line col) :
    Calls Tryz.prog 29 #[.pointer (some ⟨b, 0, none⟩)] w fun e w' => e = .returned (.agg #[.int .i64 line, .int .i64 col]) ∧ Below w.heap.size w w' := by
  obtain ⟨hz, h0, h1, h2, h3, f1, f2, f3⟩ := hr.f
  clear hr
  go_enter Tryz.func29, Tryz.ntmps29
  go_wp2
  go_region
  go_wp2
  exact bodyPost_ret (v := .agg #[.int .i64 line, .int .i64 col]) (by simp [results, Tryz.results29, go_sem]) rfl ⟨rfl, (balloc w _).drew⟩

/-- a contract of a function on bytes -/
structure Holds (g : Nat) (p : UInt8 → Bool) : Prop where
  enter : ∀ (args : Array Value) (w : World), Sem.run Tryz.prog (callFunc g args) w = .ok (.enter g args) w
  run : ∀ (c : UInt8) (w : World), Calls Tryz.prog g #[.int .u8 c.toNat] w fun e w' => e = .returned (.bool (p c)) ∧ w = w'
theorem holds_letter : Holds 70 Lx.letter := ⟨fun _ _ => by kernel_rfl, letter_any⟩
theorem holds_digit : Holds 72 Lx.digit := ⟨fun _ _ => by kernel_rfl, digit_any⟩
theorem holds_inner : Holds 104 Lx.inner := ⟨fun _ _ => by kernel_rfl, inner_any⟩
theorem holds_blank : Holds 65 Lx.blank := ⟨fun _ _ => by kernel_rfl, blank_any⟩
theorem holds_35 : Holds 67 (· == 35) := ⟨fun _ _ => by kernel_rfl, is35_any⟩
theorem holds_not10 : Holds 68 Lx.not10 := ⟨fun _ _ => by kernel_rfl, not10_any⟩
theorem holds_all : Holds 33 (fun _ => true) := ⟨fun _ _ => by kernel_rfl, all_any⟩

theorem more_any {b : Nat} {s : ByteArray} {i line col : Nat} {w : World} (g : Nat) {p : UInt8 → Bool} (hp : Holds g p) (hr : Rd w b s i line col) :
    Calls Tryz.prog 66 #[.pointer (some ⟨b, 0, none⟩), .func (.func g) #[] #[]] w fun e w' => e = .returned (.bool (Lx.hdIs p (s.data.toList.drop i))) ∧ Below w.heap.size w w' := by
  obtain ⟨hz, h0, h1, h2, h3, f1, f2, f3⟩ := hr.f
  clear hr
  by_cases hlt : i < s.size
  · rw [Lx.hdIs_lt (by simpa using hlt), list_get _ _ hlt]
    have hen := hp.enter
    have hru := hid hp.run
    clear hp
    go_enter Tryz.func66, Tryz.ntmps66
    go_wp2
    go_quiet ((exact Calls.quiet_of_same ((hru.out _ _).mono fun _ _ h => ⟨h.1, h.2.symm⟩)))
    go_wp2
    go_ret
    exact ⟨rfl, bdrewN (Below.refl _ _) _⟩
  · rw [Lx.hdIs_ge (by simpa using hlt)]
    have hd : decide (i < s.size) = false := by simpa using hlt
    go_enter Tryz.func66, Tryz.ntmps66
    go_wp2
    go_quiet (fail)
    go_wp2
    go_ret
    exact ⟨rfl, bdrewN (Below.refl _ _) _⟩

theorem while_any {b : Nat} {s : ByteArray} {i : Nat} {w : World} (g : Nat) {p : UInt8 → Bool} (hp : Holds g p) (hr : RdP w b s i) (hi : i ≤ s.size) (hs : s.size ≤ 140737488355328) :
    Calls Tryz.prog 32 #[.pointer (some ⟨b, 0, none⟩), .func (.func g) #[] #[]] w fun e w' =>
      e = .returned (.string (s.extract i (i + Lx.runN p (s.data.toList.drop i)))) ∧ RdP w' b s (i + Lx.runN p (s.data.toList.drop i)) ∧ Touch b w w' := by
  have hp' := hid hp
  have hr' := hid hr
  obtain ⟨hz, h0, h1, h2, h3, f1, f2, f3⟩ := Rd.f hr
  clear hp hr
  go_enter Tryz.func32, Tryz.ntmps32
  go_wp2
  go_loopg [12] (s.size - i) (fun k _ wr => ∃ j, i ≤ j ∧ j ≤ s.size ∧ k = s.size - j ∧ RdP wr b s j ∧ Touch b w wr ∧ j + Lx.runN p (s.data.toList.drop j) = i + Lx.runN p (s.data.toList.drop i))
  case atStart => exact ⟨i, Nat.le_refl _, hi, rfl, hr'.out, Touch.refl _ _, rfl⟩
  case round =>
    obtain ⟨j, hij, hjs, hk, hrj, htj, hsum⟩ := hrel
    have hsum' := hid hsum
    have hk' := hid hk
    have hrj' := hid hrj
    clear hsum hk
    go_wp2_with fail
    refine (more_any _ hp'.out hrj).mono ?_
    rintro e w1 ⟨rfl, hb1⟩
    have hr1 := hid (RdP.ext hrj hb1)
    clear hrj
    by_cases hh : Lx.hdIs p (s.data.toList.drop j) = true
    · have hlt : j < s.size := by simpa using Lx.lt_of_hdIs hh
      go_wp2_with fail
      refine (step_any hr1.out hlt hs).mono ?_
      rintro e w2 ⟨rfl, hr2, ht2⟩
      have hr2' := hid hr2
      clear hr2
      go_wp2_with fail
      go_roundg (s.size - (j + 1))
      case measure => have := hk'.out; omega
      case rel => exact ⟨j + 1, by omega, by omega, rfl, hr2'.out, (htj.below hb1).trans ht2, by have := Lx.runN_step hh; have := hsum'.out; omega⟩
    · have hh' : Lx.hdIs p (s.data.toList.drop j) = false := by simpa using hh
      have hz := Lx.runN_stop hh'
      have hsum := hsum'.out
      have hj : i + Lx.runN p (s.data.toList.drop i) = j := by omega
      clear hh hsum hz hsum'
      have hj' := hid hj
      clear hj
      obtain ⟨hz, g0, g1, g2, g3, k1, k2, k3⟩ := Rd.f hr1.out
      go_wp2
      go_quiet (fail)
      go_wp2
      go_ret
      rw [hj'.out]
      exact ⟨rfl, hr1.out.drewN _, (htj.below hb1).drewN _⟩

end Go.Proofs.YtnoieobjfihbeaaGreatDoor

namespace Go.Proofs.YtnoieobjfihbeaaGreatDoor
open Go.RowKit Go.Sort

theorem skip_any {b : Nat} {s : ByteArray} {i : Nat} {w : World} (hr : RdP w b s i) (hi : i ≤ s.size) (hs : s.size ≤ 140737488355328) :
    Calls Tryz.prog 30 #[.pointer (some ⟨b, 0, none⟩)] w fun e w' =>
      e = .returned (.tuple #[]) ∧ RdP w' b s (i + Lx.skipN false (s.data.toList.drop i)) ∧ Touch b w w' := by
  have hr' := hid hr
  clear hr
  go_enter Tryz.func30, Tryz.ntmps30
  go_wp2
  go_loopg [3] (s.size - i) (fun k _ wr => ∃ j, i ≤ j ∧ j ≤ s.size ∧ k = s.size - j ∧ RdP wr b s j ∧ Touch b w wr ∧ j + Lx.skipN false (s.data.toList.drop j) = i + Lx.skipN false (s.data.toList.drop i))
  case atStart => exact ⟨i, Nat.le_refl _, hi, rfl, hr'.out, Touch.refl _ _, rfl⟩
  case round =>
    obtain ⟨j, hij, hjs, hk, hrj, htj, hsum⟩ := hrel
    have hsum' := hid hsum
    have hk' := hid hk
    have hrj' := hid hrj
    clear hsum hk hrj
    have hblk := Lx.skipN_blanks (s.data.toList.drop j)
    have hle := Lx.runN_le Lx.blank (s.data.toList.drop j)
    rw [List.length_drop, list_len] at hle
    rw [List.drop_drop] at hblk
    go_wp2_with fail
    refine (while_any _ holds_blank hrj'.out hjs hs).mono ?_
    rintro e w1 ⟨rfl, hr1, ht1⟩
    generalize hm : Lx.runN Lx.blank (s.data.toList.drop j) = m at *
    have hm' := hid hm
    have hblk' := hid hblk
    have hr1' := hid hr1
    clear hm hblk hr1
    go_wp2_with fail
    refine (more_any _ holds_35 hr1'.out).mono ?_
    rintro e w2 ⟨rfl, hb2⟩
    have hr2' := hid (RdP.ext hr1'.out hb2)
    by_cases hh : Lx.hdIs (· == 35) (s.data.toList.drop (j + m)) = true
    · have hrem := Lx.skipN_remark hh
      have hle2 := Lx.runN_le Lx.not10 (s.data.toList.drop (j + m))
      rw [List.length_drop, list_len] at hle2
      rw [List.drop_drop] at hrem
      have hrem' := hid hrem
      clear hrem
      have hpos : 0 < Lx.runN Lx.not10 (s.data.toList.drop (j + m)) := by
        have hlt := Lx.lt_of_hdIs hh
        rw [Lx.hdIs_lt hlt] at hh
        have h35 : s.data.toList[j + m] = 35 := by simpa using hh
        rw [Lx.runN_step (by rw [Lx.hdIs_lt hlt, h35]; rfl)]; omega
      go_wp2_with fail
      refine (while_any _ holds_not10 hr2'.out (by omega) hs).mono ?_
      rintro e w3 ⟨rfl, hr3, ht3⟩
      generalize hn : Lx.runN Lx.not10 (s.data.toList.drop (j + m)) = n at *
      have hn' := hid hn
      have hr3' := hid hr3
      clear hn hr3
      go_wp2_with fail
      go_roundg (s.size - (j + m + n))
      case measure => have := hk'.out; omega
      case rel => exact ⟨j + m + n, by omega, by omega, rfl, hr3'.out, ((htj.trans ht1).below hb2).trans ht3, by have := hsum'.out; have := hblk'.out; have := hrem'.out; omega⟩
    · have hh' : Lx.hdIs (· == 35) (s.data.toList.drop (j + m)) = false := by simpa using hh
      have hz : Lx.skipN false (s.data.toList.drop (j + m)) = 0 := by
        refine Lx.skipN_stop ?_ hh'
        have := Lx.hdIs_drop_runN Lx.blank (s.data.toList.drop j)
        rwa [hm'.out, List.drop_drop] at this
      have hfin := hid (show i + Lx.skipN false (s.data.toList.drop i) = j + m by have := hsum'.out; have := hblk'.out; omega)
      clear hh hz
      go_wp2
      refine bodyPost_ret (results_none rfl _ _ _) rfl ?_
      rw [hfin.out]
      exact ⟨rfl, hr2'.out, (htj.trans ht1).below hb2⟩

theorem begin_any (s : ByteArray) (w : World) :
    Calls Tryz.prog 28 #[.string s] w fun e w' => ∃ b, e = .returned (.pointer (some ⟨b, 0, none⟩)) ∧ w.heap.size ≤ b ∧ RdP w' b s 0 ∧ Below w.heap.size w w' := by
  go_enter Tryz.func28, Tryz.ntmps28
  go_wp2
  go_ret
  exact ⟨_, rfl, Nat.le_refl _, Blk.new _ _ _, balloc _ _⟩

theorem end_any (s : ByteArray) (w : World) (hs : s.size ≤ 140737488355328) :
    Calls Tryz.prog 14 #[.string s] w fun e w' => e = .returned (.agg #[.int .i64 (Lx.posOf s.data.toList).1, .int .i64 (Lx.posOf s.data.toList).2]) ∧ Below w.heap.size w w' := by
  have hall : Lx.runN (fun _ => true) s.data.toList = s.size := by
    unfold Lx.runN
    have : ∀ l : Lx.Bytes, (l.takeWhile fun _ => true) = l := fun l => by induction l with | nil => rfl | cons c l ih => simp [ih]
    rw [this]
    simp
  have htk : s.data.toList.take s.size = s.data.toList := List.take_of_length_le (by simp)
  have hall' := hid hall
  have htk' := hid htk
  clear hall htk
  go_enter Tryz.func14, Tryz.ntmps14
  go_wp2_with fail
  have B0 := hid (Blk.new w #[.int .i64 0, .int .i64 0] 25)
  refine (begin_any s _).mono ?_
  rintro e w1 ⟨b, rfl, hlb, hr1, hb1⟩
  simp only [World.size_alloc] at hlb
  have hr1' := hid hr1
  have B1 := hid (B0.out.ext hb1)
  clear hr1
  go_wp2_with fail
  refine (while_any _ holds_all hr1'.out (Nat.zero_le _) hs).mono ?_
  rintro e w2 ⟨rfl, hr2, ht2⟩
  have B2 := hid (B1.out.touch ht2 (by omega))
  have hr2' : Hid (RdP w2 b s s.size) := by have h := hr2; rw [List.drop_zero, hall'.out, Nat.zero_add] at h; exact h
  clear hr2
  go_wp2_with fail
  refine (place_any hr2'.out).mono ?_
  rintro e w3 ⟨rfl, hb3⟩
  have B3 := hid (B2.out.ext hb3)
  obtain ⟨c0, c1, f, hz3⟩ := B3.out.two
  go_wp2
  rw [htk'.out]
  refine bodyPost_ret (v := .agg #[.int .i64 (Lx.posOf s.data.toList).1, .int .i64 (Lx.posOf s.data.toList).2]) (by simp [results, Tryz.results14, go_sem, c0, c1]) rfl ⟨rfl, ?_⟩
  have h1 : Below w.heap.size w w1 := (balloc w _).trans (hb1.mono (by simp))
  have h2 : Below w.heap.size w w2 := h1.trans (ht2.to_below h1.size (by omega))
  exact bset (bset (h2.trans (hb3.mono h2.size)) (Nat.le_refl _) _) (Nat.le_refl _) _

end Go.Proofs.YtnoieobjfihbeaaGreatDoor
