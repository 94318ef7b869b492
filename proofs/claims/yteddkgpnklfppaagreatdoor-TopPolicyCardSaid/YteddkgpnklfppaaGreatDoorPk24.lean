/-
  The form of declarations as plain Lean, and: it is read as it was, but for places. No program.
  The form of declarations is read as it was, but for places; what is read may be. No program.
-/
import Derived.Test.YteddkgpnklfppaaGreatDoorPk22
import Derived.Test.YteddkgpnklfppaaGreatDoorPk13
import Derived.Test.YteddkgpnklfppaaGreatDoorPk23
import Derived.Test.YteddkgpnklfppaaGreatDoorPk05
import Derived.Lib.ItoaNum

namespace Go.Proofs.YteddkgpnklfppaaGreatDoor.Pt
open Lx Po

/-! ### the form -/
def put (ws : List Bytes) : Bytes := ws.flatMap fun s => 32 :: s
def whoB (all : Bytes) (w : Who) : Bytes := if w.any then all else if w.name.data.toList = [] then Go.Lib.itoa w.n else w.name.data.toList
def tiersB (lo hi : Int) : Bytes := if lo = 0 ∧ hi = 7 then wAny else if lo = hi then Go.Lib.itoa lo else Go.Lib.itoa lo ++ ([46, 46] ++ Go.Lib.itoa hi)
def boxB (b : Box) : Bytes := put [Go.Lib.itoa b.x0, Go.Lib.itoa b.y0, Go.Lib.itoa b.x1, Go.Lib.itoa b.y1]
def plusB (b : Box) : Bytes := put [[43]] ++ boxB b
def boxesB : List Box → Bytes
  | [] => []
  | b :: l => boxB b ++ l.flatMap plusB
def restB (d : Decl) : Bytes :=
  if d.kind = 1 ∨ d.kind = 2 then put [d.name.data.toList, [61], Go.Lib.itoa d.n]
  else if d.kind = 3 then put [d.name.data.toList, [61]] ++ boxesB d.boxes
  else if d.kind = 6 then put [wRole] ++ put [whoB wAny d.role]
  else put [wRole] ++ (put [whoB wAny d.role] ++ (put [wTier] ++ (put [tiersB d.lo d.hi] ++ (put [wLabel] ++ (put [whoB wAny d.label] ++ (put [wIn] ++ (put [whoB wAll d.place] ++ put [wZoom, Go.Lib.itoa d.zoom])))))))
def firstB (k : Int) : Bytes := if k = 1 then wRole else if k = 2 then wLabel else if k = 3 then wRegion else if k = 4 then wAllow else if k = 5 then wCap else if k = 6 then wCloak else []
def lineB (d : Decl) : Bytes := firstB d.kind ++ (restB d ++ [59, 10])
def printB (l : List Decl) : Bytes := if l.all Ru.may then l.flatMap lineB else []

/-! ### tokens, each with what stands behind it -/
abbrev G := T3 × Bytes
def bl : Bytes := [32]
def numG (n : Int) (z : Bytes) : G := ((3, Go.Lib.itoa n, n.toNat), z)
def markG (x z : Bytes) : G := ((4, x, 0), z)
def wordG (x z : Bytes) : G := ((2, x, 0), z)
def nameG (x z : Bytes) : G := ((1, x, 0), z)
def whoG (all : Bytes) (w : Who) (z : Bytes) : G := if w.any then wordG all z else if w.name.data.toList = [] then numG w.n z else nameG w.name.data.toList z
def tiersG (lo hi : Int) (z : Bytes) : List G := if lo = 0 ∧ hi = 7 then [wordG wAny z] else if lo = hi then [numG lo z] else [numG lo [], markG [46, 46] [], numG hi z]
def boxG (b : Box) (z : Bytes) : List G := [numG b.x0 bl, numG b.y0 bl, numG b.x1 bl, numG b.y1 z]
def boxesG : Box → List Box → List G
  | b, [] => boxG b []
  | b, c :: l => boxG b bl ++ markG [43] bl :: boxesG c l
def boxesG0 : List Box → List G
  | [] => []
  | b :: l => boxesG b l
def restG (d : Decl) : List G :=
  if d.kind = 1 ∨ d.kind = 2 then [nameG d.name.data.toList bl, markG [61] bl, numG d.n []]
  else if d.kind = 3 then nameG d.name.data.toList bl :: markG [61] bl :: boxesG0 d.boxes
  else if d.kind = 6 then [wordG wRole bl, whoG wAny d.role []]
  else wordG wRole bl :: whoG wAny d.role bl :: wordG wTier bl :: (tiersG d.lo d.hi bl ++ [wordG wLabel bl, whoG wAny d.label bl, wordG wIn bl, whoG wAll d.place bl, wordG wZoom bl, numG d.zoom []])
def endG : List G := [markG [59] [10]]
def declG (d : Decl) : List G := wordG (firstB d.kind) bl :: (restG d ++ endG)
def glue (l : List G) : Bytes := l.flatMap fun g => g.1.2.1 ++ g.2
theorem glue_cons (g : G) (l : List G) : glue (g :: l) = g.1.2.1 ++ (g.2 ++ glue l) := by unfold glue; rw [List.flatMap_cons, List.append_assoc]
theorem glue_app (l m : List G) : glue (l ++ m) = glue l ++ glue m := by unfold glue; rw [List.flatMap_append]
theorem glue_nil : glue [] = [] := rfl
theorem put_cons (s : Bytes) (l : List Bytes) : put (s :: l) = 32 :: (s ++ put l) := rfl
theorem whoG_text (all : Bytes) (w : Who) (z : Bytes) : (whoG all w z).1.2.1 = whoB all w ∧ (whoG all w z).2 = z := by
  unfold whoG whoB
  split
  · exact ⟨rfl, rfl⟩
  · split <;> exact ⟨rfl, rfl⟩
theorem tiersG_text (lo hi : Int) (z : Bytes) : glue (tiersG lo hi z) = tiersB lo hi ++ z := by
  unfold tiersG tiersB
  split
  · simp [glue, wordG]
  · split
    · simp [glue, numG]
    · simp [glue, numG, markG]
theorem boxG_text (b : Box) (z : Bytes) : 32 :: glue (boxG b z) = boxB b ++ z := by simp [glue, boxG, boxB, put, numG, bl]
theorem boxesG_text (l : List Box) : ∀ b : Box, 32 :: glue (boxesG b l) = boxB b ++ l.flatMap plusB := by
  induction l with
  | nil => intro b; unfold boxesG; rw [boxG_text]; simp
  | cons c l ih =>
    intro b
    unfold boxesG
    rw [glue_app, ← List.cons_append, boxG_text, glue_cons, List.flatMap_cons]
    rw [show plusB c = put [[43]] ++ boxB c from rfl, List.append_assoc, List.append_assoc, ← ih c]
    simp [put, bl, markG]
theorem boxesG0_text {l : List Box} (h : l ≠ []) : 32 :: glue (boxesG0 l) = boxesB l := by
  cases l with
  | nil => exact absurd rfl h
  | cons b l => exact boxesG_text l b

/-! ### which tokens are read -/
def Free (t : T3) : Prop := ∀ rest, tok (t.2.1 ++ rest) = .ok t ∧ skipN false (t.2.1 ++ rest) = 0
def Good : List G → Prop
  | [] => True
  | g :: l => Plain g.1 ∧ (Sep g.2 ∨ (g.2 = [] ∧ (Free g.1 ∨ hdIs inner (glue l) = false))) ∧ Good l
theorem sep_bl : Sep bl := sep_blank
theorem sep_nl : Sep [10] := ⟨fun x => skip10 x, fun _x => rfl⟩
theorem lexL_free {f : Nat} {t : T3} {rest : Bytes} (h : Free t) (h1 : 0 < t.2.1.length) : lexL (f + 1) (t.2.1 ++ rest) = (lexL f rest).map (t :: ·) := by
  obtain ⟨h3, h4⟩ := h rest
  obtain ⟨k, t, n⟩ := t
  simp only at *
  simp only [lexL]
  rw [h4, if_neg (by rw [List.length_append]; omega), List.drop_zero, h3]
  simp only [Nat.zero_add, List.drop_left]
theorem lexL_good (l : List G) : ∀ f : Nat, l.length ≤ f → Good l → lexL f (glue l) = .ok (l.map (·.1)) := by
  induction l with
  | nil => intro f _ _; cases f <;> rfl
  | cons g l ih =>
    intro f hf h
    simp only [List.length_cons] at hf
    obtain ⟨f, rfl⟩ : ∃ k, f = k + 1 := ⟨f - 1, by omega⟩
    obtain ⟨h1, h2, h3⟩ := h
    rw [glue_cons]
    have hl : lexL f (g.2 ++ glue l) = lexL f (glue l) := by
      rcases h2 with h2 | ⟨h2, _⟩
      · exact lexL_sep h2
      · rw [h2, List.nil_append]
    have hs : lexL (f + 1) (g.1.2.1 ++ (g.2 ++ glue l)) = (lexL f (g.2 ++ glue l)).map (g.1 :: ·) := by
      rcases h2 with h2 | ⟨h2, h4 | h4⟩
      · exact lexL_one h1 (h2.head _)
      · exact lexL_free h4 h1.1
      · exact lexL_one h1 (by rw [h2, List.nil_append]; exact h4)
    rw [hs, hl, ih f (by omega) h3]
    rfl

/-! ### the tokens are good -/
theorem plain_mark {x : Bytes} (h : x = [61] ∨ x = [43] ∨ x = [59] ∨ x = [46, 46]) : Plain (4, x, 0) ∧ Free (4, x, 0) := by
  rcases h with rfl | rfl | rfl | rfl
  · exact ⟨plain_of_tok (l := [61]) rfl, fun rest => ⟨rfl, rfl⟩⟩
  · exact ⟨plain_of_tok (l := [43]) rfl, fun rest => ⟨rfl, rfl⟩⟩
  · exact ⟨plain_of_tok (l := [59]) rfl, fun rest => ⟨rfl, rfl⟩⟩
  · exact ⟨plain_of_tok (l := [46, 46]) rfl, fun rest => ⟨rfl, rfl⟩⟩
theorem word_tok : ∀ w ∈ words, tok w = .ok (2, w, 0) := by
  intro w hw
  unfold words at hw
  simp only [List.mem_cons, List.not_mem_nil, or_false] at hw
  rcases hw with rfl | rfl | rfl | rfl | rfl | rfl | rfl | rfl | rfl | rfl | rfl <;> rfl
theorem plain_word {x : Bytes} (h : x ∈ words) : Plain (2, x, 0) := plain_of_tok (word_tok x h)
theorem plain_name {x : Bytes} (h : isName x = true) : Plain (1, x, 0) := by
  refine plain_of_tok (l := x) ?_
  cases x with
  | nil => cases h
  | cons c l =>
    simp only [isName, Bool.and_eq_true, decide_eq_true_eq, Bool.not_eq_true'] at h
    obtain ⟨⟨⟨h1, h2⟩, h3⟩, h4⟩ := h
    have e : (c :: l).takeWhile inner = c :: l := by
      have := takeWhile_app (p := inner) (rest := []) h3 rfl
      rwa [List.append_nil] at this
    rw [tok_cons, if_pos h2, e, if_neg (by omega), h4]
    rfl
theorem digit_of {c : UInt8} {k : Nat} (hk : k < 10) (h : c = UInt8.ofNat (48 + k)) : c.toNat = 48 + k ∧ digit c = true := by
  have e : c.toNat = 48 + k := by rw [h, UInt8.toNat_ofNat']; omega
  refine ⟨e, ?_⟩
  unfold digit
  simp only [Bool.and_eq_true, decide_eq_true_eq, UInt8.le_iff_toNat_le]
  rw [e]
  exact ⟨by show 48 ≤ 48 + k; omega, by show 48 + k ≤ 57; omega⟩
theorem dec_props (u : Nat) : (Go.Lib.decDigits u).all digit = true ∧ numAcc 0 (Go.Lib.decDigits u) = u ∧ 0 < (Go.Lib.decDigits u).length ∧ (0 < u → (Go.Lib.decDigits u).head? ≠ some 48) ∧ (u < 10 → (Go.Lib.decDigits u).length = 1) := by
  induction u using Nat.strongRecOn with
  | _ u ih =>
    by_cases h : u < 10
    · obtain ⟨h1, h2⟩ := digit_of h (c := UInt8.ofNat (48 + u)) rfl
      rw [Go.Lib.decDigits, dif_pos h]
      generalize UInt8.ofNat (48 + u) = c at *
      refine ⟨by simp [h2], ?_, by simp, fun h0 => ?_, fun _ => rfl⟩
      · show 10 * 0 + (c.toNat - 48) = u
        omega
      · intro hc
        simp only [List.head?_cons, Option.some.injEq] at hc
        rw [hc] at h1
        have : (48 : UInt8).toNat = 48 := rfl
        omega
    · obtain ⟨i1, i2, i3, i4, _⟩ := ih (u / 10) (by omega)
      obtain ⟨h1, h2⟩ := digit_of (k := u % 10) (by omega) (c := UInt8.ofNat (48 + u % 10)) rfl
      rw [Go.Lib.decDigits, dif_neg h]
      generalize UInt8.ofNat (48 + u % 10) = c at *
      refine ⟨by simp [i1, h2], ?_, by simp, fun h0 => ?_, fun h0 => absurd h0 h⟩
      · unfold numAcc at i2 ⊢
        rw [List.foldl_append, i2]
        simp only [List.foldl_cons, List.foldl_nil, h1]
        omega
      · have := i4 (by omega)
        generalize Go.Lib.decDigits (u / 10) = q at *
        cases q with
        | nil => simp at i3
        | cons c q => simpa using this
theorem itoa_tok {n : Int} (h0 : 0 ≤ n) (h1 : n ≤ 65535) : tok (Go.Lib.itoa n) = .ok (3, Go.Lib.itoa n, n.toNat) := by
  obtain ⟨u, rfl⟩ : ∃ u : Nat, n = u := ⟨n.toNat, by omega⟩
  have e : Go.Lib.itoa (u : Int) = Go.Lib.decDigits u := by unfold Go.Lib.itoa; rw [if_neg (by omega)]; simp
  obtain ⟨d1, d2, d3, d4, d5⟩ := dec_props u
  have hnum : number (Go.Lib.decDigits u) = some u := by
    unfold number
    rw [d2, if_neg]
    rintro (⟨h2, h3⟩ | h2)
    · by_cases h10 : u < 10
      · have := d5 h10; omega
      · exact d4 (by omega) h3
    · omega
  rw [e]
  have ht : ((u : Int).toNat) = u := by simp
  rw [ht]
  generalize Go.Lib.decDigits u = q at *
  cases q with
  | nil => simp at d3
  | cons c l =>
    have hd : digit c = true := by simp only [List.all_cons, Bool.and_eq_true] at d1; exact d1.1
    have hl : letter c = false := by
      unfold digit at hd
      unfold letter
      simp only [Bool.and_eq_true, decide_eq_true_eq, UInt8.le_iff_toNat_le] at hd
      have h57 : c.toNat ≤ 57 := hd.2
      simp only [Bool.and_eq_false_iff, decide_eq_false_iff_not, UInt8.le_iff_toNat_le]
      left
      show ¬ 97 ≤ c.toNat
      omega
    have e2 : (c :: l).takeWhile digit = c :: l := by
      have := takeWhile_app (p := digit) (rest := []) d1 rfl
      rwa [List.append_nil] at this
    rw [tok_cons, if_neg (by rw [hl]; decide), if_pos hd, e2, hnum]
theorem plain_num {n : Int} (h : Ru.num n = true) : Plain (3, Go.Lib.itoa n, n.toNat) := by
  unfold Ru.num at h
  simp only [Bool.and_eq_true, decide_eq_true_eq] at h
  exact plain_of_tok (itoa_tok h.1 h.2)
theorem itoa_word {n : Int} (h : Ru.num n = true) {x : Bytes} (hx : x ∈ words) : Go.Lib.itoa n ≠ x := by
  unfold Ru.num at h
  simp only [Bool.and_eq_true, decide_eq_true_eq] at h
  intro e
  have h1 := itoa_tok h.1 h.2
  rw [e, word_tok x hx] at h1
  cases h1
theorem name_word {s : Bytes} (h : isName s = true) {x : Bytes} (hx : x ∈ words) : s ≠ x := by
  rintro rfl
  have : isWord s = true := by unfold isWord; exact List.contains_iff_mem.2 hx
  rw [word_isName this] at h
  cases h

theorem good_sep {g : G} {l : List G} (h : Plain g.1) (hs : Sep g.2) (hl : Good l) : Good (g :: l) := ⟨h, .inl hs, hl⟩
theorem good_mark {x z : Bytes} {l : List G} (h : x = [61] ∨ x = [43] ∨ x = [59] ∨ x = [46, 46]) (hz : Sep z ∨ z = []) (hl : Good l) : Good (markG x z :: l) := by
  obtain ⟨h1, h2⟩ := plain_mark h
  refine ⟨h1, ?_, hl⟩
  rcases hz with hz | hz
  · exact .inl hz
  · exact .inr ⟨hz, .inl h2⟩
theorem good_end {g : G} {x z : Bytes} {l : List G} (h : Plain g.1) (hz : g.2 = []) (hx : x = [59] ∨ x = [46, 46]) (hl : Good (markG x z :: l)) : Good (g :: markG x z :: l) := by
  refine ⟨h, .inr ⟨hz, .inr ?_⟩, hl⟩
  rw [glue_cons]
  rcases hx with rfl | rfl <;> rfl
theorem good_who {all : Bytes} (ha : all ∈ words) {w : Who} (h : Ru.rightW w = true) (z : Bytes) : Plain (whoG all w z).1 := by
  unfold Ru.rightW at h
  unfold whoG
  split
  · exact plain_word ha
  · rename_i hn
    rw [if_neg hn] at h
    split
    · rename_i he
      rw [if_pos (by rw [he]; rfl)] at h
      exact plain_num h
    · rename_i he
      rw [if_neg (by simpa using he)] at h
      simp only [Bool.and_eq_true] at h
      exact plain_name h.2
theorem good_tiers {lo hi : Int} (h1 : Ru.num lo = true) (h2 : Ru.num hi = true) {l : List G} (hl : Good l) : Good (tiersG lo hi bl ++ l) := by
  unfold tiersG
  split
  · exact good_sep (plain_word (by decide)) sep_bl hl
  · split
    · exact good_sep (plain_num h1) sep_bl hl
    · exact good_end (plain_num h1) rfl (.inr rfl) (good_mark (by simp) (.inr rfl) (good_sep (plain_num h2) sep_bl hl))
theorem good_boxes (m : List G) (hm : Good (markG [59] [10] :: m)) (l : List Box) : ∀ b : Box, (∀ c ∈ b :: l, Ru.boxN c = true) → Good (boxesG b l ++ markG [59] [10] :: m) := by
  induction l with
  | nil =>
    intro b h
    have hb := h b List.mem_cons_self
    simp only [Ru.boxN, Bool.and_eq_true] at hb
    unfold boxesG boxG
    exact good_sep (plain_num hb.1.1.1) sep_bl (good_sep (plain_num hb.1.1.2) sep_bl (good_sep (plain_num hb.1.2) sep_bl (good_end (plain_num hb.2) rfl (.inl rfl) hm)))
  | cons c l ih =>
    intro b h
    have hb := h b List.mem_cons_self
    simp only [Ru.boxN, Bool.and_eq_true] at hb
    unfold boxesG boxG
    exact good_sep (plain_num hb.1.1.1) sep_bl (good_sep (plain_num hb.1.1.2) sep_bl (good_sep (plain_num hb.1.2) sep_bl (good_sep (plain_num hb.2) sep_bl (good_mark (by simp) (.inl sep_bl) (ih c (fun x hx => h x (List.mem_cons_of_mem _ hx)))))))

/-- what a declaration that may be has, by its kind -/
inductive May (d : Decl) : Prop
  | named (h : d.kind = 1 ∨ d.kind = 2) (hn : isName d.name.data.toList = true) (hi : Ru.num d.n = true) (hb : d.boxes = []) (hr : Ru.zeroW d.role = true) (hz : Ru.noRule d = true) : May d
  | region (h : d.kind = 3) (hn : isName d.name.data.toList = true) (hi : d.n = 0) (hb : ∀ b ∈ d.boxes, Ru.boxN b = true) (h0 : d.boxes ≠ []) (hr : Ru.zeroW d.role = true) (hz : Ru.noRule d = true) : May d
  | rule (h : d.kind = 4 ∨ d.kind = 5) (hn : d.name.data.toList = []) (hi : d.n = 0) (hb : d.boxes = []) (hr : Ru.rightW d.role = true) (h1 : Ru.num d.lo = true) (h2 : Ru.num d.hi = true) (h3 : Ru.num d.zoom = true) (hl : Ru.rightW d.label = true) (hp : Ru.placeW d.place = true) : May d
  | cloak (h : d.kind = 6) (hn : d.name.data.toList = []) (hi : d.n = 0) (hb : d.boxes = []) (hr : Ru.rightW d.role = true) (hz : Ru.noRule d = true) : May d
theorem nil_of {l : List Box} (h : ((l.length : Int) == 0) = true) : l = [] := by
  cases l with
  | nil => rfl
  | cons b l => simp only [List.length_cons, beq_iff_eq] at h; omega
theorem may_cases {d : Decl} (h : Ru.may d = true) : May d := by
  unfold Ru.may at h
  by_cases h12 : d.kind = 1 ∨ d.kind = 2
  · rw [if_pos h12] at h
    simp only [Bool.and_eq_true] at h
    exact .named h12 h.1.1.1.1 h.1.1.1.2 (nil_of h.1.1.2) h.1.2 h.2
  · rw [if_neg h12] at h
    by_cases h3 : d.kind = 3
    · rw [if_pos h3] at h
      simp only [Bool.and_eq_true, Ru.boxesN, List.all_eq_true, decide_eq_true_eq, beq_iff_eq] at h
      exact .region h3 h.1.1.1.1 h.1.1.1.2 h.1.1.2.1 (by intro e; have := h.1.1.2.2; rw [e] at this; simp at this) h.1.2 h.2
    · rw [if_neg h3] at h
      by_cases h45 : d.kind = 4 ∨ d.kind = 5
      · rw [if_pos h45] at h
        simp only [Bool.and_eq_true, Ru.noName, Ru.ruleD, beq_iff_eq] at h
        exact .rule h45 h.1.1.1 h.1.1.2 (nil_of (by simpa using h.1.2)) h.2.1.1.1 h.2.1.1.2.1.1 h.2.1.1.2.1.2 h.2.1.1.2.2 h.2.1.2 h.2.2
      · rw [if_neg h45] at h
        by_cases h6 : d.kind = 6
        · rw [if_pos h6] at h
          simp only [Bool.and_eq_true, Ru.noName, beq_iff_eq] at h
          exact .cloak h6 h.1.1.1.1 h.1.1.1.2 (nil_of (by simpa using h.1.1.2)) h.1.2 h.2
        · rw [if_neg h6] at h; cases h
theorem place_right {w : Who} (h : Ru.placeW w = true) : Ru.rightW w = true := by unfold Ru.placeW at h; simp only [Bool.and_eq_true] at h; exact h.1
theorem first_word {k : Int} (h : 1 ≤ k) (h6 : k ≤ 6) : firstB k ∈ words := by
  unfold firstB
  repeat' split
  all_goals first | decide | omega
theorem good_decl {d : Decl} (h : Ru.may d = true) {m : List G} (hm : Good m) : Good (declG d ++ m) := by
  have hend : Good (markG [59] [10] :: m) := good_mark (by simp) (.inl sep_nl) hm
  have hm' := may_cases h
  unfold declG restG
  have hf : firstB d.kind ∈ words := by cases hm' <;> exact first_word (by omega) (by omega)
  refine good_sep (plain_word hf) sep_bl ?_
  show Good ((_ ++ endG) ++ m)
  rw [List.append_assoc]
  show Good (_ ++ markG [59] [10] :: m)
  cases hm' with
  | named h hn hi hb hr hz =>
    rw [if_pos h]
    exact good_sep (plain_name hn) sep_bl (good_mark (by simp) (.inl sep_bl) (good_end (plain_num hi) rfl (.inl rfl) hend))
  | region h hn hi hb h0 hr hz =>
    rw [if_neg (by omega), if_pos h]
    refine good_sep (plain_name hn) sep_bl (good_mark (by simp) (.inl sep_bl) ?_)
    cases hbx : d.boxes with
    | nil => exact absurd hbx h0
    | cons b l => exact good_boxes m hend l b (by rw [← hbx]; exact hb)
  | rule h hn hi hb hr h1 h2 h3 hl hp =>
    rw [if_neg (by omega), if_neg (by omega), if_neg (by omega)]
    refine good_sep (plain_word (by decide)) sep_bl (good_sep (good_who (by decide) hr bl) (by rw [(whoG_text _ _ _).2]; exact sep_bl) (good_sep (plain_word (by decide)) sep_bl ?_))
    show Good ((_ ++ _) ++ _)
    rw [List.append_assoc]
    exact good_tiers h1 h2 (good_sep (plain_word (by decide)) sep_bl (good_sep (good_who (by decide) hl bl) (by rw [(whoG_text _ _ _).2]; exact sep_bl) (good_sep (plain_word (by decide)) sep_bl (good_sep (good_who (by decide) (place_right hp) bl) (by rw [(whoG_text _ _ _).2]; exact sep_bl) (good_sep (plain_word (by decide)) sep_bl (good_end (plain_num h3) rfl (.inl rfl) hend))))))
  | cloak h hn hi hb hr hz =>
    rw [if_neg (by omega), if_neg (by omega), if_pos h]
    exact good_sep (plain_word (by decide)) sep_bl (good_end (good_who (by decide) hr []) (whoG_text _ _ _).2 (.inl rfl) hend)
theorem decl_text {d : Decl} (h : Ru.may d = true) : glue (declG d) = lineB d := by
  have hm' := may_cases h
  unfold declG restG lineB restB
  rw [glue_cons, glue_app]
  show firstB d.kind ++ (bl ++ (_ ++ glue endG)) = _
  have e0 : glue endG = [59, 10] := rfl
  rw [e0, ← List.append_assoc bl]
  congr 2
  show 32 :: glue _ = _
  cases hm' with
  | named h hn hi hb hr hz =>
    rw [if_pos h, if_pos h]
    simp [glue, nameG, markG, numG, put, bl]
  | region h hn hi hb h0 hr hz =>
    rw [if_neg (by omega), if_pos h, if_neg (by omega), if_pos h, ← boxesG0_text h0]
    simp [glue_cons, nameG, markG, put, bl]
  | rule h hn hi hb hr h1 h2 h3 hl hp =>
    rw [if_neg (by omega), if_neg (by omega), if_neg (by omega), if_neg (by omega), if_neg (by omega), if_neg (by omega)]
    simp only [glue_cons, glue_app, glue_nil, (whoG_text _ _ _).1, (whoG_text _ _ _).2, tiersG_text]
    simp [wordG, numG, put, bl]
  | cloak h hn hi hb hr hz =>
    rw [if_neg (by omega), if_neg (by omega), if_pos h, if_neg (by omega), if_neg (by omega), if_pos h]
    simp only [glue_cons, glue_nil, (whoG_text _ _ _).1, (whoG_text _ _ _).2]
    simp [wordG, put, bl]
def allG (l : List Decl) : List G := l.flatMap declG
theorem all_good (l : List Decl) (h : ∀ d ∈ l, Ru.may d = true) : Good (allG l) ∧ glue (allG l) = l.flatMap lineB := by
  induction l with
  | nil => exact ⟨trivial, rfl⟩
  | cons d l ih =>
    obtain ⟨h1, h2⟩ := ih (fun x hx => h x (List.mem_cons_of_mem _ hx))
    have hd := h d List.mem_cons_self
    unfold allG at *
    rw [List.flatMap_cons, List.flatMap_cons]
    exact ⟨good_decl hd h1, by rw [glue_app, decl_text hd, h2]⟩
theorem glue_ge (l : List G) (h : Good l) : l.length ≤ (glue l).length := by
  induction l with
  | nil => exact Nat.le_refl _
  | cons g l ih =>
    have := ih h.2.2
    have := h.1.1
    rw [glue_cons, List.length_cons, List.length_append, List.length_append]
    omega
/-- the form's tokens -/
theorem tokens_print {l : List Decl} (h : ∀ d ∈ l, Ru.may d = true) (hn : (l.flatMap lineB).length ≤ 512) : ∃ T, tokens (l.flatMap lineB) = .ok T ∧ T.map strip = (allG l).map (·.1) := by
  obtain ⟨h1, h2⟩ := all_good l h
  have hg := glue_ge _ h1
  rw [h2] at hg
  have h3 := lexL_good _ ((l.flatMap lineB).length + 1) (by omega) h1
  rw [h2] at h3
  have h4 := lexL_toks (l.flatMap lineB) ((l.flatMap lineB).length + 1) 0
  rw [List.drop_zero, h3] at h4
  unfold tokens
  rw [if_neg (by omega)]
  cases hk : toks (l.flatMap lineB) ((l.flatMap lineB).length + 1) 0 with
  | error x => rw [hk] at h4; obtain ⟨a, b, c⟩ := x; cases h4
  | ok T =>
    rw [hk] at h4
    exact ⟨T, rfl, (Except.ok.inj h4).symm⟩

end Go.Proofs.YteddkgpnklfppaaGreatDoor.Pt

namespace Go.Proofs.YteddkgpnklfppaaGreatDoor.Pt
open Lx Po

abbrev rd (ts : List Tok) : Pr.R := ⟨ts, (0, 0, 0)⟩
theorem map_inv {ts : List Tok} {g : T3} {us : List T3} (h : ts.map strip = g :: us) : ∃ t ts', ts = t :: ts' ∧ t.kind = g.1 ∧ t.text = g.2.1 ∧ t.n = g.2.2 ∧ ts'.map strip = us := by
  cases ts with
  | nil => cases h
  | cons t ts =>
    rw [List.map_cons] at h
    have h1 := (List.cons.inj h).1
    exact ⟨t, ts, rfl, by rw [← h1]; rfl, by rw [← h1]; rfl, by rw [← h1]; rfl, (List.cons.inj h).2⟩
section
variable {e : Nat × Nat} {t : Tok} {ts : List Tok}
theorem is_yes {x : Bytes} (h : t.text = x) : Pr.is x (rd (t :: ts)) = true := by simp [Pr.is, h]
theorem is_no {x : Bytes} (h : t.text ≠ x) : Pr.is x (rd (t :: ts)) = false := by simp [Pr.is, h]
theorem want_ok {x : Bytes} (h : t.text = x) : Pr.want e x (rd (t :: ts)) = rd ts := by unfold Pr.want; rw [if_pos (is_yes h)]; rfl
theorem kind_ok {k : Nat} (h : t.kind = k) : Pr.kindIs k (rd (t :: ts)) = true := by simp [Pr.kindIs, h]
theorem ofS_ok {k : Nat} (h : t.kind = k) : Pr.ofS e k (rd (t :: ts)) = rd ts := by unfold Pr.ofS; rw [if_pos (kind_ok h)]; rfl
theorem ofT_ok {k : Nat} (h : t.kind = k) : Pr.ofT k (rd (t :: ts)) = t := by unfold Pr.ofT; rw [if_pos (kind_ok h)]; rfl
theorem txt_self (s : ByteArray) : txt s.data.toList = s := rfl
theorem nil_name {s : ByteArray} (h : s.data.toList = []) : s = ⟨#[]⟩ := by
  have := txt_self s
  rw [h] at this
  exact this.symm
theorem unW_mk {w : Who} {a : Bool} {nm : ByteArray} {n l c : Int} (h1 : a = w.any) (h2 : nm = w.name) (h3 : n = w.n) : unW ⟨a, nm, n, l, c⟩ = unW w := by
  obtain ⟨wa, wn, wk, wl, wc⟩ := w
  simp only at h1 h2 h3
  subst h1 h2 h3
  rfl
theorem num_nat {n : Int} (h : Ru.num n = true) : ((n.toNat : Nat) : Int) = n := by
  unfold Ru.num at h
  simp only [Bool.and_eq_true, decide_eq_true_eq] at h
  omega
theorem who_ok {w : Who} {z : Bytes} (h : Ru.rightW w = true) (h1 : t.kind = (whoG wAny w z).1.1) (h2 : t.text = (whoG wAny w z).1.2.1) (h3 : t.n = (whoG wAny w z).1.2.2) :
    Pr.whoS e wAny true (rd (t :: ts)) = rd ts ∧ unW (Pr.whoV e wAny true (rd (t :: ts))) = unW w := by
  unfold Ru.rightW at h
  unfold whoG at h1 h2 h3
  unfold Pr.whoS Pr.whoV
  split at h
  · rename_i ha
    rw [if_pos ha] at h1 h2 h3
    simp only [Bool.and_eq_true, beq_iff_eq] at h
    have hy := is_yes (ts := ts) h2
    simp only [wordG] at hy
    simp only [hy, ↓reduceIte]
    exact ⟨rfl, unW_mk ha.symm (nil_name h.1).symm h.2.symm⟩
  · rename_i ha
    have ha' : false = w.any := by simpa using ha
    rw [if_neg ha] at h1 h2 h3
    by_cases he : w.name.data.toList = []
    · rw [if_pos he] at h1 h2 h3
      rw [if_pos (by rw [he]; rfl)] at h
      have hx : t.text ≠ wAny := by rw [h2]; exact itoa_word h (by decide)
      have hk : t.kind = 3 := h1
      have hh : Pr.headName (rd (t :: ts)) = false := by simp [Pr.headName, hk]
      simp only [is_no hx, hh, ofS_ok hk, ofT_ok hk, h3, Bool.false_eq_true, ↓reduceIte, Bool.true_and, Bool.not_false]
      exact ⟨trivial, unW_mk ha' (nil_name he).symm (num_nat h)⟩
    · rw [if_neg he] at h1 h2 h3
      rw [if_neg (by simpa using he)] at h
      simp only [Bool.and_eq_true, beq_iff_eq] at h
      have hx : t.text ≠ wAny := by rw [h2]; exact name_word h.2 (by decide)
      have hk : t.kind = 1 := h1
      have hh : Pr.headName (rd (t :: ts)) = true := by simp [Pr.headName, hk]
      simp only [is_no hx, hh, ofS_ok hk, ofT_ok hk, h2, Bool.false_eq_true, ↓reduceIte, Bool.true_and, Bool.not_true]
      exact ⟨trivial, unW_mk ha' (txt_self _) h.1.symm⟩
theorem where_ok {w : Who} {z : Bytes} (h : Ru.placeW w = true) (h1 : t.kind = (whoG wAll w z).1.1) (h2 : t.text = (whoG wAll w z).1.2.1) (_h3 : t.n = (whoG wAll w z).1.2.2) :
    Pr.whoS e wAll false (rd (t :: ts)) = rd ts ∧ unW (Pr.whoV e wAll false (rd (t :: ts))) = unW w := by
  have h0 : (w.any || w.name.data.toList != []) = true := by unfold Ru.placeW at h; simp only [Bool.and_eq_true] at h; exact h.2
  have h := place_right h
  unfold Ru.rightW at h
  unfold whoG at h1 h2
  unfold Pr.whoS Pr.whoV
  split at h
  · rename_i ha
    rw [if_pos ha] at h1 h2
    simp only [Bool.and_eq_true, beq_iff_eq] at h
    have hy := is_yes (ts := ts) h2
    simp only [wordG] at hy
    simp only [hy, ↓reduceIte]
    exact ⟨rfl, unW_mk ha.symm (nil_name h.1).symm h.2.symm⟩
  · rename_i ha
    have ha' : false = w.any := by simpa using ha
    rw [← ha'] at h0
    have he : ¬ w.name.data.toList = [] := by simpa using h0
    rw [if_neg ha] at h1 h2
    rw [if_neg he] at h1 h2
    rw [if_neg (by simpa using he)] at h
    simp only [Bool.and_eq_true, beq_iff_eq] at h
    have hx : t.text ≠ wAll := by rw [h2]; exact name_word h.2 (by decide)
    have hk : t.kind = 1 := h1
    simp only [is_no hx, ofS_ok hk, ofT_ok hk, h2, Bool.false_eq_true, ↓reduceIte, Bool.false_and]
    exact ⟨trivial, unW_mk ha' (txt_self _) h.1.symm⟩
theorem tiers_ok {lo hi : Int} {z x : Bytes} {us : List T3} {k n : Nat} (h1 : Ru.num lo = true) (h2 : Ru.num hi = true) (hx : x ≠ [46, 46]) (h : ts.map strip = (tiersG lo hi z).map (·.1) ++ (k, x, n) :: us) :
    ∃ ts', Pr.tiersS e (rd ts) = rd ts' ∧ ts'.map strip = (k, x, n) :: us ∧ (Pr.loV (rd ts) : Int) = lo ∧ (Pr.hiV e (rd ts) : Int) = hi := by
  unfold tiersG at h
  unfold Pr.tiersS Pr.loV Pr.hiV
  split at h
  · rename_i h07
    obtain ⟨t, ts', rfl, a1, a2, a3, a4⟩ := map_inv h
    have hy := is_yes (ts := ts') a2
    simp only [wordG] at hy
    simp only [hy, ↓reduceIte]
    exact ⟨ts', rfl, a4, h07.1.symm, h07.2.symm⟩
  · split at h
    · rename_i heq
      obtain ⟨t, ts', rfl, a1, a2, a3, a4⟩ := map_inv h
      have a4 : ts'.map strip = (k, x, n) :: us := a4
      have hx2 : t.text ≠ wAny := by rw [a2]; exact itoa_word h1 (by decide)
      have hk : t.kind = 3 := a1
      obtain ⟨u, us', rfl, b1, b2, b3, b4⟩ := map_inv a4
      have hd : Pr.is [46, 46] (rd (u :: us')) = false := is_no (by rw [b2]; exact hx)
      have en : t.n = lo.toNat := a3
      simp only [is_no hx2, ofS_ok hk, hd, ofT_ok hk, en, Bool.false_eq_true, ↓reduceIte]
      exact ⟨_, rfl, a4, num_nat h1, by rw [num_nat h1, heq]⟩
    · obtain ⟨t, ts', rfl, a1, a2, a3, a4⟩ := map_inv h
      obtain ⟨u, us', rfl, b1, b2, b3, b4⟩ := map_inv a4
      obtain ⟨v, vs', rfl, c1, c2, c3, c4⟩ := map_inv b4
      have hx2 : t.text ≠ wAny := by rw [a2]; exact itoa_word h1 (by decide)
      have hk : t.kind = 3 := a1
      have hd : Pr.is [46, 46] (rd (u :: v :: vs')) = true := is_yes b2
      have hk3 : v.kind = 3 := c1
      have en : t.n = lo.toNat := a3
      have ev : v.n = hi.toNat := c3
      have eo : Pr.on (rd (u :: v :: vs')) = rd (v :: vs') := rfl
      simp only [is_no hx2, ofS_ok hk, hd, ofT_ok hk, eo, ofS_ok hk3, ofT_ok hk3, en, ev, Bool.false_eq_true, ↓reduceIte]
      exact ⟨_, rfl, c4, num_nat h1, num_nat h2⟩
theorem box_ok {b : Box} {z : Bytes} {us : List T3} (hb : Ru.boxN b = true) (h : ts.map strip = (boxG b z).map (·.1) ++ us) :
    ∃ ts', Pr.four e (rd ts) = rd ts' ∧ ts'.map strip = us ∧ Pr.boxV e (rd ts) = b ∧ ts.length = 4 + ts'.length := by
  simp only [Ru.boxN, Bool.and_eq_true] at hb
  obtain ⟨t, ts', rfl, a1, a2, a3, a4⟩ := map_inv h
  obtain ⟨u, us', rfl, b1, b2, b3, b4⟩ := map_inv a4
  obtain ⟨v, vs', rfl, c1, c2, c3, c4⟩ := map_inv b4
  obtain ⟨x, xs', rfl, d1, d2, d3, d4⟩ := map_inv c4
  refine ⟨xs', ?_, d4, ?_, by simp only [List.length_cons]; omega⟩
  · unfold Pr.four
    rw [ofS_ok (show t.kind = 3 from a1), ofS_ok (show u.kind = 3 from b1), ofS_ok (show v.kind = 3 from c1), ofS_ok (show x.kind = 3 from d1)]
  · unfold Pr.boxV
    rw [ofS_ok (show t.kind = 3 from a1), ofS_ok (show u.kind = 3 from b1), ofS_ok (show v.kind = 3 from c1), ofT_ok (show t.kind = 3 from a1), ofT_ok (show u.kind = 3 from b1), ofT_ok (show v.kind = 3 from c1), ofT_ok (show x.kind = 3 from d1), show t.n = b.x0.toNat from a3, show u.n = b.y0.toNat from b3, show v.n = b.x1.toNat from c3, show x.n = b.y1.toNat from d3, num_nat hb.1.1.1, num_nat hb.1.1.2, num_nat hb.1.2, num_nat hb.2]
def plusT (b : Box) : List T3 := (4, [43], 0) :: (boxG b []).map (·.1)
theorem boxG_map (b : Box) (z : Bytes) : (boxG b z).map (·.1) = (boxG b []).map (·.1) := rfl
theorem boxesG_map (l : List Box) : ∀ b : Box, (boxesG b l).map (·.1) = (boxG b []).map (·.1) ++ l.flatMap plusT := by
  induction l with
  | nil => intro b; unfold boxesG; simp
  | cons c l ih =>
    intro b
    unfold boxesG
    rw [List.map_append, List.map_cons, ih c, boxG_map, List.flatMap_cons]
    rfl
theorem more_ok (us : List T3) (l : List Box) : ∀ (f : Nat) (ts : List Tok), (∀ b ∈ l, Ru.boxN b = true) → ts.map strip = l.flatMap plusT ++ (4, [59], 0) :: us → ts.length < f →
    ∃ ts', Pr.moreS e f (rd ts) = rd ts' ∧ ts'.map strip = (4, [59], 0) :: us ∧ Pr.moreV e f (rd ts) = l := by
  induction l with
  | nil =>
    intro f ts _ h hf
    obtain ⟨f, rfl⟩ : ∃ g, f = g + 1 := ⟨f - 1, by omega⟩
    have h : ts.map strip = (4, [59], 0) :: us := h
    obtain ⟨t, ts', rfl, a1, a2, a3, a4⟩ := map_inv h
    have hn : Pr.is [43] (rd (t :: ts')) = false := is_no (by rw [a2]; decide)
    unfold Pr.moreS Pr.moreV
    rw [if_neg (by rw [hn]; decide), if_neg (by rw [hn]; decide)]
    exact ⟨_, rfl, h, rfl⟩
  | cons b l ih =>
    intro f ts hb h hf
    obtain ⟨f, rfl⟩ : ∃ g, f = g + 1 := ⟨f - 1, by omega⟩
    rw [List.flatMap_cons, List.append_assoc] at h
    obtain ⟨t, ts', rfl, a1, a2, a3, a4⟩ := map_inv h
    have hy : Pr.is [43] (rd (t :: ts')) = true := is_yes a2
    have eo : Pr.on (rd (t :: ts')) = rd ts' := rfl
    obtain ⟨ts2, b1, b2, b3, b4⟩ := box_ok (e := e) (hb b List.mem_cons_self) (z := []) (us := l.flatMap plusT ++ (4, [59], 0) :: us) (by rw [a4]; rfl)
    simp only [List.length_cons] at hf
    obtain ⟨ts3, c1, c2, c3⟩ := ih f ts2 (fun x hx => hb x (List.mem_cons_of_mem _ hx)) b2 (by omega)
    unfold Pr.moreS Pr.moreV
    rw [if_pos hy, if_pos hy, eo, b1, b3, c1, c3]
    exact ⟨_, rfl, c2, rfl⟩
theorem boxes_ok {us : List T3} {l : List Box} (h0 : l ≠ []) (hb : ∀ b ∈ l, Ru.boxN b = true) (h : ts.map strip = (boxesG0 l).map (·.1) ++ (4, [59], 0) :: us) :
    ∃ ts', Pr.boxesS e (rd ts) = rd ts' ∧ ts'.map strip = (4, [59], 0) :: us ∧ Pr.boxesV e (rd ts) = l := by
  cases l with
  | nil => exact absurd rfl h0
  | cons b l =>
    rw [show boxesG0 (b :: l) = boxesG b l from rfl, boxesG_map, List.append_assoc] at h
    obtain ⟨ts2, b1, b2, b3, b4⟩ := box_ok (e := e) (hb b List.mem_cons_self) h
    obtain ⟨ts3, c1, c2, c3⟩ := more_ok (e := e) us l (ts.length + 1) ts2 (fun x hx => hb x (List.mem_cons_of_mem _ hx)) b2 (by omega)
    unfold Pr.boxesS Pr.boxesV
    rw [b1, b3]
    exact ⟨ts3, c1, c2, by rw [c3]⟩

theorem unD_eq {a b : Decl} (h1 : a.kind = b.kind) (h2 : a.name = b.name) (h3 : a.n = b.n) (h4 : a.boxes = b.boxes) (h5 : unW a.role = unW b.role) (h6 : a.lo = b.lo) (h7 : a.hi = b.hi) (h8 : unW a.label = unW b.label) (h9 : unW a.place = unW b.place) (h10 : a.zoom = b.zoom) : unD a = unD b := by
  cases a
  cases b
  simp only at h1 h2 h3 h4 h5 h6 h7 h8 h9 h10
  subst h1 h2 h3 h4 h6 h7 h10
  unfold unD
  simp only [h5, h8, h9]
theorem unW_zero {w : Who} (h : Ru.zeroW w = true) : unW zeroWho = unW w := by
  unfold Ru.zeroW at h
  simp only [Bool.and_eq_true, Bool.not_eq_true', beq_iff_eq] at h
  exact unW_mk h.1.1.symm (nil_name h.1.2).symm h.2.symm
theorem noRule_eq {d : Decl} (h : Ru.noRule d = true) : 0 = d.lo ∧ 0 = d.hi ∧ 0 = d.zoom ∧ unW zeroWho = unW d.label ∧ unW zeroWho = unW d.place := by
  unfold Ru.noRule at h
  simp only [Bool.and_eq_true, beq_iff_eq] at h
  exact ⟨h.1.1.1.1.symm, h.1.1.1.2.symm, h.1.1.2.symm, unW_zero h.1.2, unW_zero h.2⟩
theorem kindOf_ok {k : Int} (h1 : 1 ≤ k) (h6 : k ≤ 6) (h : t.text = firstB k) : (Pr.kindOf (rd (t :: ts)) : Int) = k := by
  have hk : k = 1 ∨ k = 2 ∨ k = 3 ∨ k = 4 ∨ k = 5 ∨ k = 6 := by omega
  unfold Pr.kindOf
  rcases hk with rfl | rfl | rfl | rfl | rfl | rfl
  all_goals
    have h : t.text = _ := h
    simp only [Pr.is, h]
    decide
theorem decl_ok {d : Decl} {us : List T3} (hm : Ru.may d = true) (h : ts.map strip = (declG d).map (·.1) ++ us) :
    ∃ ts', Pr.declS e (rd ts) = rd ts' ∧ ts'.map strip = us ∧ unD (Pr.declV e (rd ts)) = unD d ∧ ts'.length < ts.length := by
  have hm' := may_cases hm
  have hk16 : 1 ≤ d.kind ∧ d.kind ≤ 6 := by cases hm' <;> omega
  unfold declG at h
  rw [List.map_cons, List.map_append, List.cons_append, List.append_assoc] at h
  obtain ⟨t, ts', rfl, a1, a2, a3, a4⟩ := map_inv h
  have hend : ∀ {ts4 : List Tok}, ts4.map strip = (4, [59], 0) :: us → ∃ ts5, Pr.want e [59] (rd ts4) = rd ts5 ∧ ts5.map strip = us := fun h4 => by
    obtain ⟨t4, ts5, rfl, e1, e2, e3, e4⟩ := map_inv h4
    exact ⟨ts5, want_ok e2, e4⟩
  have hlen : ∀ {ts4 : List Tok}, ts4.map strip = us → ts4.length < (t :: ts').length := fun h4 => by
    have l4 := congrArg List.length h4
    have l1 := congrArg List.length a4
    simp only [List.length_map, List.length_append, List.length_cons] at l4 l1 ⊢
    omega
  have ek := kindOf_ok (ts := ts') hk16.1 hk16.2 a2
  have eo : Pr.on (rd (t :: ts')) = rd ts' := rfl
  have a4 : ts'.map strip = (restG d).map (·.1) ++ ((4, [59], 0) :: us) := a4
  clear h a1 a2 a3
  unfold restG at a4
  unfold Pr.declS Pr.declV
  cases hm' with
  | named hk hn hi hb hr hz =>
    have kk0 : ¬ Pr.kindOf (rd (t :: ts')) = 0 := by omega
    have kk1 : Pr.kindOf (rd (t :: ts')) ≤ 2 := by omega
    rw [if_pos hk] at a4
    obtain ⟨u, us', rfl, b1, b2, b3, b4⟩ := map_inv a4
    obtain ⟨v, vs', rfl, c1, c2, c3, c4⟩ := map_inv b4
    obtain ⟨x, xs', rfl, d1, d2, d3, d4⟩ := map_inv c4
    obtain ⟨ts5, e1, e2⟩ := hend d4
    have hnm : Pr.named e (rd (t :: u :: v :: x :: xs')) = rd (x :: xs') := by
      unfold Pr.named
      rw [eo, ofS_ok (show u.kind = 1 from b1), want_ok (show v.text = [61] from c2)]
    obtain ⟨z1, z2, z3, z4, z5⟩ := noRule_eq hz
    simp only [if_neg kk0, if_pos kk1]
    rw [hnm, ofS_ok (show x.kind = 3 from d1), eo, ofT_ok (show u.kind = 1 from b1), ofT_ok (show x.kind = 3 from d1), show x.n = d.n.toNat from d3, show u.text = d.name.data.toList from b2, e1]
    exact ⟨ts5, rfl, e2, unD_eq ek (txt_self _) (num_nat hi) hb.symm (unW_zero hr) z1 z2 z4 z5 z3, hlen e2⟩
  | region hk hn hi hb h0 hr hz =>
    have kk0 : ¬ Pr.kindOf (rd (t :: ts')) = 0 := by omega
    have kk1 : ¬ Pr.kindOf (rd (t :: ts')) ≤ 2 := by omega
    have kk2 : Pr.kindOf (rd (t :: ts')) = 3 := by omega
    rw [if_neg (by omega), if_pos hk] at a4
    obtain ⟨u, us', rfl, b1, b2, b3, b4⟩ := map_inv a4
    obtain ⟨v, vs', rfl, c1, c2, c3, c4⟩ := map_inv b4
    obtain ⟨ts4, f1, f2, f3⟩ := boxes_ok (e := e) h0 hb c4
    obtain ⟨ts5, e1, e2⟩ := hend f2
    have hnm : Pr.named e (rd (t :: u :: v :: vs')) = rd vs' := by
      unfold Pr.named
      rw [eo, ofS_ok (show u.kind = 1 from b1), want_ok (show v.text = [61] from c2)]
    obtain ⟨z1, z2, z3, z4, z5⟩ := noRule_eq hz
    simp only [if_neg kk0, if_neg kk1, if_pos kk2]
    rw [hnm, f1, f3, eo, ofT_ok (show u.kind = 1 from b1), show u.text = d.name.data.toList from b2, e1]
    exact ⟨ts5, rfl, e2, unD_eq ek (txt_self _) hi.symm rfl (unW_zero hr) z1 z2 z4 z5 z3, hlen e2⟩
  | rule hk hn hi hb hr h1 h2 h3 hl hp =>
    have kk0 : ¬ Pr.kindOf (rd (t :: ts')) = 0 := by omega
    have kk1 : ¬ Pr.kindOf (rd (t :: ts')) ≤ 2 := by omega
    have kk2 : ¬ Pr.kindOf (rd (t :: ts')) = 3 := by omega
    have kk3 : ¬ Pr.kindOf (rd (t :: ts')) = 6 := by omega
    rw [if_neg (by omega), if_neg (by omega), if_neg (by omega)] at a4
    obtain ⟨u, us', rfl, b1, b2, b3, b4⟩ := map_inv a4
    obtain ⟨v, vs', rfl, c1, c2, c3, c4⟩ := map_inv b4
    obtain ⟨x, xs', rfl, d1, d2, d3, d4⟩ := map_inv c4
    rw [List.map_append] at d4
    have d4 : xs'.map strip = ((tiersG d.lo d.hi bl).map (·.1) ++ _) ++ _ := d4
    rw [List.append_assoc] at d4
    obtain ⟨y, f1, f2, f3, f4⟩ := tiers_ok (e := e) h1 h2 (k := 2) (x := wLabel) (n := 0) (by decide) d4
    obtain ⟨p, ps', rfl, g1, g2, g3, g4⟩ := map_inv f2
    obtain ⟨q, qs', rfl, i1, i2, i3, i4⟩ := map_inv g4
    obtain ⟨r, rs', rfl, j1, j2, j3, j4⟩ := map_inv i4
    obtain ⟨m, ms', rfl, k1, k2, k3, k4⟩ := map_inv j4
    obtain ⟨o, os', rfl, l1, l2, l3, l4⟩ := map_inv k4
    obtain ⟨z, zs', rfl, m1, m2, m3, m4⟩ := map_inv l4
    obtain ⟨ts5, e1, e2⟩ := hend m4
    have w1 := who_ok (e := e) (ts := x :: xs') hr c1 c2 c3
    have w2 := who_ok (e := e) (ts := r :: m :: o :: z :: zs') hl i1 i2 i3
    have w3 := where_ok (e := e) (ts := o :: z :: zs') hp k1 k2 k3
    have s1 : Pr.ru1 e (rd (u :: v :: x :: xs')) = rd (v :: x :: xs') := want_ok b2
    have s2 : Pr.ru2 e (rd (u :: v :: x :: xs')) = rd (x :: xs') := by unfold Pr.ru2; rw [s1]; exact w1.1
    have s3 : Pr.ru3 e (rd (u :: v :: x :: xs')) = rd xs' := by unfold Pr.ru3; rw [s2]; exact want_ok d2
    have s4 : Pr.ru4 e (rd (u :: v :: x :: xs')) = rd (q :: r :: m :: o :: z :: zs') := by unfold Pr.ru4; rw [s3, f1]; exact want_ok g2
    have s5 : Pr.ru5 e (rd (u :: v :: x :: xs')) = rd (m :: o :: z :: zs') := by unfold Pr.ru5; rw [s4, w2.1]; exact want_ok j2
    have s6 : Pr.ru6 e (rd (u :: v :: x :: xs')) = rd (z :: zs') := by unfold Pr.ru6; rw [s5, w3.1]; exact want_ok l2
    simp only [if_neg kk0, if_neg kk1, if_neg kk2, if_neg kk3]
    rw [eo]
    unfold Pr.ruleS Pr.ruleV
    rw [s1, s3, s4, s5, s6, ofS_ok (show z.kind = 3 from m1), ofT_ok (show z.kind = 3 from m1), show z.n = d.zoom.toNat from m3, e1]
    exact ⟨ts5, rfl, e2, unD_eq ek (nil_name hn).symm hi.symm hb.symm w1.2 f3 f4 w2.2 w3.2 (num_nat h3), hlen e2⟩
  | cloak hk hn hi hb hr hz =>
    have kk0 : ¬ Pr.kindOf (rd (t :: ts')) = 0 := by omega
    have kk1 : ¬ Pr.kindOf (rd (t :: ts')) ≤ 2 := by omega
    have kk2 : ¬ Pr.kindOf (rd (t :: ts')) = 3 := by omega
    have kk3 : Pr.kindOf (rd (t :: ts')) = 6 := by omega
    rw [if_neg (by omega), if_neg (by omega), if_pos hk] at a4
    obtain ⟨u, us', rfl, b1, b2, b3, b4⟩ := map_inv a4
    obtain ⟨v, vs', rfl, c1, c2, c3, c4⟩ := map_inv b4
    obtain ⟨ts5, e1, e2⟩ := hend c4
    have w1 := who_ok (e := e) (ts := vs') hr c1 c2 c3
    have s1 : Pr.want e wRole (rd (u :: v :: vs')) = rd (v :: vs') := want_ok b2
    obtain ⟨z1, z2, z3, z4, z5⟩ := noRule_eq hz
    simp only [if_neg kk0, if_neg kk1, if_neg kk2, if_pos kk3]
    rw [eo, s1, w1.1, e1]
    exact ⟨ts5, rfl, e2, unD_eq ek (nil_name hn).symm hi.symm hb.symm w1.2 z1 z2 z4 z5 z3, hlen e2⟩
theorem all_ok (l : List Decl) : ∀ (f : Nat) (ts : List Tok), (∀ d ∈ l, Ru.may d = true) → ts.map strip = (allG l).map (·.1) → ts.length < f →
    (Pr.parseS e f (rd ts)).f = (0, 0, 0) ∧ (Pr.parseV e f (rd ts)).map unD = l.map unD := by
  induction l with
  | nil =>
    intro f ts _ h hf
    obtain ⟨f, rfl⟩ : ∃ g, f = g + 1 := ⟨f - 1, by omega⟩
    have h0 : ts = [] := by simpa [allG] using h
    subst h0
    exact ⟨rfl, rfl⟩
  | cons d l ih =>
    intro f ts hm h hf
    obtain ⟨f, rfl⟩ : ∃ g, f = g + 1 := ⟨f - 1, by omega⟩
    unfold allG at h
    rw [List.flatMap_cons, List.map_append] at h
    obtain ⟨ts2, b1, b2, b3, b4⟩ := decl_ok (e := e) (hm d List.mem_cons_self) h
    have hc : (rd ts).l ≠ [] ∧ (rd ts).f.1 = 0 := ⟨fun h0 => by have h0 : ts = [] := h0; rw [h0] at b4; simp at b4, rfl⟩
    obtain ⟨c1, c2⟩ := ih f ts2 (fun x hx => hm x (List.mem_cons_of_mem _ hx)) b2 (by omega)
    unfold Pr.parseS Pr.parseV
    rw [if_pos hc, if_pos hc, b1, List.map_cons, c2, b3]
    exact ⟨c1, rfl⟩
end
/-- what may be is written, and read as it was, but for places -/
theorem parse_print {l : List Decl} (hm : ∀ d ∈ l, Ru.may d = true) (hn : (l.flatMap lineB).length ≤ 512) : ∃ ds, parse (l.flatMap lineB) = .ok ds ∧ ds.map unD = l.map unD := by
  obtain ⟨T, h1, h2⟩ := tokens_print hm hn
  obtain ⟨a1, a2⟩ := all_ok (e := posOf (l.flatMap lineB)) l (T.length + 1) T hm h2 (by omega)
  obtain ⟨b1, b2⟩ := rparse_eq T (posOf (l.flatMap lineB)) (T.length + 1)
  have h0 : (parseS T (posOf (l.flatMap lineB)) (T.length + 1) st0).f.1 = 0 := by rw [← b1]; rw [show (⟨T, (0, 0, 0)⟩ : Pr.R) = rd T from rfl, a1]
  rw [parse_T h1, if_pos h0]
  exact ⟨_, rfl, by rw [← b2 h0]; exact a2⟩
theorem parse_long {L : Bytes} (h : 512 < L.length) : parse L = .error (2, 1, 1) := by
  unfold parse tokens
  rw [if_pos h]

end Go.Proofs.YteddkgpnklfppaaGreatDoor.Pt
