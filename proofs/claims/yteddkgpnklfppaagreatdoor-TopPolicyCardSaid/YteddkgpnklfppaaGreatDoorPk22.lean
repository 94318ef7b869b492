/-
  Plain laws of the lexer: what each law says. No program.
  Plain laws of the policy's reader: what every step keeps; where faults are. No program.
  Plain laws of the lexer: two texts, a line's end between. No program.
-/
import Derived.Test.YteddkgpnklfppaaGreatDoorPk21
import Derived.Test.YteddkgpnklfppaaGreatDoorPk13

namespace Go.Proofs.YteddkgpnklfppaaGreatDoor.Lx

def joinL (b : Bytes) : List Tok → Bytes
  | [] => []
  | t :: ts => t.text ++ ts.flatMap fun u => b ++ u.text

theorem flatMap_ge {sep : Bytes} : ∀ (us : List T3), (∀ u ∈ us, Plain u) → us.length ≤ (us.flatMap fun u => sep ++ u.2.1).length
  | [], _ => by simp
  | u :: us, h => by
    have h1 := flatMap_ge (sep := sep) us (fun v hv => h v (List.mem_cons_of_mem _ hv))
    have h2 := (h u List.mem_cons_self).1
    simp only [List.flatMap_cons, List.length_append, List.length_cons]
    omega
theorem flatMap_strip (sep : Bytes) (ts : List Tok) : ((ts.map strip).flatMap fun v => sep ++ v.2.1) = ts.flatMap fun u => sep ++ u.text := by
  induction ts with
  | nil => rfl
  | cons t ts ih => simp only [List.map_cons, List.flatMap_cons, ih]; rfl

theorem tokens_relex {L sep z : Bytes} {ts : List Tok} (h : tokens L = .ok ts) (hs : Sep sep) (hz : Tail z) (hM : (joinL sep ts ++ z).length ≤ 512) :
    ∃ us, tokens (joinL sep ts ++ z) = .ok us ∧ us.map strip = ts.map strip := by
  have hp : ∀ t ∈ ts, Plain (strip t) := by
    unfold tokens at h
    split at h
    · cases h
    · exact plain_toks L _ 0 ts h
  have hp2 : ∀ v ∈ ts.map strip, Plain v := by
    intro v hv
    obtain ⟨t, ht, rfl⟩ := List.mem_map.1 hv
    exact hp t ht
  have key : lexL ((joinL sep ts ++ z).length + 1) ((joinL sep ts ++ z).drop 0) = .ok (ts.map strip) := by
    rw [List.drop_zero]
    cases ts with
    | nil => simp only [joinL, List.nil_append]; exact lexL_tail hz
    | cons t ts =>
      simp only [joinL, List.append_assoc, List.map_cons]
      rw [← flatMap_strip]
      refine relex (u := strip t) hs hz ?_ (by simpa using hp2)
      have h1 := flatMap_ge (sep := sep) (ts.map strip) (fun v hv => hp2 v (by rw [List.map_cons]; exact List.mem_cons_of_mem _ hv))
      simp only [List.length_append] at *
      omega
  rw [lexL_toks] at key
  unfold tokens
  rw [if_neg (by omega)]
  cases hr : toks (joinL sep ts ++ z) ((joinL sep ts ++ z).length + 1) 0 with
  | error x => rw [hr] at key; obtain ⟨e, l, c⟩ := x; cases key
  | ok us => rw [hr] at key; exact ⟨us, rfl, Except.ok.inj key⟩

theorem skip32 (l : Bytes) : skipN false (32 :: l) = 1 + skipN false l := rfl
theorem skip10 (l : Bytes) : skipN false (10 :: l) = 1 + skipN false l := rfl
theorem skip35 (l : Bytes) : skipN false (35 :: l) = 1 + skipN true l := rfl
theorem sep_blank : Sep [32] := ⟨fun x => skip32 x, fun _x => rfl⟩
theorem skip_in (r x : Bytes) (h : r.all (fun c => c != 10) = true) : skipN true (r ++ 10 :: x) = r.length + 1 + skipN false x := by
  induction r with
  | nil => simp only [List.nil_append, skipN, List.length_nil]; have : ((10 : UInt8) != 10) = false := rfl; rw [this]
  | cons c r ih =>
    simp only [List.all_cons, Bool.and_eq_true] at h
    simp only [List.cons_append, skipN, List.length_cons]
    rw [h.1, ih h.2]; omega
theorem tail_nil : Tail [] := ⟨rfl, rfl⟩
theorem tail_hash : Tail [32, 35] := ⟨rfl, rfl⟩
/-- a remark on a line of its own -/
def remark : Bytes := [10, 35, 32, 97, 32, 114, 101, 109, 97, 114, 107, 44, 32, 114, 111, 108, 101, 32, 110, 117, 114, 115, 101, 32, 61, 32, 51, 59, 10]
theorem sep_remark : Sep remark := ⟨fun x => by
  have e : remark ++ x = 10 :: 35 :: ([32, 97, 32, 114, 101, 109, 97, 114, 107, 44, 32, 114, 111, 108, 101, 32, 110, 117, 114, 115, 101, 32, 61, 32, 51, 59] ++ 10 :: x) := rfl
  rw [e, skip10, skip35, skip_in _ _ (by rfl)]
  have : remark.length = 29 := rfl
  rw [this]
  simp only [List.length_cons, List.length_nil]
  omega, fun _ => rfl⟩
/-- so many blanks, and a line's end -/
theorem sep_blanks : ∀ n : Nat, Sep (List.replicate n 32 ++ [10])
  | 0 => ⟨fun x => skip10 x, fun x => rfl⟩
  | n + 1 => by
    have ih := sep_blanks n
    refine ⟨fun x => ?_, fun x => rfl⟩
    have e : List.replicate (n + 1) (32 : UInt8) ++ [10] ++ x = 32 :: (List.replicate n 32 ++ [10] ++ x) := by rw [List.replicate_succ]; rfl
    rw [e, skip32, ih.skip]
    simp
    omega

/-! ### places rise -/
theorem adv_lt (p : Nat × Nat) (c : UInt8) : p.1 < (adv p c).1 ∨ (p.1 = (adv p c).1 ∧ p.2 < (adv p c).2) := by
  unfold adv; split <;> simp
theorem fold_le (l : Bytes) : ∀ p : Nat × Nat, p.1 < (l.foldl adv p).1 ∨ (p.1 = (l.foldl adv p).1 ∧ p.2 ≤ (l.foldl adv p).2) := by
  induction l with
  | nil => intro p; right; simp
  | cons c l ih =>
    intro p
    have h1 := adv_lt p c
    have h2 := ih (adv p c)
    simp only [List.foldl_cons]
    omega
theorem posOf_ne {L : Bytes} {a b : Nat} (hab : a < b) (hb : b ≤ L.length) : posOf (L.take a) ≠ posOf (L.take b) := by
  have e : L.take b = L.take a ++ L[a] :: (L.drop (a + 1)).take (b - a - 1) := by
    have h1 : L.take b = (L.take b).take a ++ (L.take b).drop a := (List.take_append_drop a _).symm
    rw [List.take_take, Nat.min_eq_left (by omega), List.drop_take, drop_cons (by omega)] at h1
    obtain ⟨m, hm⟩ : ∃ m, b - a = m + 1 := ⟨b - a - 1, by omega⟩
    rw [hm, List.take_succ_cons] at h1
    rw [h1, show b - a - 1 = m by omega]
  intro h
  unfold posOf at h
  rw [e, List.foldl_append, List.foldl_cons] at h
  generalize List.foldl adv (1, 1) (L.take a) = p at h
  have h1 := adv_lt p L[a]
  have h2 := fold_le ((L.drop (a + 1)).take (b - a - 1)) (adv p L[a])
  rw [← h] at h2
  omega

/-- tokens, one behind another, each where it lies -/
inductive Placed (L : Bytes) : Nat → List Tok → Prop
  | nil (i : Nat) : Placed L i []
  | cons {i a : Nat} {t : Tok} {ts : List Tok} (hi : i ≤ a) (ha : a + t.text.length ≤ L.length) (hp : 0 < t.text.length) (hpos : posOf (L.take a) = (t.line, t.col)) (ht : (L.drop a).take t.text.length = t.text)
      (h : Placed L (a + t.text.length) ts) : Placed L i (t :: ts)
theorem placed_toks (L : Bytes) : ∀ (f i : Nat) (ts : List Tok), i ≤ L.length → toks L f i = .ok ts → Placed L i ts := by
  intro f
  induction f with
  | zero =>
    intro i ts _ h
    simp only [toks, Except.ok.injEq] at h
    subst h
    exact .nil i
  | succ f ih =>
    intro i ts hi h
    simp only [toks] at h
    split at h
    · simp only [Except.ok.injEq] at h
      subst h
      exact .nil i
    · rename_i hlt
      cases ht : tok (L.drop (i + skipN false (L.drop i))) with
      | error e => rw [ht] at h; cases h
      | ok x =>
        obtain ⟨k, t, n⟩ := x
        rw [ht] at h
        simp only at h
        have hle := tok_le ht
        rw [List.length_drop] at hle
        cases hr : toks L f (i + skipN false (L.drop i) + t.length) with
        | error e => rw [hr] at h; cases h
        | ok us =>
          rw [hr] at h
          simp only [Except.map, Except.ok.injEq] at h
          subst h
          exact .cons (a := i + skipN false (L.drop i)) (by omega) (by show _ + t.length ≤ _; omega) (tok_pos ht) rfl (tok_prefix ht) (ih (i + skipN false (L.drop i) + t.length) us (by omega) hr)
theorem tokens_placed {L : Bytes} {ts : List Tok} (h : tokens L = .ok ts) : Placed L 0 ts := by
  unfold tokens at h
  split at h
  · cases h
  · exact placed_toks L _ 0 ts (Nat.zero_le _) h

/-! ### names -/
theorem tokens_word : ∀ w ∈ words, tokens w = .ok [⟨2, w, 0, 1, 1⟩] := by
  intro w hw
  simp only [words, List.mem_cons, List.not_mem_nil, or_false] at hw
  rcases hw with rfl | rfl | rfl | rfl | rfl | rfl | rfl | rfl | rfl | rfl | rfl <;> rfl
theorem word_isName {L : Bytes} (h : isWord L = true) : isName L = false := by
  unfold isName
  split
  · rfl
  · rw [h]; simp
theorem toks_at_end (L : Bytes) (f : Nat) : toks L f L.length = .ok [] := by
  cases f with
  | zero => rfl
  | succ f => simp only [toks]; rw [if_pos (by omega)]
theorem tokens_name {L : Bytes} (h : isName L = true) : tokens L = .ok [⟨1, L, 0, 1, 1⟩] := by
  cases L with
  | nil => simp [isName] at h
  | cons c l =>
    simp only [isName, Bool.and_eq_true, decide_eq_true_eq, Bool.not_eq_true'] at h
    obtain ⟨⟨⟨h16, hl⟩, hall⟩, hw⟩ := h
    have htw : (c :: l).takeWhile inner = c :: l := by have := takeWhile_app (rest := []) hall rfl; rwa [List.append_nil] at this
    have hs : skipN false (c :: l) = 0 := skipN_head (not_skip_letter hl)
    unfold tokens
    rw [if_neg (by omega)]
    simp only [toks, List.drop_zero]
    rw [hs, if_neg (by simp)]
    rw [Nat.add_zero, List.drop_zero, tok_cons, if_pos hl, htw, if_neg (by omega), hw]
    simp only [Bool.false_eq_true, if_false, Nat.zero_add]
    rw [toks_at_end]
    rfl
/-- one token, which is all -/
theorem tokens_single {L : Bytes} {t : Tok} (h : tokens L = .ok [t]) (ht : t.text = L) : isName L = decide (t.kind = 1) ∧ isWord L = decide (t.kind = 2) := by
  have hne : 0 < L.length := by
    cases tokens_placed h with
    | cons _ _ hp _ _ _ => rw [ht] at hp; exact hp
  have hp : Plain (strip t) := by
    unfold tokens at h
    split at h
    · cases h
    · exact plain_toks L _ 0 [t] h t List.mem_cons_self
  have htok := (hp.2 [] rfl).1
  simp only [strip, List.append_nil, ht] at htok
  cases L with
  | nil => simp at hne
  | cons c l =>
    rw [tok_cons] at htok
    by_cases hl : letter c = true
    · rw [if_pos hl] at htok
      split at htok
      · cases htok
      · rename_i h16
        have h2 := Except.ok.inj htok
        simp only [Prod.mk.injEq] at h2
        obtain ⟨h3, h4, _⟩ := h2
        rw [h4] at h3 h16
        have hall : (c :: l).all inner = true := by have := all_takeWhile inner (c :: l); rwa [h4] at this
        have e1 : isName (c :: l) = !isWord (c :: l) := by
          unfold isName
          simp only [hl, hall, Bool.and_true]
          rw [decide_eq_true (by omega)]; rfl
        rw [e1]
        cases hw : isWord (c :: l) with
        | true => rw [hw] at h3; simp only [if_true] at h3; rw [← h3]; exact ⟨rfl, rfl⟩
        | false => rw [hw] at h3; simp only [Bool.false_eq_true, if_false] at h3; rw [← h3]; exact ⟨rfl, rfl⟩
    · have e1 : isName (c :: l) = false := by
        unfold isName
        simp only [Bool.not_eq_true] at hl
        simp [hl]
      have e2 : isWord (c :: l) = false := by
        cases hw : isWord (c :: l) with
        | false => rfl
        | true =>
          have h5 := List.contains_iff_mem.1 hw
          have h6 : ∀ w ∈ words, ∀ x ∈ w.head?, letter x = true := by decide +kernel
          exact absurd (h6 _ h5 c rfl) hl
      rw [e1, e2]
      rw [if_neg hl] at htok
      have hk : t.kind ≠ 1 ∧ t.kind ≠ 2 := by
        split at htok
        · split at htok
          · cases htok
          · have h2 := Except.ok.inj htok
            simp only [Prod.mk.injEq] at h2
            omega
        · split at htok
          · have h2 := Except.ok.inj htok
            simp only [Prod.mk.injEq] at h2
            omega
          · split at htok
            · have h2 := Except.ok.inj htok
              simp only [Prod.mk.injEq] at h2
              omega
            · cases htok
      exact ⟨(decide_eq_false hk.1).symm, (decide_eq_false hk.2).symm⟩
/-- otherwise: neither -/
theorem not_single {L : Bytes} (h : ∀ t, tokens L = .ok [t] → t.text ≠ L) : isName L = false ∧ isWord L = false := by
  constructor
  · cases hn : isName L with
    | false => rfl
    | true => exact absurd rfl (h _ (tokens_name hn))
  · cases hn : isWord L with
    | false => rfl
    | true => exact absurd rfl (h _ (tokens_word L (List.contains_iff_mem.1 hn)))

end Go.Proofs.YteddkgpnklfppaaGreatDoor.Lx

namespace Go.Proofs.YteddkgpnklfppaaGreatDoor.Po
open Lx

section
variable {T : List Tok} {e : Nat × Nat} {Q : St → Prop}
/-- what 'on' and 'wrong' keep -/
structure Keeps (T : List Tok) (e : Nat × Nat) (Q : St → Prop) : Prop where
  on : ∀ a, a.at_ < T.length → Q a → Q (Po.on a)
  wrong : ∀ a, Q a → Q (Po.wrong T e a)
theorem Keeps.want (k : Keeps T e Q) (x : Bytes) {a : St} (h : Q a) : Q (Po.want T e x a) := by
  unfold Po.want; split
  · rename_i hi; exact k.on _ (lt_of_is hi) h
  · exact k.wrong _ h
theorem Keeps.take (k : Keeps T e Q) (n : Nat) {a : St} (h : Q a) : Q (takeSt T e n a) := by
  unfold takeSt; split
  · rename_i hi; exact k.on _ (lt_of_kindIs hi) h
  · exact k.wrong _ h
theorem Keeps.who (k : Keeps T e Q) {a : St} (h : Q a) : Q (whoS T e a) := by
  unfold whoS; split
  · rename_i hi; exact k.on _ (lt_of_is hi) h
  · split
    · exact k.take _ h
    · exact k.take _ h
theorem Keeps.where_ (k : Keeps T e Q) {a : St} (h : Q a) : Q (whereS T e a) := by
  unfold whereS; split
  · rename_i hi; exact k.on _ (lt_of_is hi) h
  · exact k.take _ h
theorem Keeps.tiers (k : Keeps T e Q) {a : St} (h : Q a) : Q (tiersS T e a) := by
  unfold tiersS; split
  · rename_i hi; exact k.on _ (lt_of_is hi) h
  · split
    · rename_i hi; exact k.take _ (k.on _ (lt_of_is hi) (k.take _ h))
    · exact k.take _ h
theorem Keeps.box (k : Keeps T e Q) {a : St} (h : Q a) : Q (boxS T e a) := k.take _ (k.take _ (k.take _ (k.take _ h)))
theorem Keeps.more (k : Keeps T e Q) (f : Nat) : ∀ {a : St}, Q a → Q (moreS T e f a) := by
  induction f with
  | zero => intro a h; exact h
  | succ f ih =>
    intro a h
    unfold moreS
    split
    · rename_i hi; exact ih (k.box (k.on _ (lt_of_is hi) h))
    · exact h
theorem Keeps.named (k : Keeps T e Q) {a : St} (h : Q a) : Q (namedS T e a) := k.take _ (k.want _ (k.take _ h))
theorem Keeps.region (k : Keeps T e Q) {a : St} (h : Q a) : Q (regionS T e a) := k.more _ (k.box (k.want _ (k.take _ h)))
theorem Keeps.cloak (k : Keeps T e Q) {a : St} (h : Q a) : Q (cloakS T e a) := k.who (k.want _ h)
theorem Keeps.rule (k : Keeps T e Q) {a : St} (h : Q a) : Q (ruleS T e a) := by
  unfold ruleS rs4 rs3 rs2 rs1
  exact k.take _ (k.want _ (k.where_ (k.want _ (k.who (k.want _ (k.tiers (k.want _ (k.cloak h))))))))
theorem Keeps.decl (k : Keeps T e Q) {a : St} (h : Q a) : Q (declS T e a) := by
  unfold declS
  refine k.want _ ?_
  have ho : ∀ {x : Bytes}, is T x a = true → Q (Po.on a) := fun hi => k.on _ (lt_of_is hi) h
  split
  · rename_i hi; exact k.named (ho hi)
  · split
    · rename_i hi; exact k.named (ho hi)
    · split
      · rename_i hi; exact k.region (ho hi)
      · split
        · rename_i hi; exact k.rule (ho hi)
        · split
          · rename_i hi; exact k.rule (ho hi)
          · split
            · rename_i hi; exact k.cloak (ho hi)
            · exact k.rule (k.wrong _ h)
theorem Keeps.parse (k : Keeps T e Q) (f : Nat) : ∀ {a : St}, Q a → Q (parseS T e f a) := by
  induction f with
  | zero => intro a h; exact h
  | succ f ih =>
    intro a h
    unfold parseS
    split
    · exact ih (k.decl h)
    · exact h
end

/-- the lexer's errors are none of the reader's -/
theorem tok_code {l : Bytes} {er : Nat} (h : tok l = .error er) : er ≠ 31 := by
  unfold tok at h
  split at h
  · cases h; decide
  · split at h
    · simp only at h
      split at h
      · cases h; decide
      · cases h
    · split at h
      · simp only at h
        split at h
        · cases h; decide
        · cases h
      · split at h
        · cases h
        · split at h
          · cases h
          · cases h; decide
theorem toks_code (L : Bytes) (f : Nat) : ∀ (i : Nat) (x : Fault), toks L f i = .error x → x.1 ≠ 31 := by
  induction f with
  | zero => intro i x h; simp [toks] at h
  | succ f ih =>
    intro i x h
    simp only [toks] at h
    split at h
    · cases h
    · split at h
      · rename_i er ht
        cases h
        exact tok_code ht
      · rename_i k w n ht
        cases hr : toks L f (i + skipN false (L.drop i) + w.length) with
        | error y =>
          rw [hr] at h
          simp only [Except.map, Except.error.injEq] at h
          subst h
          exact ih _ _ hr
        | ok us => rw [hr] at h; cases h
theorem tokens_code {L : Bytes} {x : Fault} (h : tokens L = .error x) : x.1 ≠ 31 := by
  unfold tokens at h
  split at h
  · cases h; decide
  · exact toks_code L _ _ _ h

/-- a place of a text, or its end -/
def AtPlace (L : Bytes) (l c : Nat) : Prop := ∃ i, i ≤ L.length ∧ posOf (L.take i) = (l, c)
theorem placed_mem {L : Bytes} {a : Nat} {ts : List Tok} (h : Placed L a ts) : ∀ t ∈ ts, AtPlace L t.line t.col := by
  induction h with
  | nil => intro t ht; simp at ht
  | cons h1 h2 h3 h4 h5 h6 ih =>
    intro t ht
    rcases List.mem_cons.1 ht with rfl | ht
    · exact ⟨_, by omega, h4⟩
    · exact ih t ht
/-- a fault of the reader stands at a place of the text -/
theorem parse_fault {L : Bytes} {er l c : Nat} (h : parse L = .error (er, l, c)) (h31 : er = 31) : AtPlace L l c := by
  subst h31
  unfold parse at h
  cases hk : tokens L with
  | error f =>
    rw [hk] at h
    simp only [Except.error.injEq] at h
    subst h
    exact absurd rfl (tokens_code hk)
  | ok T =>
    rw [hk] at h
    simp only at h
    have hpl := placed_mem (tokens_placed hk)
    have k : Keeps T (posOf L) fun st => st.f.1 = 0 ∨ AtPlace L st.f.2.1 st.f.2.2 := by
      refine ⟨fun a _ h => h, fun a h => ?_⟩
      unfold wrong
      split
      · refine .inr ?_
        unfold place mkFault
        cases ht : T[a.at_]? with
        | none => exact ⟨L.length, Nat.le_refl _, by rw [List.take_length]⟩
        | some t => exact hpl t (List.mem_of_getElem? ht)
      · exact h
    split at h
    · cases h
    · rename_i hne
      have := k.parse (T.length + 1) (a := st0) (.inl rfl)
      simp only [Except.error.injEq] at h
      rw [h] at this hne
      rcases this with h0 | h0
      · exact absurd h0 hne
      · exact h0

end Go.Proofs.YteddkgpnklfppaaGreatDoor.Po

namespace Go.Proofs.YteddkgpnklfppaaGreatDoor.Lx

theorem toks_fuel (L : Bytes) : ∀ (f g i : Nat), L.length < f + i → L.length < g + i → toks L f i = toks L g i := by
  intro f
  induction f with
  | zero =>
    intro g i h1 h2
    have hl : L.length ≤ i + skipN false (L.drop i) := by omega
    cases g with
    | zero => rfl
    | succ g => simp only [toks]; rw [if_pos hl]
  | succ f ih =>
    intro g i h1 h2
    cases g with
    | zero =>
      have hl : L.length ≤ i + skipN false (L.drop i) := by omega
      simp only [toks]; rw [if_pos hl]
    | succ g =>
      simp only [toks]
      by_cases hl : L.length ≤ i + skipN false (L.drop i)
      · rw [if_pos hl, if_pos hl]
      · rw [if_neg hl, if_neg hl]
        cases ht : tok (L.drop (i + skipN false (L.drop i))) with
        | error er => rfl
        | ok x =>
          obtain ⟨k, w, n⟩ := x
          have := tok_pos ht
          simp only
          rw [ih g (i + skipN false (L.drop i) + w.length) (by omega) (by omega)]

/-- a token moved on by so many lines -/
def down (k : Nat) (t : Tok) : Tok := { t with line := t.line + k }
theorem fold_down (k : Nat) (l : Bytes) : ∀ p : Nat × Nat, l.foldl adv (p.1 + k, p.2) = ((l.foldl adv p).1 + k, (l.foldl adv p).2) := by
  induction l with
  | nil => intro p; rfl
  | cons c l ih =>
    intro p
    rw [List.foldl_cons, List.foldl_cons, ← ih]
    congr 1
    unfold adv
    split
    · show (p.1 + k + 1, 1) = (p.1 + 1 + k, 1); rw [Nat.add_right_comm]
    · rfl
theorem posOf_down (x y : Bytes) : posOf (x ++ 10 :: y) = ((posOf y).1 + (posOf x).1, (posOf y).2) := by
  unfold posOf
  rw [List.foldl_append, List.foldl_cons]
  have h : adv (x.foldl adv (1, 1)) 10 = (((1, 1) : Nat × Nat).1 + (x.foldl adv (1, 1)).1, ((1, 1) : Nat × Nat).2) := by
    unfold adv
    rw [if_pos rfl, Nat.add_comm]
  rw [h, fold_down]

theorem drop_snd (x y : Bytes) (j : Nat) : (x ++ 10 :: y).drop (x.length + 1 + j) = y.drop j := by
  rw [List.drop_append, List.drop_eq_nil_of_le (by omega), List.nil_append, show x.length + 1 + j - x.length = j + 1 by omega, List.drop_succ_cons]
theorem take_snd (x y : Bytes) (j : Nat) : (x ++ 10 :: y).take (x.length + 1 + j) = x ++ 10 :: y.take j := by
  rw [List.take_append, List.take_of_length_le (by omega), show x.length + 1 + j - x.length = j + 1 by omega, List.take_succ_cons]
/-- the second text's tokens -/
theorem toks_snd (x y : Bytes) (f : Nat) : ∀ (j : Nat) (ts : List Tok), toks y f j = .ok ts → toks (x ++ 10 :: y) f (x.length + 1 + j) = .ok (ts.map (down (posOf x).1)) := by
  have hlen : (x ++ 10 :: y).length = x.length + 1 + y.length := by simp; omega
  induction f with
  | zero => intro j ts h; simp only [toks, Except.ok.injEq] at h ⊢; subst h; rfl
  | succ f ih =>
    intro j ts h
    simp only [toks] at h ⊢
    rw [drop_snd]
    by_cases hl : y.length ≤ j + skipN false (y.drop j)
    · rw [if_pos hl] at h
      rw [if_pos (by omega)]
      cases h
      rfl
    · rw [if_neg hl] at h
      rw [if_neg (by omega), show x.length + 1 + j + skipN false (y.drop j) = x.length + 1 + (j + skipN false (y.drop j)) by omega, drop_snd]
      cases ht : tok (y.drop (j + skipN false (y.drop j))) with
      | error er => rw [ht] at h; cases h
      | ok z =>
        obtain ⟨k, w, n⟩ := z
        rw [ht] at h
        simp only at h ⊢
        cases hr : toks y f (j + skipN false (y.drop j) + w.length) with
        | error er => rw [hr] at h; cases h
        | ok us =>
          rw [hr] at h
          simp only [Except.map, Except.ok.injEq] at h
          subst h
          rw [show x.length + 1 + (j + skipN false (y.drop j)) + w.length = x.length + 1 + (j + skipN false (y.drop j) + w.length) by omega, ih _ us hr, take_snd, posOf_down]
          simp only [Except.map, List.map_cons, down]

theorem skipN_join (y : Bytes) : ∀ (b : Bool) (x : Bytes), skipN b (x ++ 10 :: y) = if skipN b x < x.length then skipN b x else x.length + 1 + skipN false y
  | true, [] => by show skipN true (10 :: y) = _; simp [skipN]
  | false, [] => by show skipN false (10 :: y) = _; simp [skipN, blank]
  | true, c :: x => by
    have h := skipN_join y (c != 10) x
    have e1 : skipN true (c :: (x ++ 10 :: y)) = 1 + skipN (c != 10) (x ++ 10 :: y) := rfl
    have e2 : skipN true (c :: x) = 1 + skipN (c != 10) x := rfl
    rw [List.cons_append, e1, e2, List.length_cons, h]
    by_cases hl : skipN (c != 10) x < x.length
    · rw [if_pos hl, if_pos (by omega)]
    · rw [if_neg hl, if_neg (by omega)]; omega
  | false, c :: x => by
    have h1 := skipN_join y true x
    have h2 := skipN_join y false x
    have e1 : ∀ z, skipN false (c :: z) = if c == 35 then 1 + skipN true z else if blank c then 1 + skipN false z else 0 := fun z => rfl
    rw [List.cons_append, e1, e1, List.length_cons, h1, h2]
    cases c == 35 with
    | true =>
      simp only [if_true]
      by_cases hl : skipN true x < x.length
      · rw [if_pos hl, if_pos (by omega)]
      · rw [if_neg hl, if_neg (by omega)]; omega
    | false =>
      simp only [if_false, Bool.false_eq_true]
      cases blank c with
      | true =>
        simp only [if_true]
        by_cases hl : skipN false x < x.length
        · rw [if_pos hl, if_pos (by omega)]
        · rw [if_neg hl, if_neg (by omega)]; omega
      | false => simp
theorem takeWhile_join {p : UInt8 → Bool} (hp : p 10 = false) (y : Bytes) : ∀ x : Bytes, (x ++ 10 :: y).takeWhile p = x.takeWhile p
  | [] => by simp [hp]
  | c :: x => by
    have h := takeWhile_join hp y x
    rw [List.cons_append, List.takeWhile_cons, List.takeWhile_cons, h]
theorem tok_join {x y : Bytes} {k n : Nat} {w : Bytes} (h : tok x = .ok (k, w, n)) : tok (x ++ 10 :: y) = .ok (k, w, n) := by
  cases x with
  | nil => simp [tok] at h
  | cons c x =>
    rw [List.cons_append, tok_cons]
    rw [tok_cons] at h
    have h1 := takeWhile_join (p := inner) (by decide) y (c :: x)
    have h2 := takeWhile_join (p := digit) (by decide) y (c :: x)
    rw [List.cons_append] at h1 h2
    rw [h1, h2]
    cases x with
    | nil =>
      simp only [List.nil_append, List.head?_cons, List.head?_nil, reduceCtorEq, and_false, if_false] at h ⊢
      split at h
      · rename_i hc; rw [if_pos hc]; exact h
      · rename_i hc
        rw [if_neg hc]
        split at h
        · rename_i hd; rw [if_pos hd]; exact h
        · rename_i hd
          rw [if_neg hd]
          split at h
          · rename_i hm; rw [if_pos hm]; exact h
          · cases h
    | cons d x => simpa using h

/-- the first text's tokens, then the rest -/
theorem toks_fst (x y : Bytes) (us : List Tok) (g : Nat) (hg : toks (x ++ 10 :: y) g (x.length + 1) = .ok us) (hgf : y.length < g) (f : Nat) : ∀ (i : Nat) (ts : List Tok), i ≤ x.length → x.length < f + i → toks x f i = .ok ts →
    toks (x ++ 10 :: y) (f + g) i = .ok (ts ++ us) := by
  have hlen : (x ++ 10 :: y).length = x.length + 1 + y.length := by simp; omega
  induction f with
  | zero => intro i ts hi hf h; omega
  | succ f ih =>
    intro i ts hi hf h
    have hdr : ∀ a, a ≤ x.length → (x ++ 10 :: y).drop a = x.drop a ++ 10 :: y := fun a ha => by rw [List.drop_append, show a - x.length = 0 by omega, List.drop_zero]
    have hsk := skipN_join y false (x.drop i)
    rw [List.length_drop] at hsk
    simp only [toks] at h
    by_cases hl : x.length ≤ i + skipN false (x.drop i)
    · rw [if_pos hl] at h
      cases h
      rw [if_neg (by omega)] at hsk
      rw [List.nil_append, ← hg]
      have hg2 : 0 < g := by omega
      obtain ⟨g', rfl⟩ : ∃ g', g = g' + 1 := ⟨g - 1, by omega⟩
      rw [show f + 1 + (g' + 1) = (f + g' + 1) + 1 by omega]
      have hFg : g' ≤ f + g' + 1 := by omega
      generalize f + g' + 1 = F at hFg
      have hd2 := drop_snd x y 0
      rw [Nat.add_zero, List.drop_zero] at hd2
      simp only [toks]
      rw [hdr i hi, hsk, hd2]
      have e1 : i + (x.length - i + 1 + skipN false y) = x.length + 1 + skipN false y := by omega
      rw [e1]
      by_cases hl2 : (x ++ 10 :: y).length ≤ x.length + 1 + skipN false y
      · rw [if_pos hl2, if_pos hl2]
      · rw [if_neg hl2, if_neg hl2]
        cases ht : tok ((x ++ 10 :: y).drop (x.length + 1 + skipN false y)) with
        | error er => rfl
        | ok z =>
          obtain ⟨k, w, n⟩ := z
          have := tok_pos ht
          simp only
          rw [toks_fuel (x ++ 10 :: y) F g' (x.length + 1 + skipN false y + w.length) (by omega) (by omega)]
    · rw [if_neg hl] at h
      rw [if_pos (by omega)] at hsk
      rw [show f + 1 + g = (f + g) + 1 by omega]
      simp only [toks]
      rw [hdr i hi, hsk, if_neg (by omega), hdr _ (by omega)]
      cases ht : tok (x.drop (i + skipN false (x.drop i))) with
      | error er => rw [ht] at h; cases h
      | ok z =>
        obtain ⟨k, w, n⟩ := z
        rw [ht] at h
        rw [tok_join ht]
        have hp := tok_pos ht
        have hle := tok_le ht
        rw [List.length_drop] at hle
        simp only at h ⊢
        cases hr : toks x f (i + skipN false (x.drop i) + w.length) with
        | error er => rw [hr] at h; cases h
        | ok vs =>
          rw [hr] at h
          simp only [Except.map, Except.ok.injEq] at h
          subst h
          rw [ih _ vs (by omega) (by omega) hr]
          have htk : (x ++ 10 :: y).take (i + skipN false (x.drop i)) = x.take (i + skipN false (x.drop i)) := by rw [List.take_append, show i + skipN false (x.drop i) - x.length = 0 by omega, List.take_zero, List.append_nil]
          rw [htk]
          rfl
theorem tokens_join {x y : Bytes} {ts us : List Tok} (hx : tokens x = .ok ts) (hy : tokens y = .ok us) (hl : x.length + y.length ≤ 511) : tokens (x ++ 10 :: y) = .ok (ts ++ us.map (down (posOf x).1)) := by
  have hlen : (x ++ 10 :: y).length = x.length + 1 + y.length := by simp; omega
  unfold tokens at *
  rw [if_neg (by omega)] at hx hy
  rw [if_neg (by omega)]
  have h2 := toks_snd x y (y.length + 1) 0 us hy
  rw [Nat.add_zero] at h2
  have h1 := toks_fst x y _ (y.length + 1) h2 (by omega) (x.length + 1) 0 ts (Nat.zero_le _) (by omega) hx
  rw [toks_fuel _ ((x ++ 10 :: y).length + 1) (x.length + 1 + (y.length + 1)) 0 (by omega) (by omega)]
  exact h1

end Go.Proofs.YteddkgpnklfppaaGreatDoor.Lx
