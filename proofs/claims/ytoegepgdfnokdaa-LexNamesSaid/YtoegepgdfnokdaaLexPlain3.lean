/- Plain laws of the lexer: what each law says. No program. -/
import Derived.Test.YtoegepgdfnokdaaLexPlain2
namespace Go.Proofs.Ytoegepgdfnokdaa.Lx

def joinL (b : Bytes) : List Tok → Bytes
  | [] => []
  | t :: ts => t.text ++ ts.flatMap fun u => b ++ u.text

theorem flatMap_ge {sep : Bytes} : ∀ (us : List T3), (∀ u ∈ us, Plain u) → us.length ≤ (us.flatMap fun u => sep ++ u.2.1).length
  | [], _ => by simp
  | u :: us, h => by
    have h1 := flatMap_ge (sep := sep) us (fun v hv => h v (List.mem_cons_of_mem _ hv))
    have h2 := (h u List.mem_cons_self).1
    simp only [List.flatMap_cons, List.length_append, List.length_cons]
    omega
theorem flatMap_strip (sep : Bytes) (ts : List Tok) : ((ts.map strip).flatMap fun v => sep ++ v.2.1) = ts.flatMap fun u => sep ++ u.text := by
  induction ts with
  | nil => rfl
  | cons t ts ih => simp only [List.map_cons, List.flatMap_cons, ih]; rfl

theorem tokens_relex {L sep z : Bytes} {ts : List Tok} (h : tokens L = .ok ts) (hs : Sep sep) (hz : Tail z) (hM : (joinL sep ts ++ z).length ≤ 512) :
    ∃ us, tokens (joinL sep ts ++ z) = .ok us ∧ us.map strip = ts.map strip := by
  have hp : ∀ t ∈ ts, Plain (strip t) := by
    unfold tokens at h
    split at h
    · cases h
    · exact plain_toks L _ 0 ts h
  have hp2 : ∀ v ∈ ts.map strip, Plain v := by
    intro v hv
    obtain ⟨t, ht, rfl⟩ := List.mem_map.1 hv
    exact hp t ht
  have key : lexL ((joinL sep ts ++ z).length + 1) ((joinL sep ts ++ z).drop 0) = .ok (ts.map strip) := by
    rw [List.drop_zero]
    cases ts with
    | nil => simp only [joinL, List.nil_append]; exact lexL_tail hz
    | cons t ts =>
      simp only [joinL, List.append_assoc, List.map_cons]
      rw [← flatMap_strip]
      refine relex (u := strip t) hs hz ?_ (by simpa using hp2)
      have h1 := flatMap_ge (sep := sep) (ts.map strip) (fun v hv => hp2 v (by rw [List.map_cons]; exact List.mem_cons_of_mem _ hv))
      simp only [List.length_append] at *
      omega
  rw [lexL_toks] at key
  unfold tokens
  rw [if_neg (by omega)]
  cases hr : toks (joinL sep ts ++ z) ((joinL sep ts ++ z).length + 1) 0 with
  | error x => rw [hr] at key; obtain ⟨e, l, c⟩ := x; cases key
  | ok us => rw [hr] at key; exact ⟨us, rfl, Except.ok.inj key⟩

theorem skip32 (l : Bytes) : skipN false (32 :: l) = 1 + skipN false l := rfl
theorem skip10 (l : Bytes) : skipN false (10 :: l) = 1 + skipN false l := rfl
theorem skip35 (l : Bytes) : skipN false (35 :: l) = 1 + skipN true l := rfl
theorem sep_blank : Sep [32] := ⟨fun x => skip32 x, fun x => rfl⟩
theorem skip_in (r x : Bytes) (h : r.all (fun c => c != 10) = true) : skipN true (r ++ 10 :: x) = r.length + 1 + skipN false x := by
  induction r with
  | nil => simp only [List.nil_append, skipN, List.length_nil]; have : ((10 : UInt8) != 10) = false := rfl; rw [this]
  | cons c r ih =>
    simp only [List.all_cons, Bool.and_eq_true] at h
    simp only [List.cons_append, skipN, List.length_cons]
    rw [h.1, ih h.2]; omega
theorem tail_nil : Tail [] := ⟨rfl, rfl⟩
theorem tail_hash : Tail [32, 35] := ⟨rfl, rfl⟩
/-- a remark on a line of its own -/
def remark : Bytes := [10, 35, 32, 97, 32, 114, 101, 109, 97, 114, 107, 44, 32, 114, 111, 108, 101, 32, 110, 117, 114, 115, 101, 32, 61, 32, 51, 59, 10]
theorem sep_remark : Sep remark := ⟨fun x => by
  have e : remark ++ x = 10 :: 35 :: ([32, 97, 32, 114, 101, 109, 97, 114, 107, 44, 32, 114, 111, 108, 101, 32, 110, 117, 114, 115, 101, 32, 61, 32, 51, 59] ++ 10 :: x) := rfl
  rw [e, skip10, skip35, skip_in _ _ (by rfl)]
  have : remark.length = 29 := rfl
  rw [this]
  simp only [List.length_cons, List.length_nil]
  omega, fun _ => rfl⟩
/-- so many blanks, and a line's end -/
theorem sep_blanks : ∀ n : Nat, Sep (List.replicate n 32 ++ [10])
  | 0 => ⟨fun x => skip10 x, fun x => rfl⟩
  | n + 1 => by
    have ih := sep_blanks n
    refine ⟨fun x => ?_, fun x => rfl⟩
    have e : List.replicate (n + 1) (32 : UInt8) ++ [10] ++ x = 32 :: (List.replicate n 32 ++ [10] ++ x) := by rw [List.replicate_succ]; rfl
    rw [e, skip32, ih.skip]
    simp
    omega

/-! ### places rise -/
theorem adv_lt (p : Nat × Nat) (c : UInt8) : p.1 < (adv p c).1 ∨ (p.1 = (adv p c).1 ∧ p.2 < (adv p c).2) := by
  unfold adv; split <;> simp
theorem fold_le (l : Bytes) : ∀ p : Nat × Nat, p.1 < (l.foldl adv p).1 ∨ (p.1 = (l.foldl adv p).1 ∧ p.2 ≤ (l.foldl adv p).2) := by
  induction l with
  | nil => intro p; right; simp
  | cons c l ih =>
    intro p
    have h1 := adv_lt p c
    have h2 := ih (adv p c)
    simp only [List.foldl_cons]
    omega
theorem posOf_ne {L : Bytes} {a b : Nat} (hab : a < b) (hb : b ≤ L.length) : posOf (L.take a) ≠ posOf (L.take b) := by
  have e : L.take b = L.take a ++ L[a] :: (L.drop (a + 1)).take (b - a - 1) := by
    have h1 : L.take b = (L.take b).take a ++ (L.take b).drop a := (List.take_append_drop a _).symm
    rw [List.take_take, Nat.min_eq_left (by omega), List.drop_take, drop_cons (by omega)] at h1
    obtain ⟨m, hm⟩ : ∃ m, b - a = m + 1 := ⟨b - a - 1, by omega⟩
    rw [hm, List.take_succ_cons] at h1
    rw [h1, show b - a - 1 = m by omega]
  intro h
  unfold posOf at h
  rw [e, List.foldl_append, List.foldl_cons] at h
  generalize List.foldl adv (1, 1) (L.take a) = p at h
  have h1 := adv_lt p L[a]
  have h2 := fold_le ((L.drop (a + 1)).take (b - a - 1)) (adv p L[a])
  rw [← h] at h2
  omega

/-- tokens, one behind another, each where it lies -/
inductive Placed (L : Bytes) : Nat → List Tok → Prop
  | nil (i : Nat) : Placed L i []
  | cons {i a : Nat} {t : Tok} {ts : List Tok} (hi : i ≤ a) (ha : a + t.text.length ≤ L.length) (hp : 0 < t.text.length) (hpos : posOf (L.take a) = (t.line, t.col)) (ht : (L.drop a).take t.text.length = t.text)
      (h : Placed L (a + t.text.length) ts) : Placed L i (t :: ts)
theorem placed_toks (L : Bytes) : ∀ (f i : Nat) (ts : List Tok), i ≤ L.length → toks L f i = .ok ts → Placed L i ts := by
  intro f
  induction f with
  | zero =>
    intro i ts _ h
    simp only [toks, Except.ok.injEq] at h
    subst h
    exact .nil i
  | succ f ih =>
    intro i ts hi h
    simp only [toks] at h
    split at h
    · simp only [Except.ok.injEq] at h
      subst h
      exact .nil i
    · rename_i hlt
      cases ht : tok (L.drop (i + skipN false (L.drop i))) with
      | error e => rw [ht] at h; cases h
      | ok x =>
        obtain ⟨k, t, n⟩ := x
        rw [ht] at h
        simp only at h
        have hle := tok_le ht
        rw [List.length_drop] at hle
        cases hr : toks L f (i + skipN false (L.drop i) + t.length) with
        | error e => rw [hr] at h; cases h
        | ok us =>
          rw [hr] at h
          simp only [Except.map, Except.ok.injEq] at h
          subst h
          exact .cons (a := i + skipN false (L.drop i)) (by omega) (by show _ + t.length ≤ _; omega) (tok_pos ht) rfl (tok_prefix ht) (ih (i + skipN false (L.drop i) + t.length) us (by omega) hr)
theorem tokens_placed {L : Bytes} {ts : List Tok} (h : tokens L = .ok ts) : Placed L 0 ts := by
  unfold tokens at h
  split at h
  · cases h
  · exact placed_toks L _ 0 ts (Nat.zero_le _) h

/-! ### names -/
theorem tokens_word : ∀ w ∈ words, tokens w = .ok [⟨2, w, 0, 1, 1⟩] := by
  intro w hw
  simp only [words, List.mem_cons, List.not_mem_nil, or_false] at hw
  rcases hw with rfl | rfl | rfl | rfl | rfl | rfl | rfl | rfl | rfl | rfl | rfl <;> rfl
theorem word_isName {L : Bytes} (h : isWord L = true) : isName L = false := by
  unfold isName
  split
  · rfl
  · rw [h]; simp
theorem toks_at_end (L : Bytes) (f : Nat) : toks L f L.length = .ok [] := by
  cases f with
  | zero => rfl
  | succ f => simp only [toks]; rw [if_pos (by omega)]
theorem tokens_name {L : Bytes} (h : isName L = true) : tokens L = .ok [⟨1, L, 0, 1, 1⟩] := by
  cases L with
  | nil => simp [isName] at h
  | cons c l =>
    simp only [isName, Bool.and_eq_true, decide_eq_true_eq, Bool.not_eq_true'] at h
    obtain ⟨⟨⟨h16, hl⟩, hall⟩, hw⟩ := h
    have htw : (c :: l).takeWhile inner = c :: l := by have := takeWhile_app (rest := []) hall rfl; rwa [List.append_nil] at this
    have hs : skipN false (c :: l) = 0 := skipN_head (not_skip_letter hl)
    unfold tokens
    rw [if_neg (by omega)]
    simp only [toks, List.drop_zero]
    rw [hs, if_neg (by simp)]
    rw [Nat.add_zero, List.drop_zero, tok_cons, if_pos hl, htw, if_neg (by omega), hw]
    simp only [Bool.false_eq_true, if_false, Nat.zero_add]
    rw [toks_at_end]
    rfl
/-- one token, which is all -/
theorem tokens_single {L : Bytes} {t : Tok} (h : tokens L = .ok [t]) (ht : t.text = L) : isName L = decide (t.kind = 1) ∧ isWord L = decide (t.kind = 2) := by
  have hne : 0 < L.length := by
    cases tokens_placed h with
    | cons _ _ hp _ _ _ => rw [ht] at hp; exact hp
  have hp : Plain (strip t) := by
    unfold tokens at h
    split at h
    · cases h
    · exact plain_toks L _ 0 [t] h t List.mem_cons_self
  have htok := (hp.2 [] rfl).1
  simp only [strip, List.append_nil, ht] at htok
  cases L with
  | nil => simp at hne
  | cons c l =>
    rw [tok_cons] at htok
    by_cases hl : letter c = true
    · rw [if_pos hl] at htok
      split at htok
      · cases htok
      · rename_i h16
        have h2 := Except.ok.inj htok
        simp only [Prod.mk.injEq] at h2
        obtain ⟨h3, h4, _⟩ := h2
        rw [h4] at h3 h16
        have hall : (c :: l).all inner = true := by have := all_takeWhile inner (c :: l); rwa [h4] at this
        have e1 : isName (c :: l) = !isWord (c :: l) := by
          unfold isName
          simp only [hl, hall, Bool.and_true]
          rw [decide_eq_true (by omega)]; rfl
        rw [e1]
        cases hw : isWord (c :: l) with
        | true => rw [hw] at h3; simp only [if_true] at h3; rw [← h3]; exact ⟨rfl, rfl⟩
        | false => rw [hw] at h3; simp only [Bool.false_eq_true, if_false] at h3; rw [← h3]; exact ⟨rfl, rfl⟩
    · have e1 : isName (c :: l) = false := by
        unfold isName
        simp only [Bool.not_eq_true] at hl
        simp [hl]
      have e2 : isWord (c :: l) = false := by
        cases hw : isWord (c :: l) with
        | false => rfl
        | true =>
          have h5 := List.contains_iff_mem.1 hw
          have h6 : ∀ w ∈ words, ∀ x ∈ w.head?, letter x = true := by decide +kernel
          exact absurd (h6 _ h5 c rfl) hl
      rw [e1, e2]
      rw [if_neg hl] at htok
      have hk : t.kind ≠ 1 ∧ t.kind ≠ 2 := by
        split at htok
        · split at htok
          · cases htok
          · have h2 := Except.ok.inj htok
            simp only [Prod.mk.injEq] at h2
            omega
        · split at htok
          · have h2 := Except.ok.inj htok
            simp only [Prod.mk.injEq] at h2
            omega
          · split at htok
            · have h2 := Except.ok.inj htok
              simp only [Prod.mk.injEq] at h2
              omega
            · cases htok
      exact ⟨(decide_eq_false hk.1).symm, (decide_eq_false hk.2).symm⟩
/-- otherwise: neither -/
theorem not_single {L : Bytes} (h : ∀ t, tokens L = .ok [t] → t.text ≠ L) : isName L = false ∧ isWord L = false := by
  constructor
  · cases hn : isName L with
    | false => rfl
    | true => exact absurd rfl (h _ (tokens_name hn))
  · cases hn : isWord L with
    | false => rfl
    | true => exact absurd rfl (h _ (tokens_word L (List.contains_iff_mem.1 hn)))

end Go.Proofs.Ytoegepgdfnokdaa.Lx
