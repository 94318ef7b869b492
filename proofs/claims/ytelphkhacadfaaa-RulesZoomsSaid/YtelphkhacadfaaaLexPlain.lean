/- Plain laws of the lexer: no program. -/
import Derived.Test.YtelphkhacadfaaaLexSpec
namespace Go.Proofs.Ytelphkhacadfaaa.Lx

theorem take_takeWhile (p : UInt8 → Bool) (l : Bytes) : l.take (l.takeWhile p).length = l.takeWhile p := by
  have h := List.takeWhile_append_dropWhile (p := p) (l := l)
  have h2 := congrArg (List.take (l.takeWhile p).length) h
  rw [List.take_left] at h2
  exact h2.symm
/-- a token's text stands at the beginning -/
theorem tok_prefix {l : Bytes} {k n : Nat} {t : Bytes} (h : tok l = .ok (k, t, n)) : l.take t.length = t := by
  unfold tok at h
  split at h
  · cases h
  · rename_i c l
    split at h
    · simp only at h
      split at h
      · cases h
      · have := Except.ok.inj h
        simp only [Prod.mk.injEq] at this
        rw [← this.2.1]; exact take_takeWhile _ _
    · split at h
      · simp only at h
        split at h
        · cases h
        · have := Except.ok.inj h
          simp only [Prod.mk.injEq] at this
          rw [← this.2.1]; exact take_takeWhile _ _
      · split at h
        · have := Except.ok.inj h
          simp only [Prod.mk.injEq] at this
          rw [← this.2.1]; rfl
        · split at h
          · rename_i hc
            have := Except.ok.inj h
            simp only [Prod.mk.injEq] at this
            rw [← this.2.1, hc.1]
            cases l with
            | nil => simp at hc
            | cons d l => simp only [List.head?_cons, Option.some.injEq] at hc; rw [hc.2]; rfl
          · cases h
theorem tok_le {l : Bytes} {k n : Nat} {t : Bytes} (h : tok l = .ok (k, t, n)) : t.length ≤ l.length := by
  have := congrArg List.length (tok_prefix h)
  rw [List.length_take] at this
  omega

theorem toks_bound (L : Bytes) : ∀ (f i : Nat) (ts : List Tok), i ≤ L.length → toks L f i = .ok ts → ts.length + i ≤ L.length ∧ ∀ t ∈ ts, t.text.length ≤ L.length := by
  intro f
  induction f with
  | zero =>
    intro i ts hi h
    simp only [toks, Except.ok.injEq] at h
    subst h
    exact ⟨by simpa using hi, by simp⟩
  | succ f ih =>
    intro i ts hi h
    simp only [toks] at h
    split at h
    · simp only [Except.ok.injEq] at h
      subst h
      exact ⟨by simpa using hi, by simp⟩
    · rename_i hlt
      cases ht : tok (L.drop (i + skipN false (L.drop i))) with
      | error e => rw [ht] at h; cases h
      | ok x =>
        obtain ⟨k, t, n⟩ := x
        rw [ht] at h
        simp only at h
        have hp := tok_pos ht
        have hle := tok_le ht
        rw [List.length_drop] at hle
        cases hr : toks L f (i + skipN false (L.drop i) + t.length) with
        | error e => rw [hr] at h; cases h
        | ok us =>
          rw [hr] at h
          simp only [Except.map, Except.ok.injEq] at h
          obtain ⟨h1, h2⟩ := ih _ us (by omega) hr
          subst h
          refine ⟨by simp only [List.length_cons]; omega, ?_⟩
          intro u hu
          rcases List.mem_cons.1 hu with rfl | hu
          · simp only; omega
          · exact h2 u hu
theorem tokens_bound {L : Bytes} {ts : List Tok} (h : tokens L = .ok ts) : ts.length ≤ 512 ∧ ∀ t ∈ ts, t.text.length ≤ 512 := by
  unfold tokens at h
  split at h
  · cases h
  · rename_i hl
    obtain ⟨h1, h2⟩ := toks_bound L _ 0 ts (Nat.zero_le _) h
    exact ⟨by omega, fun t ht => by have := h2 t ht; omega⟩

end Go.Proofs.Ytelphkhacadfaaa.Lx
