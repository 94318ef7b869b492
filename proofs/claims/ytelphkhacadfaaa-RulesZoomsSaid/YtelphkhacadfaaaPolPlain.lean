/- Plain laws of the policy's reader: a declaration takes a token or stops; the loop of Parse. No program. -/
import Derived.Test.YtelphkhacadfaaaPrSpec
namespace Go.Proofs.Ytelphkhacadfaaa.Po
open Lx

variable {T : List Tok} {e : Nat × Nat}
theorem wrong_at (a : St) : (wrong T e a).at_ = a.at_ := by unfold wrong; split <;> rfl
theorem want_le (x : Bytes) (a : St) : a.at_ ≤ (want T e x a).at_ := by
  unfold want; split
  · show a.at_ ≤ a.at_ + 1; omega
  · rw [wrong_at]; exact Nat.le_refl _
theorem who_le (a : St) : a.at_ ≤ (whoS T e a).at_ := by
  unfold whoS; split
  · show a.at_ ≤ a.at_ + 1; omega
  · split <;> exact takeSt_le T e _ a
theorem where_le (a : St) : a.at_ ≤ (whereS T e a).at_ := by
  unfold whereS; split
  · show a.at_ ≤ a.at_ + 1; omega
  · exact takeSt_le T e _ a
theorem on_le (a : St) : a.at_ ≤ (on a).at_ := by show a.at_ ≤ a.at_ + 1; omega
theorem tiers_le (a : St) : a.at_ ≤ (tiersS T e a).at_ := by
  unfold tiersS; split
  · exact on_le a
  · split
    · exact Nat.le_trans (Nat.le_trans (takeSt_le T e 3 a) (on_le _)) (takeSt_le T e 3 _)
    · exact takeSt_le T e 3 a
theorem more_le (f : Nat) : ∀ a : St, a.at_ ≤ (moreS T e f a).at_ := by
  induction f with
  | zero => intro a; exact Nat.le_refl _
  | succ f ih =>
    intro a
    unfold moreS
    split
    · exact Nat.le_trans (Nat.le_trans (on_le a) (boxS_le T e _)) (ih _)
    · exact Nat.le_refl _
theorem cloak_le (a : St) : a.at_ ≤ (cloakS T e a).at_ := Nat.le_trans (want_le _ a) (who_le _)
theorem rule_le (a : St) : a.at_ ≤ (ruleS T e a).at_ := by
  unfold ruleS rs4 rs3 rs2 rs1
  exact Nat.le_trans (Nat.le_trans (Nat.le_trans (Nat.le_trans (Nat.le_trans (Nat.le_trans (Nat.le_trans (Nat.le_trans (Nat.le_trans (cloak_le a) (want_le _ _)) (tiers_le _)) (want_le _ _)) (who_le _)) (want_le _ _)) (where_le _)) (want_le _ _)) (takeSt_le T e _ _)) (Nat.le_refl _)
theorem named_le (a : St) : a.at_ ≤ (namedS T e a).at_ := Nat.le_trans (Nat.le_trans (takeSt_le T e 1 a) (want_le _ _)) (takeSt_le T e 3 _)
theorem region_le (a : St) : a.at_ ≤ (regionS T e a).at_ := Nat.le_trans (Nat.le_trans (Nat.le_trans (takeSt_le T e 1 a) (want_le _ _)) (boxS_le T e _)) (more_le _ _)
theorem want_gt {x : Bytes} {a : St} (h : (want T e x a).f.1 = 0) : a.at_ + 1 = (want T e x a).at_ := by
  unfold want at *
  split at h
  · rename_i hk; rw [if_pos hk]; rfl
  · unfold wrong at h
    split at h
    · simp [mkFault] at h
    · contradiction
theorem decl_gt (a : St) (h : (declS T e a).f.1 = 0) : a.at_ + 1 ≤ (declS T e a).at_ := by
  rw [Pr.declS_kind] at *
  have : ∀ x : St, a.at_ ≤ x.at_ → (want T e [59] x).f.1 = 0 → a.at_ + 1 ≤ (want T e [59] x).at_ := fun x hx hw => by have := want_gt hw; omega
  refine this _ ?_ h
  split
  · exact Nat.le_trans (on_le a) (named_le _)
  · exact Nat.le_trans (on_le a) (named_le _)
  · exact Nat.le_trans (on_le a) (region_le _)
  · exact Nat.le_trans (on_le a) (rule_le _)
  · exact Nat.le_trans (on_le a) (rule_le _)
  · exact Nat.le_trans (on_le a) (cloak_le _)
  · exact Nat.le_trans (by rw [wrong_at]; exact Nat.le_refl _) (rule_le _)

/-- declarations so far, and what is still to be read -/
structure Parsing (T : List Tok) (e : Nat × Nat) (st0 : St) (f : Nat) (ds : List Decl) (st : St) : Prop where
  val : parseV T e (T.length + 1) st0 = ds ++ parseV T e f st
  state : parseS T e (T.length + 1) st0 = parseS T e f st
  fuel : T.length < f + st.at_ ∨ st.f.1 ≠ 0
  len : ds.length + f ≤ T.length + 1
theorem Parsing.begin (T : List Tok) (e : Nat × Nat) (st : St) : Parsing T e st (T.length + 1) [] st := ⟨rfl, rfl, .inl (by omega), by simp⟩
theorem Parsing.pos {st0 st : St} {f : Nat} {ds : List Decl} (h : Parsing T e st0 f ds st) (hl : st.at_ < T.length) (h0 : st.f.1 = 0) : 0 < f := by
  rcases h.fuel with h1 | h1
  · omega
  · exact absurd h0 h1
theorem Parsing.step {st0 st : St} {f : Nat} {ds : List Decl} (h : Parsing T e st0 (f + 1) ds st) (hl : st.at_ < T.length) (h0 : st.f.1 = 0) : Parsing T e st0 f (ds ++ [declV T e st]) (declS T e st) := by
  refine ⟨?_, ?_, ?_, ?_⟩
  · rw [h.val, parseV, if_pos ⟨hl, h0⟩]; simp
  · rw [h.state, parseS, if_pos ⟨hl, h0⟩]
  · by_cases h1 : (declS T e st).f.1 = 0
    · have := decl_gt st h1
      rcases h.fuel with h2 | h2
      · exact .inl (by omega)
      · exact absurd h0 h2
    · exact .inr h1
  · have := h.len; simp; omega
theorem Parsing.stop {st0 st : St} {f : Nat} {ds : List Decl} (h : Parsing T e st0 f ds st) (hi : ¬ (st.at_ < T.length ∧ st.f.1 = 0)) : parseV T e (T.length + 1) st0 = ds ∧ parseS T e (T.length + 1) st0 = st := by
  have h1 := h.val
  have h2 := h.state
  cases f with
  | zero => rw [parseV, List.append_nil] at h1; rw [parseS] at h2; exact ⟨h1, h2⟩
  | succ f =>
    have e1 : parseV T e (f + 1) st = [] := by rw [parseV, if_neg hi]
    have e2 : parseS T e (f + 1) st = st := by rw [parseS, if_neg hi]
    rw [e1, List.append_nil] at h1
    rw [e2] at h2
    exact ⟨h1, h2⟩

def st0 : St := ⟨0, (0, 0, 0)⟩
/-- a text's declarations, or the fault -/
def parse (L : Bytes) : Except Fault (List Decl) :=
  match tokens L with
  | .error f => .error f
  | .ok T => if (parseS T (posOf L) (T.length + 1) st0).f.1 = 0 then .ok (parseV T (posOf L) (T.length + 1) st0) else .error (parseS T (posOf L) (T.length + 1) st0).f

/-- the reference's answer is the same -/
theorem rparse_eq (T : List Tok) (e : Nat × Nat) (f : Nat) :
    (Pr.parseS e f ⟨T, (0, 0, 0)⟩).f = (parseS T e f st0).f ∧ ((parseS T e f st0).f.1 = 0 → Pr.parseV e f ⟨T, (0, 0, 0)⟩ = parseV T e f st0) := by
  have h := Pr.Sim.parse (e := e) f (st := st0) (r := ⟨T, (0, 0, 0)⟩) (T := T) ⟨rfl, fun _ => rfl⟩
  exact ⟨h.1.f.symm, h.2⟩

end Go.Proofs.Ytelphkhacadfaaa.Po
