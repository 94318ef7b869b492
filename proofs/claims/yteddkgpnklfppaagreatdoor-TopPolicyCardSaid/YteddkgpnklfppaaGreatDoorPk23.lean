/-
  Plain laws of the policy's reader: two texts, a line's end between. No program.
-/
import Derived.Test.YteddkgpnklfppaaGreatDoorPk22

namespace Go.Proofs.YteddkgpnklfppaaGreatDoor.Po
open Lx

section
variable {T U : List Tok} {e e' : Nat × Nat} {st : St}
theorem wrong_ne (a : St) : (wrong T e a).f.1 ≠ 0 := by
  unfold wrong
  split
  · simp [mkFault]
  · assumption
theorem take_yes {k : Nat} (h : (takeSt T e k st).f.1 = 0) : kindIs T k st = true := by
  cases hk : kindIs T k st with
  | true => rfl
  | false =>
    rw [takeSt_not hk] at h
    unfold wrong at h
    split at h
    · simp [mkFault] at h
    · contradiction
theorem want_yes {x : Bytes} (h : (want T e x st).f.1 = 0) : is T x st = true := by
  cases hk : is T x st with
  | true => rfl
  | false =>
    rw [want_not hk] at h
    unfold wrong at h
    split at h
    · simp [mkFault] at h
    · contradiction
theorem at_app {i : Nat} (h : i < T.length) : (T ++ U)[i]? = T[i]? := List.getElem?_append_left h
theorem is_app (h : st.at_ < T.length) (x : Bytes) : is (T ++ U) x st = is T x st := by unfold is; rw [at_app h]
theorem kindIs_app (h : st.at_ < T.length) (k : Nat) : kindIs (T ++ U) k st = kindIs T k st := by unfold kindIs; rw [at_app h]
theorem place_app (h : st.at_ < T.length) : place (T ++ U) e' st = place T e st := by
  unfold place; rw [at_app h, List.getElem?_eq_getElem h]
theorem takeTok_app (h : st.at_ < T.length) (k : Nat) : takeTok (T ++ U) k st = takeTok T k st := by unfold takeTok; rw [kindIs_app h, at_app h]
/-- the same step, and value, with more tokens behind -/
theorem take_app {k : Nat} (h : (takeSt T e k st).f.1 = 0) : takeSt (T ++ U) e' k st = takeSt T e k st ∧ takeTok (T ++ U) k st = takeTok T k st ∧ st.at_ < T.length := by
  have hk := take_yes h
  have hl := lt_of_kindIs hk
  exact ⟨by rw [takeSt_on hk, takeSt_on (by rw [kindIs_app hl]; exact hk)], takeTok_app hl k, hl⟩
theorem want_app {x : Bytes} (h : (want T e x st).f.1 = 0) : want (T ++ U) e' x st = want T e x st ∧ st.at_ < T.length := by
  have hk := want_yes h
  have hl := lt_of_is hk
  exact ⟨by rw [want_on hk, want_on (by rw [is_app hl]; exact hk)], hl⟩
theorem who_app (h : (whoS T e st).f.1 = 0) : whoS (T ++ U) e' st = whoS T e st ∧ whoV (T ++ U) e' st = whoV T e st := by
  have hl : st.at_ < T.length := by
    unfold whoS at h
    split at h
    · rename_i hi; exact lt_of_is hi
    · split at h
      · exact (take_app (U := U) (e' := e') h).2.2
      · exact (take_app (U := U) (e' := e') h).2.2
  unfold whoV
  rw [is_app hl, kindIs_app hl, takeTok_app hl, takeTok_app hl, place_app (e := e) hl]
  refine ⟨?_, rfl⟩
  unfold whoS at *
  rw [is_app hl, kindIs_app hl]
  split
  · rfl
  · rename_i hi
    rw [if_neg hi] at h
    split
    · rename_i hk
      rw [if_pos hk] at h
      exact (take_app h).1
    · rename_i hk
      rw [if_neg hk] at h
      exact (take_app h).1
theorem where_app (h : (whereS T e st).f.1 = 0) : whereS (T ++ U) e' st = whereS T e st ∧ whereV (T ++ U) e' st = whereV T e st := by
  have hl : st.at_ < T.length := by
    unfold whereS at h
    split at h
    · rename_i hi; exact lt_of_is hi
    · exact (take_app (U := U) (e' := e') h).2.2
  unfold whereV
  rw [is_app hl, takeTok_app hl, place_app (e := e) hl]
  refine ⟨?_, rfl⟩
  unfold whereS at *
  rw [is_app hl]
  split
  · rfl
  · rename_i hi
    rw [if_neg hi] at h
    exact (take_app h).1
theorem tiers_app (h : (tiersS T e st).f.1 = 0) (hl : (tiersS T e st).at_ < T.length) : tiersS (T ++ U) e' st = tiersS T e st ∧ loV (T ++ U) st = loV T st ∧ hiV (T ++ U) e' st = hiV T e st := by
  have hl0 : st.at_ < T.length := Nat.lt_of_le_of_lt (tiers_le st) hl
  unfold tiersS at h hl
  unfold tiersS loV hiV
  rw [is_app hl0]
  split
  · exact ⟨rfl, rfl, rfl⟩
  · rename_i hi
    rw [if_neg hi] at h hl
    have h1 : (takeSt T e 3 st).f.1 = 0 := by
      split at h
      · exact (Pr.stays_on _).zero ((Pr.stays_take 3 _).zero h)
      · exact h
    have hl1 : (takeSt T e 3 st).at_ < T.length := by
      split at hl
      · exact Nat.lt_of_le_of_lt (Nat.le_trans (on_le _) (takeSt_le T e 3 _)) hl
      · exact hl
    obtain ⟨a1, a2, _⟩ := take_app (U := U) (e' := e') h1
    rw [a1, a2, is_app hl1]
    split
    · rename_i hd
      rw [if_pos hd] at h
      obtain ⟨b1, b2, _⟩ := take_app (U := U) (e' := e') h
      rw [b1, b2]
      exact ⟨rfl, rfl, rfl⟩
    · exact ⟨rfl, rfl, rfl⟩
theorem box_app (h : (boxS T e st).f.1 = 0) : boxS (T ++ U) e' st = boxS T e st ∧ boxV (T ++ U) e' st = boxV T e st := by
  unfold boxS at h
  have h3 := (Pr.stays_take 3 _).zero h
  have h2 := (Pr.stays_take 3 _).zero h3
  have h1 := (Pr.stays_take 3 _).zero h2
  obtain ⟨a1, a2, _⟩ := take_app (U := U) (e' := e') h1
  obtain ⟨b1, b2, _⟩ := take_app (U := U) (e' := e') h2
  obtain ⟨c1, c2, _⟩ := take_app (U := U) (e' := e') h3
  obtain ⟨d1, d2, _⟩ := take_app (U := U) (e' := e') h
  unfold boxS boxV
  simp only [a1, b1, c1, d1, a2, b2, c2, d2, and_self]
theorem more_app (f : Nat) : ∀ st : St, (moreS T e f st).f.1 = 0 → (moreS T e f st).at_ < T.length → moreS (T ++ U) e' f st = moreS T e f st ∧ moreV (T ++ U) e' f st = moreV T e f st := by
  induction f with
  | zero => intro st _ _; exact ⟨rfl, rfl⟩
  | succ f ih =>
    intro st h hl
    have hl0 : st.at_ < T.length := Nat.lt_of_le_of_lt (more_le (f + 1) st) hl
    unfold moreS at h hl
    unfold moreS moreV
    rw [is_app hl0]
    split
    · rename_i hi
      rw [if_pos hi] at h hl
      obtain ⟨a1, a2⟩ := box_app (U := U) (e' := e') ((Pr.stays_more f _).zero h)
      obtain ⟨b1, b2⟩ := ih _ h hl
      rw [a1, a2, b1, b2]
      exact ⟨rfl, rfl⟩
    · exact ⟨rfl, rfl⟩
theorem boxes_app (h : (boxesS T e st).f.1 = 0) (hl : (boxesS T e st).at_ < T.length) : boxesS (T ++ U) e' st = boxesS T e st ∧ boxesV (T ++ U) e' st = boxesV T e st := by
  unfold boxesS at h hl
  obtain ⟨a1, a2⟩ := box_app (U := U) (e' := e') ((Pr.stays_more _ _).zero h)
  obtain ⟨m1, m2⟩ := Pr.moreS_fuel (T := T) (e := e) (T.length + 1) ((T ++ U).length + 1) (boxS T e st) (by rw [List.length_append]; omega) (by omega)
  obtain ⟨b1, b2⟩ := more_app (U := U) (e' := e') ((T ++ U).length + 1) (boxS T e st) (by rw [m1]; exact h) (by rw [m1]; exact hl)
  unfold boxesS boxesV
  rw [a1, a2, b1, b2, m1, m2]
  exact ⟨rfl, rfl⟩
theorem named_app (h : (namedS T e st).f.1 = 0) (D : Decl) : namedS (T ++ U) e' st = namedS T e st ∧ namedV (T ++ U) e' D st = namedV T e D st := by
  unfold namedS at h
  have h2 := (Pr.stays_take 3 _).zero h
  have h1 := (Pr.stays_want _ _).zero h2
  obtain ⟨a1, a2, _⟩ := take_app (U := U) (e' := e') h1
  obtain ⟨b1, _⟩ := want_app (U := U) (e' := e') h2
  obtain ⟨c1, c2, _⟩ := take_app (U := U) (e' := e') h
  unfold namedS namedV
  rw [a1, b1, c1, a2, c2]
  exact ⟨rfl, rfl⟩
theorem region_app (h : (regionS T e st).f.1 = 0) (hl : (regionS T e st).at_ < T.length) (D : Decl) : regionS (T ++ U) e' st = regionS T e st ∧ regionV (T ++ U) e' D st = regionV T e D st := by
  unfold regionS at h hl
  have h2 := (Pr.stays_boxes _).zero h
  have h1 := (Pr.stays_want _ _).zero h2
  obtain ⟨a1, a2, _⟩ := take_app (U := U) (e' := e') h1
  obtain ⟨b1, _⟩ := want_app (U := U) (e' := e') h2
  obtain ⟨c1, c2⟩ := boxes_app (U := U) (e' := e') h hl
  unfold regionS regionV
  rw [a1, b1, c1, a2, c2]
  exact ⟨rfl, rfl⟩
theorem cloak_app (h : (cloakS T e st).f.1 = 0) (D : Decl) : cloakS (T ++ U) e' st = cloakS T e st ∧ cloakV (T ++ U) e' D st = cloakV T e D st := by
  unfold cloakS at h
  obtain ⟨b1, _⟩ := want_app (U := U) (e' := e') ((Pr.stays_who _).zero h)
  obtain ⟨c1, c2⟩ := who_app (U := U) (e' := e') h
  unfold cloakS cloakV
  rw [b1, c1, c2]
  exact ⟨rfl, rfl⟩
theorem rule_app (h : (ruleS T e st).f.1 = 0) (D : Decl) : ruleS (T ++ U) e' st = ruleS T e st ∧ ruleV (T ++ U) e' D st = ruleV T e D st := by
  have e5 : ∀ (T : List Tok) (e : Nat × Nat), ruleS T e st = takeSt T e 3 (rs4 T e st) := fun _ _ => rfl
  have e4 : ∀ (T : List Tok) (e : Nat × Nat), rs4 T e st = want T e wZoom (whereS T e (rs3 T e st)) := fun _ _ => rfl
  have e3 : ∀ (T : List Tok) (e : Nat × Nat), rs3 T e st = want T e wIn (whoS T e (rs2 T e st)) := fun _ _ => rfl
  have e2 : ∀ (T : List Tok) (e : Nat × Nat), rs2 T e st = want T e wLabel (tiersS T e (rs1 T e st)) := fun _ _ => rfl
  have e1 : ∀ (T : List Tok) (e : Nat × Nat), rs1 T e st = want T e wTier (cloakS T e st) := fun _ _ => rfl
  rw [e5] at h
  have h4 := (Pr.stays_take 3 _).zero h
  obtain ⟨g1, g2, _⟩ := take_app (U := U) (e' := e') h
  rw [e4] at h4
  have c4 := (Pr.stays_want (T := T) (e := e) wZoom _).zero h4
  have h3 := (Pr.stays_where _).zero c4
  obtain ⟨f1, f2⟩ := where_app (U := U) (e' := e') c4
  rw [e3] at h3
  have c3 := (Pr.stays_want (T := T) (e := e) wIn _).zero h3
  have h2 := (Pr.stays_who _).zero c3
  obtain ⟨d1, d2⟩ := who_app (U := U) (e' := e') c3
  rw [e2] at h2
  have c2 := (Pr.stays_want (T := T) (e := e) wLabel _).zero h2
  have h1 := (Pr.stays_tiers _).zero c2
  obtain ⟨h2a, hl2⟩ := want_app (U := U) (e' := e') h2
  obtain ⟨b1, b2, b3⟩ := tiers_app (U := U) (e' := e') c2 hl2
  rw [e1] at h1
  have c1 := (Pr.stays_want (T := T) (e := e) wTier _).zero h1
  obtain ⟨a1, a2⟩ := cloak_app (U := U) (e' := e') c1 D
  have r1 : rs1 (T ++ U) e' st = rs1 T e st := by rw [e1, e1, a1]; exact (want_app h1).1
  have r2 : rs2 (T ++ U) e' st = rs2 T e st := by rw [e2, e2, r1, b1]; exact h2a
  have r3 : rs3 (T ++ U) e' st = rs3 T e st := by rw [e3, e3, r2, d1]; exact (want_app h3).1
  have r4 : rs4 (T ++ U) e' st = rs4 T e st := by rw [e4, e4, r3, f1]; exact (want_app h4).1
  have w1 : whoV (T ++ U) e' (want (T ++ U) e' wRole st) = whoV T e (want T e wRole st) := by
    unfold cloakV at a2
    simp only [Decl.mk.injEq, and_true, true_and] at a2
    exact a2
  rw [e5, e5, r4, g1]
  refine ⟨rfl, ?_⟩
  unfold ruleV
  rw [r1, r2, r3, r4, g2, b2, b3, d2, f2, w1]
theorem declAt_app (h : st.at_ < T.length) (k : Int) : declAt (T ++ U) e' st k = declAt T e st k := by unfold declAt; rw [place_app (e := e) h]
theorem decl_app (h : (declS T e st).f.1 = 0) (hl : st.at_ < T.length) : declS (T ++ U) e' st = declS T e st ∧ declV (T ++ U) e' st = declV T e st := by
  unfold declS at h
  obtain ⟨_, hz⟩ := want_app (U := U) (e' := e') h
  have h0 := (Pr.stays_want _ _).zero h
  have hd := fun k => declAt_app (U := U) (e := e) (e' := e') hl k
  unfold declS declV
  simp only [is_app hl, hd]
  have key : ∀ {x y : St}, x = y → (want T e [59] y).f.1 = 0 → want (T ++ U) e' [59] x = want T e [59] y := fun hx hy => by rw [hx]; exact (want_app hy).1
  split at h
  · rename_i hi
    simp only [hi, if_true] at h0 ⊢
    obtain ⟨a1, a2⟩ := named_app (U := U) (e' := e') h0 (declAt T e st 1)
    exact ⟨key a1 h, a2⟩
  · rename_i hi1
    simp only [hi1, if_false, Bool.false_eq_true] at h0 hz ⊢
    split at h
    · rename_i hi
      simp only [hi, if_true] at h0 ⊢
      obtain ⟨a1, a2⟩ := named_app (U := U) (e' := e') h0 (declAt T e st 2)
      exact ⟨key a1 h, a2⟩
    · rename_i hi2
      simp only [hi2, if_false, Bool.false_eq_true] at h0 hz ⊢
      split at h
      · rename_i hi
        simp only [hi, if_true] at h0 hz ⊢
        obtain ⟨a1, a2⟩ := region_app (U := U) (e' := e') h0 hz (declAt T e st 3)
        exact ⟨key a1 h, a2⟩
      · rename_i hi3
        simp only [hi3, if_false, Bool.false_eq_true] at h0 hz ⊢
        split at h
        · rename_i hi
          simp only [hi, if_true] at h0 ⊢
          obtain ⟨a1, a2⟩ := rule_app (U := U) (e' := e') h0 (declAt T e st 4)
          exact ⟨key a1 h, a2⟩
        · rename_i hi4
          simp only [hi4, if_false, Bool.false_eq_true] at h0 hz ⊢
          split at h
          · rename_i hi
            simp only [hi, if_true] at h0 ⊢
            obtain ⟨a1, a2⟩ := rule_app (U := U) (e' := e') h0 (declAt T e st 5)
            exact ⟨key a1 h, a2⟩
          · rename_i hi5
            simp only [hi5, if_false, Bool.false_eq_true] at h0 hz ⊢
            split at h
            · rename_i hi
              simp only [hi, if_true] at h0 ⊢
              obtain ⟨a1, a2⟩ := cloak_app (U := U) (e' := e') h0 (declAt T e st 6)
              exact ⟨key a1 h, a2⟩
            · rename_i hi6
              simp only [hi6, if_false, Bool.false_eq_true] at h0
              exact absurd ((Pr.stays_rule _).zero h0) (wrong_ne _)

theorem parse_fuel (f : Nat) : ∀ (g : Nat) (a : St), T.length < f + a.at_ → T.length < g + a.at_ → parseS T e f a = parseS T e g a ∧ parseV T e f a = parseV T e g a := by
  have stop : ∀ (h : Nat) (a : St), ¬ (a.at_ < T.length ∧ a.f.1 = 0) → parseS T e h a = a ∧ parseV T e h a = [] := fun h a hn => by
    cases h with
    | zero => exact ⟨rfl, rfl⟩
    | succ h => unfold parseS parseV; rw [if_neg hn, if_neg hn]; exact ⟨rfl, rfl⟩
  induction f with
  | zero =>
    intro g a hf hg
    obtain ⟨s1, s2⟩ := stop g a (fun h => by omega)
    rw [s1, s2]
    exact ⟨rfl, rfl⟩
  | succ f ih =>
    intro g a hf hg
    by_cases hc : a.at_ < T.length ∧ a.f.1 = 0
    · obtain ⟨g', rfl⟩ : ∃ g', g = g' + 1 := ⟨g - 1, by omega⟩
      unfold parseS parseV
      rw [if_pos hc, if_pos hc, if_pos hc, if_pos hc]
      by_cases h0 : (declS T e a).f.1 = 0
      · have hgt := decl_gt a h0
        obtain ⟨i1, i2⟩ := ih g' (declS T e a) (by omega) (by omega)
        rw [i1, i2]
        exact ⟨rfl, rfl⟩
      · obtain ⟨s1, s2⟩ := stop f (declS T e a) (fun h => h0 h.2)
        obtain ⟨s3, s4⟩ := stop g' (declS T e a) (fun h => h0 h.2)
        rw [s1, s2, s3, s4]
        exact ⟨rfl, rfl⟩
    · obtain ⟨s1, s2⟩ := stop (f + 1) a hc
      obtain ⟨s3, s4⟩ := stop g a hc
      rw [s1, s2, s3, s4]
      exact ⟨rfl, rfl⟩
/-- the first text's declarations, then the rest -/
theorem parse_app (f : Nat) : ∀ (st : St) (F G : Nat), T.length < f + st.at_ → (parseS T e f st).f.1 = 0 → (T ++ U).length < F + st.at_ → (T ++ U).length < G + (parseS T e f st).at_ →
    parseS (T ++ U) e' F st = parseS (T ++ U) e' G (parseS T e f st) ∧ parseV (T ++ U) e' F st = parseV T e f st ++ parseV (T ++ U) e' G (parseS T e f st) := by
  induction f with
  | zero => intro st F G _ _ hF hG; exact parse_fuel F G st hF hG
  | succ f ih =>
    intro st F G hf h0 hF hG
    by_cases hc : st.at_ < T.length ∧ st.f.1 = 0
    · have v1 : parseS T e (f + 1) st = parseS T e f (declS T e st) := by rw [parseS, if_pos hc]
      have v2 : parseV T e (f + 1) st = declV T e st :: parseV T e f (declS T e st) := by rw [parseV, if_pos hc]
      rw [v1] at h0 hG ⊢
      rw [v2]
      have hlen : (T ++ U).length = T.length + U.length := List.length_append
      obtain ⟨F', rfl⟩ : ∃ F', F = F' + 1 := ⟨F - 1, by omega⟩
      have hd0 := (Pr.stays_parse f _).zero h0
      have hgt := decl_gt st hd0
      obtain ⟨d1, d2⟩ := decl_app (U := U) (e' := e') hd0 hc.1
      obtain ⟨i1, i2⟩ := ih (declS T e st) F' G (by omega) h0 (by omega) hG
      have hc2 : st.at_ < (T ++ U).length ∧ st.f.1 = 0 := ⟨by omega, hc.2⟩
      have u1 : parseS (T ++ U) e' (F' + 1) st = parseS (T ++ U) e' F' (declS (T ++ U) e' st) := by rw [parseS, if_pos hc2]
      have u2 : parseV (T ++ U) e' (F' + 1) st = declV (T ++ U) e' st :: parseV (T ++ U) e' F' (declS (T ++ U) e' st) := by rw [parseV, if_pos hc2]
      rw [u1, u2, d1, d2, i1, i2]
      exact ⟨rfl, rfl⟩
    · have s1 : parseS T e (f + 1) st = st := by rw [parseS, if_neg hc]
      have s2 : parseV T e (f + 1) st = [] := by rw [parseV, if_neg hc]
      rw [s1] at hG ⊢
      rw [s2]
      exact parse_fuel F G st hF hG
end

/-! ### the same tokens but for their places, so many tokens on -/
def unW (w : Who) : Who := { w with line := 0, col := 0 }
def unD (d : Decl) : Decl := { d with role := unW d.role, label := unW d.label, place := unW d.place, line := 0, col := 0 }
structure Shift (T U : List Tok) (o : Nat) : Prop where
  at_ : ∀ i, (T[o + i]?).map strip = (U[i]?).map strip
  len : T.length = o + U.length
structure On (o : Nat) (a b : St) : Prop where
  at_ : a.at_ = o + b.at_
  f : a.f.1 = b.f.1
section
variable {T U : List Tok} {o : Nat} {e e' : Nat × Nat} {a b : St}
theorem Shift.cases (h : Shift T U o) (i : Nat) : (T[o + i]? = none ∧ U[i]? = none) ∨ ∃ t u, T[o + i]? = some t ∧ U[i]? = some u ∧ t.kind = u.kind ∧ t.text = u.text ∧ t.n = u.n := by
  have h1 := h.at_ i
  cases ht : T[o + i]? with
  | none => rw [ht] at h1; cases hu : U[i]? with
    | none => exact .inl ⟨rfl, rfl⟩
    | some u => rw [hu] at h1; cases h1
  | some t => rw [ht] at h1; cases hu : U[i]? with
    | none => rw [hu] at h1; cases h1
    | some u =>
      rw [hu] at h1
      simp only [Option.map_some, Option.some.injEq, strip, Prod.mk.injEq] at h1
      exact .inr ⟨t, u, rfl, rfl, h1.1, h1.2.1, h1.2.2⟩
theorem On.is (h : Shift T U o) (k : On o a b) (x : Bytes) : is T x a = is U x b := by
  unfold Po.is
  rw [k.f, k.at_]
  rcases h.cases b.at_ with ⟨h1, h2⟩ | ⟨t, u, h1, h2, h3, h4, h5⟩
  · rw [h1, h2]
  · rw [h1, h2]; simp only [h4]
theorem On.kindIs (h : Shift T U o) (k : On o a b) (n : Nat) : kindIs T n a = kindIs U n b := by
  unfold Po.kindIs
  rw [k.f, k.at_]
  rcases h.cases b.at_ with ⟨h1, h2⟩ | ⟨t, u, h1, h2, h3, h4, h5⟩
  · rw [h1, h2]
  · rw [h1, h2]; simp only [h3]
theorem On.tok (h : Shift T U o) (k : On o a b) (n : Nat) : (takeTok T n a).text = (takeTok U n b).text ∧ (takeTok T n a).n = (takeTok U n b).n := by
  unfold takeTok
  rw [k.kindIs h]
  split
  · rw [k.at_]
    rcases h.cases b.at_ with ⟨h1, h2⟩ | ⟨t, u, h1, h2, h3, h4, h5⟩
    · rw [h1, h2]; exact ⟨rfl, rfl⟩
    · rw [h1, h2]; exact ⟨h4, h5⟩
  · exact ⟨rfl, rfl⟩
theorem On.on (k : On o a b) : On o (Po.on a) (Po.on b) := ⟨by show a.at_ + 1 = o + (b.at_ + 1); rw [k.at_]; omega, k.f⟩
theorem On.wrong (k : On o a b) : On o (Po.wrong T e a) (Po.wrong U e' b) := by
  unfold Po.wrong
  rw [k.f]
  split
  · exact ⟨k.at_, rfl⟩
  · exact k
theorem On.want (h : Shift T U o) (k : On o a b) (x : Bytes) : On o (Po.want T e x a) (Po.want U e' x b) := by
  unfold Po.want
  rw [k.is h]
  split
  · exact k.on
  · exact k.wrong
theorem On.take (h : Shift T U o) (k : On o a b) (n : Nat) : On o (takeSt T e n a) (takeSt U e' n b) := by
  unfold takeSt
  rw [k.kindIs h]
  split
  · exact k.on
  · exact k.wrong
theorem On.whoS (h : Shift T U o) (k : On o a b) : On o (Po.whoS T e a) (Po.whoS U e' b) := by
  unfold Po.whoS
  rw [k.is h, k.kindIs h]
  split
  · exact k.on
  · split
    · exact k.take h _
    · exact k.take h _
theorem On.whoV (h : Shift T U o) (k : On o a b) : unW (Po.whoV T e a) = unW (Po.whoV U e' b) := by
  unfold Po.whoV
  rw [k.is h, k.kindIs h]
  split
  · rfl
  · split
    · unfold unW; simp only [(k.tok h _).1]
    · unfold unW; simp only [(k.tok h _).2]
theorem On.whereS (h : Shift T U o) (k : On o a b) : On o (Po.whereS T e a) (Po.whereS U e' b) := by
  unfold Po.whereS
  rw [k.is h]
  split
  · exact k.on
  · exact k.take h _
theorem On.whereV (h : Shift T U o) (k : On o a b) : unW (Po.whereV T e a) = unW (Po.whereV U e' b) := by
  unfold Po.whereV
  rw [k.is h]
  split
  · rfl
  · unfold unW; simp only [(k.tok h _).1]
theorem On.tiersS (h : Shift T U o) (k : On o a b) : On o (Po.tiersS T e a) (Po.tiersS U e' b) := by
  unfold Po.tiersS
  have k1 := k.take (e := e) (e' := e') h 3
  rw [k.is h, k1.is h]
  split
  · exact k.on
  · split
    · exact k1.on.take h _
    · exact k1
theorem On.loV (h : Shift T U o) (k : On o a b) : Po.loV T a = Po.loV U b := by
  unfold Po.loV; rw [k.is h, (k.tok h _).2]
theorem On.hiV (h : Shift T U o) (k : On o a b) : Po.hiV T e a = Po.hiV U e' b := by
  have k1 := k.take (e := e) (e' := e') h 3
  unfold Po.hiV; rw [k.is h, (k.tok h _).2, k1.is h, (k1.on.tok h _).2]
theorem On.boxS (h : Shift T U o) (k : On o a b) : On o (Po.boxS T e a) (Po.boxS U e' b) := (((k.take h 3).take h 3).take h 3).take h 3
theorem On.boxV (h : Shift T U o) (k : On o a b) : Po.boxV T e a = Po.boxV U e' b := by
  have k1 := k.take (e := e) (e' := e') h 3
  have k2 := k1.take (e := e) (e' := e') h 3
  have k3 := k2.take (e := e) (e' := e') h 3
  unfold Po.boxV
  simp only [(k.tok h 3).2, (k1.tok h 3).2, (k2.tok h 3).2, (k3.tok h 3).2]
theorem On.more (h : Shift T U o) (f : Nat) : ∀ {a b : St}, On o a b → On o (moreS T e f a) (moreS U e' f b) ∧ moreV T e f a = moreV U e' f b := by
  induction f with
  | zero => intro a b k; exact ⟨k, rfl⟩
  | succ f ih =>
    intro a b k
    unfold moreS moreV
    rw [k.is h]
    split
    · have := ih (k.on.boxS (e := e) (e' := e') h)
      exact ⟨this.1, by rw [this.2, k.on.boxV (e := e) (e' := e') h]⟩
    · exact ⟨k, rfl⟩
theorem On.boxes (h : Shift T U o) (k : On o a b) : On o (boxesS T e a) (boxesS U e' b) ∧ boxesV T e a = boxesV U e' b := by
  have k1 := k.boxS (e := e) (e' := e') h
  have hm := On.more (e := e) (e' := e') h (T.length + 1) k1
  have hl := h.len
  obtain ⟨m1, m2⟩ := Pr.moreS_fuel (T := U) (e := e') (U.length + 1) (T.length + 1) (Po.boxS U e' b) (by omega) (by omega)
  unfold boxesS boxesV
  rw [← m1, ← m2]
  exact ⟨hm.1, by rw [hm.2, k.boxV (e := e) (e' := e') h]⟩
theorem On.declS (h : Shift T U o) (k : On o a b) : On o (Po.declS T e a) (Po.declS U e' b) := by
  have kn : On o (namedS T e (Po.on a)) (namedS U e' (Po.on b)) := ((k.on.take h 1).want h [61]).take h 3
  have kr : On o (regionS T e (Po.on a)) (regionS U e' (Po.on b)) := (((k.on.take h 1).want h [61]).boxes h).1
  have rule : ∀ {a b : St}, On o a b → On o (ruleS T e a) (ruleS U e' b) := fun k => by
    unfold ruleS rs4 rs3 rs2 rs1 cloakS
    exact ((((((((((k.want h _).whoS h).want h _).tiersS h).want h _).whoS h).want h _).whereS h).want h _).take h 3)
  unfold Po.declS
  simp only [k.is h]
  refine On.want h ?_ _
  split
  · exact kn
  · split
    · exact kn
    · split
      · exact kr
      · split
        · exact rule k.on
        · split
          · exact rule k.on
          · split
            · exact (k.on.want h _).whoS h
            · exact rule k.wrong
theorem On.declV (h : Shift T U o) (k : On o a b) : unD (Po.declV T e a) = unD (Po.declV U e' b) := by
  have named : ∀ n : Int, unD (namedV T e (declAt T e a n) (Po.on a)) = unD (namedV U e' (declAt U e' b n) (Po.on b)) := fun n => by
    unfold namedV declAt unD
    simp only [(k.on.tok h 1).1, (((k.on.take (e := e) (e' := e') h 1).want (e := e) (e' := e') h [61]).tok h 3).2]
  have rule : ∀ {x y : St} (n : Int), On o x y → unD (ruleV T e (declAt T e a n) x) = unD (ruleV U e' (declAt U e' b n) y) := fun n k => by
    have k0 := k.want (e := e) (e' := e') h wRole
    have k1 : On o (rs1 T e _) (rs1 U e' _) := (k0.whoS (e := e) (e' := e') h).want h wTier
    have k2 : On o (rs2 T e _) (rs2 U e' _) := (k1.tiersS (e := e) (e' := e') h).want h wLabel
    have k3 : On o (rs3 T e _) (rs3 U e' _) := (k2.whoS (e := e) (e' := e') h).want h wIn
    have k4 : On o (rs4 T e _) (rs4 U e' _) := (k3.whereS (e := e) (e' := e') h).want h wZoom
    unfold ruleV declAt unD
    simp only [k0.whoV (e := e) (e' := e') h, k1.loV h, k1.hiV (e := e) (e' := e') h, k2.whoV (e := e) (e' := e') h, k3.whereV (e := e) (e' := e') h, (k4.tok h 3).2]
  unfold Po.declV
  simp only [k.is h]
  split
  · exact named 1
  · split
    · exact named 2
    · split
      · unfold regionV declAt unD
        simp only [(k.on.tok h 1).1, (((k.on.take (e := e) (e' := e') h 1).want (e := e) (e' := e') h [61]).boxes (e := e) (e' := e') h).2]
      · split
        · exact rule 4 k.on
        · split
          · exact rule 5 k.on
          · split
            · unfold cloakV declAt unD
              simp only [(k.on.want (e := e) (e' := e') h wRole).whoV (e := e) (e' := e') h]
            · exact rule 0 k.wrong
theorem On.parse (h : Shift T U o) (f : Nat) : ∀ {a b : St}, On o a b → On o (parseS T e f a) (parseS U e' f b) ∧ (parseV T e f a).map unD = (parseV U e' f b).map unD := by
  induction f with
  | zero => intro a b k; exact ⟨k, rfl⟩
  | succ f ih =>
    intro a b k
    have hc : (a.at_ < T.length ∧ a.f.1 = 0) ↔ (b.at_ < U.length ∧ b.f.1 = 0) := by rw [k.at_, k.f, h.len]; omega
    unfold parseS parseV
    by_cases hb : b.at_ < U.length ∧ b.f.1 = 0
    · rw [if_pos (hc.2 hb), if_pos hb, if_pos (hc.2 hb), if_pos hb]
      have := ih (k.declS (e := e) (e' := e') h)
      exact ⟨this.1, by rw [List.map_cons, List.map_cons, this.2, k.declV (e := e) (e' := e') h]⟩
    · rw [if_neg (fun x => hb (hc.1 x)), if_neg hb, if_neg (fun x => hb (hc.1 x)), if_neg hb]
      exact ⟨k, rfl⟩
end

theorem parse_T {L : Bytes} {T : List Tok} (hk : tokens L = .ok T) : parse L = if (parseS T (posOf L) (T.length + 1) st0).f.1 = 0 then .ok (parseV T (posOf L) (T.length + 1) st0) else .error (parseS T (posOf L) (T.length + 1) st0).f := by
  unfold parse; rw [hk]
/-- the reader's end: behind all tokens, without a fault -/
theorem parse_end {T : List Tok} {e : Nat × Nat} (h : (parseS T e (T.length + 1) st0).f.1 = 0) : parseS T e (T.length + 1) st0 = ⟨T.length, (0, 0, 0)⟩ := by
  have k : Keeps T e fun st => st.at_ ≤ T.length ∧ (st.f.1 = 0 → st.f = (0, 0, 0)) := by
    refine ⟨fun a hl h => ⟨hl, h.2⟩, fun a h => ⟨by rw [wrong_at]; exact h.1, fun h0 => ?_⟩⟩
    unfold wrong at *
    split at h0
    · simp [mkFault] at h0
    · rename_i hn; exact absurd h0 hn
  have k1 := k.parse (T.length + 1) (a := st0) ⟨Nat.zero_le _, fun _ => rfl⟩
  have hge : ∀ (f : Nat) (a : St), T.length < f + a.at_ → (parseS T e f a).f.1 = 0 → T.length ≤ (parseS T e f a).at_ := by
    intro f
    induction f with
    | zero => intro a hl _; show T.length ≤ a.at_; omega
    | succ f ih =>
      intro a hl h0
      unfold parseS at h0 ⊢
      by_cases hc : a.at_ < T.length ∧ a.f.1 = 0
      · rw [if_pos hc] at h0 ⊢
        have := decl_gt a ((Pr.stays_parse f _).zero h0)
        exact ih _ (by omega) h0
      · rw [if_neg hc] at h0 ⊢
        rcases Nat.lt_or_ge a.at_ T.length with h1 | h1
        · exact absurd ⟨h1, h0⟩ hc
        · exact h1
  have h1 := hge (T.length + 1) st0 (by omega) h
  generalize parseS T e (T.length + 1) st0 = z at *
  obtain ⟨i, f⟩ := z
  simp only at k1 h1 h
  rw [k1.2 h, show i = T.length by omega]
/-- two texts with declarations have those of the one and then of the other, but for places -/
theorem parse_join {x y : Bytes} {ds es : List Decl} (hx : parse x = .ok ds) (hy : parse y = .ok es) (hl : x.length + y.length ≤ 511) : ∃ es', parse (x ++ 10 :: y) = .ok (ds ++ es') ∧ es'.map unD = es.map unD := by
  cases hkx : tokens x with
  | error f => unfold parse at hx; rw [hkx] at hx; cases hx
  | ok T =>
    cases hky : tokens y with
    | error f => unfold parse at hy; rw [hky] at hy; cases hy
    | ok V =>
      rw [parse_T hkx] at hx
      rw [parse_T hky] at hy
      split at hx
      · rename_i h1
        split at hy
        · rename_i h2
          cases hx
          cases hy
          have hj := tokens_join hkx hky hl
          generalize hU : V.map (down (posOf x).1) = U at *
          rw [parse_T hj]
          have he1 := parse_end h1
          have hUl : U.length = V.length := by rw [← hU, List.length_map]
          have hlen : (T ++ U).length = T.length + U.length := List.length_append
          obtain ⟨p1, p2⟩ := parse_app (U := U) (e' := posOf (x ++ 10 :: y)) (T.length + 1) st0 ((T ++ U).length + 1) (U.length + 1) (by show T.length < T.length + 1 + 0; omega) h1 (by show _ < _ + 0; omega) (by rw [he1]; show _ < _ + T.length; omega)
          rw [he1] at p1 p2
          have hs : Shift (T ++ U) V T.length := by
            refine ⟨fun i => ?_, by rw [hlen, hUl]⟩
            rw [List.getElem?_append_right (by omega), show T.length + i - T.length = i by omega, ← hU, List.getElem?_map, Option.map_map]
            rfl
          obtain ⟨q1, q2⟩ := On.parse (e := posOf (x ++ 10 :: y)) (e' := posOf y) hs (U.length + 1) (a := ⟨T.length, (0, 0, 0)⟩) (b := st0) ⟨rfl, rfl⟩
          rw [hUl] at q1 q2
          rw [p1, p2, hUl]
          rw [if_pos (by rw [q1.f]; exact h2)]
          exact ⟨_, rfl, q2⟩
        · cases hy
      · cases hx

end Go.Proofs.YteddkgpnklfppaaGreatDoor.Po
