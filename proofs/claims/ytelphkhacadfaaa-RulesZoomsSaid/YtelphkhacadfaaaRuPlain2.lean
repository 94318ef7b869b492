/- Plain laws: what is read out of a text is small; what declarations come to may be. No program. -/
import Derived.Test.YtelphkhacadfaaaRuCheck
import Derived.Test.YtelphkhacadfaaaPolPlain
import Derived.Test.YtelphkhacadfaaaLexPlain
namespace Go.Proofs.Ytelphkhacadfaaa.Po
open Lx

variable {T : List Tok} {e : Nat × Nat}
theorem takeTok_small (hT : ∀ t ∈ T, t.text.length ≤ 512) (k : Nat) (st : St) : (txt (takeTok T k st).text).size ≤ 512 := by
  have h : (takeTok T k st).text.length ≤ 512 := by
    unfold takeTok
    split
    · cases h : T[st.at_]? with
      | none => simp [zeroTok]
      | some t => exact hT t (List.mem_of_getElem? h)
    · simp [zeroTok]
  simpa [txt, ByteArray.size] using h
theorem empty_small : (⟨#[]⟩ : ByteArray).size ≤ 512 := by decide
theorem whoV_small (hT : ∀ t ∈ T, t.text.length ≤ 512) (st : St) : (whoV T e st).name.size ≤ 512 := by
  unfold whoV
  split
  · exact empty_small
  · split
    · exact takeTok_small hT _ _
    · exact empty_small
theorem whereV_small (hT : ∀ t ∈ T, t.text.length ≤ 512) (st : St) : (whereV T e st).name.size ≤ 512 := by
  unfold whereV
  split
  · exact empty_small
  · exact takeTok_small hT _ _
theorem moreV_len (f : Nat) : ∀ st : St, (moreV T e f st).length ≤ f := by
  induction f with
  | zero => intro st; simp [moreV]
  | succ f ih =>
    intro st
    unfold moreV
    split
    · simp only [List.length_cons]; have := ih (boxS T e (on st)); omega
    · simp
/-- a declaration out of a text -/
structure Sm (d : Decl) : Prop where
  name : d.name.size ≤ 512
  role : d.role.name.size ≤ 512
  label : d.label.name.size ≤ 512
  place : d.place.name.size ≤ 512
  boxes : d.boxes.length ≤ 600
theorem ruleV_small (hT : ∀ t ∈ T, t.text.length ≤ 512) {D : Decl} (hn : D.name.size ≤ 512) (hb : D.boxes.length ≤ 600) (st : St) : Sm (ruleV T e D st) := by
  have h1 := whoV_small (e := e) hT (want T e wRole st)
  have h2 := whoV_small (e := e) hT (rs2 T e st)
  have h3 := whereV_small (e := e) hT (rs3 T e st)
  unfold ruleV
  generalize whoV T e (want T e wRole st) = a at *
  generalize whoV T e (rs2 T e st) = b at *
  generalize whereV T e (rs3 T e st) = c at *
  exact ⟨hn, h1, h2, h3, hb⟩
theorem declAt_small (st : St) (k : Int) : (declAt T e st k).name.size ≤ 512 ∧ (declAt T e st k).boxes.length ≤ 600 := ⟨empty_small, Nat.zero_le _⟩
theorem declV_small (hT : ∀ t ∈ T, t.text.length ≤ 512) (hn : T.length ≤ 512) (st : St) : Sm (declV T e st) := by
  unfold declV
  have hz : (⟨#[]⟩ : ByteArray).size ≤ 512 := empty_small
  split
  · exact ⟨takeTok_small hT _ _, hz, hz, hz, by simp [namedV, declAt, zeroDecl]⟩
  · split
    · exact ⟨takeTok_small hT _ _, hz, hz, hz, by simp [namedV, declAt, zeroDecl]⟩
    · split
      · refine ⟨takeTok_small hT _ _, hz, hz, hz, ?_⟩
        show (boxesV T e _).length ≤ 600
        unfold boxesV
        have := moreV_len (T := T) (e := e) (T.length + 1) (boxS T e (want T e [61] (takeSt T e 1 (on st))))
        simp only [List.length_cons]
        omega
      · split
        · exact ruleV_small hT (declAt_small _ _).1 (declAt_small _ _).2 _
        · split
          · exact ruleV_small hT (declAt_small _ _).1 (declAt_small _ _).2 _
          · split
            · exact ⟨hz, whoV_small hT _, hz, hz, by simp [cloakV, declAt, zeroDecl]⟩
            · exact ruleV_small hT (declAt_small _ _).1 (declAt_small _ _).2 _
theorem parseV_small (hT : ∀ t ∈ T, t.text.length ≤ 512) (hn : T.length ≤ 512) (f : Nat) : ∀ st : St, (parseV T e f st).length ≤ f ∧ ∀ d ∈ parseV T e f st, Sm d := by
  induction f with
  | zero => intro st; simp [parseV]
  | succ f ih =>
    intro st
    unfold parseV
    split
    · obtain ⟨h1, h2⟩ := ih (declS T e st)
      refine ⟨by simp only [List.length_cons]; omega, fun d hd => ?_⟩
      rcases List.mem_cons.1 hd with rfl | hd
      · exact declV_small hT hn st
      · exact h2 d hd
    · simp
theorem parse_small {L : Bytes} {ds : List Decl} (h : parse L = .ok ds) : ds.length ≤ 513 ∧ ∀ d ∈ ds, Sm d := by
  unfold parse at h
  cases hk : tokens L with
  | error f => rw [hk] at h; cases h
  | ok T =>
    rw [hk] at h
    simp only at h
    obtain ⟨b1, b2⟩ := tokens_bound hk
    split at h
    · simp only [Except.ok.injEq] at h
      subst h
      have := parseV_small (e := posOf L) b2 b1 (T.length + 1) st0
      generalize parseV T (posOf L) (T.length + 1) st0 = ds at *
      exact ⟨by omega, this.2⟩
    · cases h

end Go.Proofs.Ytelphkhacadfaaa.Po
namespace Go.Proofs.Ytelphkhacadfaaa.Ru
open Po (Box Who Decl)

/-! ### what a policy's rules are -/
/-- what stands ahead has been checked -/
structure Good (a : List Decl) : Prop where
  num : ∀ d ∈ a, d.kind = 1 ∨ d.kind = 2 → 0 ≤ d.n ∧ d.n ≤ 7
  reg : ∀ d ∈ a, d.kind = 3 → boxesR d.boxes = true
theorem declared_mem {a : List Decl} {k : Int} {nm : ByteArray} {d : Decl} (h : declared a k nm = some d) : d ∈ a ∧ d.kind = k := by
  unfold declared at h
  have h1 := List.find?_some h
  simp only [Bool.and_eq_true, beq_iff_eq] at h1
  exact ⟨List.mem_of_find?_eq_some h, h1.1⟩
theorem pow_small {n : Int} (h0 : 0 ≤ n) (h7 : n ≤ 7) : small (2 ^ n.toNat) 255 = true := by
  have : n = 0 ∨ n = 1 ∨ n = 2 ∨ n = 3 ∨ n = 4 ∨ n = 5 ∨ n = 6 ∨ n = 7 := by omega
  rcases this with rfl | rfl | rfl | rfl | rfl | rfl | rfl | rfl <;> decide
theorem rightW_n {w : Who} (h : rightW w = true) (ha : w.any = false) : 0 ≤ w.n := by
  unfold rightW at h
  rw [ha, if_neg (by decide)] at h
  split at h
  · unfold num at h; simp only [Bool.and_eq_true, decide_eq_true_eq] at h; exact h.1
  · simp only [Bool.and_eq_true, beq_iff_eq] at h; omega
theorem whoN_pos {a : List Decl} (hg : Good a) {k : Int} (hk : k = 1 ∨ k = 2) {w : Who} (hw : rightW w = true) (ha : w.any = false) : 0 ≤ whoN a k w := by
  unfold whoN
  split
  · exact rightW_n hw ha
  · split
    · rename_i d hd
      obtain ⟨h1, h2⟩ := declared_mem hd
      exact (hg.num d h1 (by omega)).1
    · exact Int.le_refl _
theorem setN_small {a : List Decl} (hg : Good a) {k : Int} (hk : k = 1 ∨ k = 2) {w : Who} (hw : rightW w = true) : small (setN a k w) 255 = true := by
  unfold setN
  split
  · decide
  · rename_i ha
    split
    · decide
    · exact pow_small (whoN_pos hg hk hw (by simpa using ha)) (by omega)
theorem whereB_good {a : List Decl} (hg : Good a) (w : Who) : boxesR (whereB a w) = true := by
  unfold whereB
  split
  · decide
  · split
    · rename_i d hd
      obtain ⟨h1, h2⟩ := declared_mem hd
      exact hg.reg d h1 h2
    · rfl
theorem may_role {d : Decl} (h : may d = true) (hk : 3 < d.kind) : rightW d.role = true := by
  have h6 := may_kind h
  unfold may at h
  rw [if_neg (by omega), if_neg (by omega)] at h
  by_cases h4 : d.kind = 4 ∨ d.kind = 5
  · rw [if_pos h4] at h; unfold ruleD at h; simp only [Bool.and_eq_true] at h; exact h.2.1.1.1
  · rw [if_neg h4, if_pos (by omega)] at h; simp only [Bool.and_eq_true] at h; exact h.1.2
theorem may_rule {d : Decl} (h : may d = true) (hk : d.kind = 4 ∨ d.kind = 5) : rightW d.label = true ∧ 0 ≤ d.lo ∧ 0 ≤ d.zoom ∧ placeW d.place = true := by
  unfold may at h
  rw [if_neg (by omega), if_neg (by omega), if_pos hk] at h
  unfold ruleD num at h
  simp only [Bool.and_eq_true, decide_eq_true_eq] at h
  exact ⟨h.2.1.2, h.2.1.1.2.1.1.1, h.2.1.1.2.2.1, h.2.2⟩
theorem may_n {d : Decl} (h : may d = true) (hk : d.kind = 1 ∨ d.kind = 2) : 0 ≤ d.n := by
  unfold may at h
  rw [if_pos hk] at h
  unfold num at h
  simp only [Bool.and_eq_true, decide_eq_true_eq] at h
  exact h.1.1.1.2.1
theorem rrule_good {a : List Decl} (hg : Good a) {d : Decl} (hm : may d = true) (hk : 3 < d.kind) {n b : Int} {x : Rule} (h : rrule a d n b = .ok x) : ruleR x = true := by
  have h6 := may_kind hm
  unfold rrule at h
  rw [rsum_eq, rsum_eq, rwhere_eq] at h
  have hr := setN_small hg (k := 1) (.inl rfl) (may_role hm hk)
  split at h
  · cases h
  · split at h
    · cases h
    · rename_i roles hroles
      split at hroles
      · simp only [Except.ok.injEq] at hroles
        subst hroles
        split at h
        · rename_i hk6
          simp only [Except.ok.injEq] at h
          subst h
          unfold ruleR
          rw [if_pos hk6, hr]
          rfl
        · rename_i hk6
          obtain ⟨hl, hlo, hz, _⟩ := may_rule hm (by omega)
          have hlb := setN_small hg (k := 2) (.inr rfl) hl
          split at h
          · cases h
          · rename_i ht
            split at h
            · cases h
            · rename_i labels hlabels
              split at hlabels
              · simp only [Except.ok.injEq] at hlabels
                subst hlabels
                split at h
                · cases h
                · rename_i bs hbs
                  split at hbs
                  · simp only [Except.ok.injEq] at hbs
                    subst hbs
                    split at h
                    · cases h
                    · split at h
                      · cases h
                      · simp only [Except.ok.injEq] at h
                        subst h
                        unfold ruleR
                        have hbb := whereB_good hg d.place
                        rw [if_neg hk6, if_pos (by show d.kind = 4 ∨ d.kind = 5; omega)]
                        simp only [hr, hlb, hbb, Bool.true_and, Bool.and_true]
                        unfold small
                        simp only [Bool.and_eq_true, decide_eq_true_eq]
                        omega
                  · cases hbs
              · cases hlabels
      · cases hroles
theorem rrun_good (l : List Decl) : ∀ (a : List Decl) (out : List Rule) (b : Int) (rs : List Rule), Good a → (∀ d ∈ l, may d = true) → rulesR out = true → rrun a l out b = .ok rs → rulesR rs = true ∧ rs.length = out.length + (l.filter fun d => decide (3 < d.kind)).length := by
  induction l with
  | nil =>
    intro a out b rs _ _ ho h
    unfold rrun at h
    simp only [Except.ok.injEq] at h
    subst h
    exact ⟨ho, by simp⟩
  | cons d l ih =>
    intro a out b rs hg hm ho h
    have hd := hm d List.mem_cons_self
    have hm' : ∀ d ∈ l, may d = true := fun x hx => hm x (List.mem_cons_of_mem _ hx)
    have hk := may_kind hd
    unfold rrun at h
    by_cases h3 : 3 < d.kind
    · rw [if_pos h3] at h
      cases hr : rrule a d out.length b with
      | error f => rw [hr] at h; cases h
      | ok x =>
        rw [hr] at h
        simp only at h
        have hx := rrule_good hg hd h3 hr
        have hg2 : Good (a ++ [d]) := ⟨fun y hy hk => by
          rcases List.mem_append.1 hy with hy | hy
          · exact hg.num y hy hk
          · rw [List.mem_singleton.1 hy] at hk; omega, fun y hy hk => by
          rcases List.mem_append.1 hy with hy | hy
          · exact hg.reg y hy hk
          · rw [List.mem_singleton.1 hy] at hk; omega⟩
        obtain ⟨h1, h2⟩ := ih _ _ _ rs hg2 hm' (by unfold rulesR at *; rw [List.all_append, ho]; simp [hx]) h
        refine ⟨h1, ?_⟩
        rw [h2, List.filter_cons_of_pos (by simpa using h3)]
        simp only [List.length_append, List.length_cons, List.length_nil]
        omega
    · rw [if_neg h3] at h
      split at h
      · cases h
      · split at h
        · cases h
        · rename_i hb
          rw [rbad_eq hd (by omega)] at hb
          have hg2 : Good (a ++ [d]) := ⟨fun y hy hk => by
            rcases List.mem_append.1 hy with hy | hy
            · exact hg.num y hy hk
            · rw [List.mem_singleton.1 hy] at hk ⊢
              rw [if_neg (by omega)] at hb
              exact ⟨may_n hd hk, by simpa using hb⟩, fun y hy hk => by
            rcases List.mem_append.1 hy with hy | hy
            · exact hg.reg y hy hk
            · rw [List.mem_singleton.1 hy] at hk ⊢
              rw [if_pos hk] at hb
              simpa using hb⟩
          obtain ⟨h1, h2⟩ := ih _ _ _ rs hg2 hm' ho h
          refine ⟨h1, ?_⟩
          rw [h2, List.filter_cons_of_neg (by simpa using h3)]
theorem check_good {l : List Decl} {rs : List Rule} (h : checkV l = .ok rs) : rulesR rs = true ∧ rs.length = (l.filter fun d => decide (3 < d.kind)).length := by
  rw [← rcheck_eq] at h
  unfold rcheckV at h
  have e : l.all rRight = l.all may := by congr 1; funext d; exact may_eq d
  rw [e] at h
  split at h
  · rename_i hm
    have := rrun_good l [] [] 0 rs ⟨by simp, by simp⟩ (fun d hd => List.all_eq_true.1 hm d hd) rfl h
    simpa using this
  · cases h

end Go.Proofs.Ytelphkhacadfaaa.Ru
