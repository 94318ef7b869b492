/-
  Plain laws: what is read out of a text is small; what declarations come to may be. No program.
  What holds of the checker so far as nothing was wrong; the walk of its decl.
  The walk of rules.Check.
  What is read out of a text is small.
-/
import Derived.Test.YteddkgpnklfppaaGreatDoorPk16
import Derived.Test.YteddkgpnklfppaaGreatDoorPk13
import Derived.Test.YteddkgpnklfppaaGreatDoorPk18

namespace Go.Proofs.YteddkgpnklfppaaGreatDoor.Po
open Lx

variable {T : List Tok} {e : Nat × Nat}
theorem takeTok_small (hT : ∀ t ∈ T, t.text.length ≤ 512) (k : Nat) (st : St) : (txt (takeTok T k st).text).size ≤ 512 := by
  have h : (takeTok T k st).text.length ≤ 512 := by
    unfold takeTok
    split
    · cases h : T[st.at_]? with
      | none => simp [zeroTok]
      | some t => exact hT t (List.mem_of_getElem? h)
    · simp [zeroTok]
  simpa [txt, ByteArray.size] using h
theorem empty_small : (⟨#[]⟩ : ByteArray).size ≤ 512 := by decide
theorem whoV_small (hT : ∀ t ∈ T, t.text.length ≤ 512) (st : St) : (whoV T e st).name.size ≤ 512 := by
  unfold whoV
  split
  · exact empty_small
  · split
    · exact takeTok_small hT _ _
    · exact empty_small
theorem whereV_small (hT : ∀ t ∈ T, t.text.length ≤ 512) (st : St) : (whereV T e st).name.size ≤ 512 := by
  unfold whereV
  split
  · exact empty_small
  · exact takeTok_small hT _ _
theorem moreV_len (f : Nat) : ∀ st : St, (moreV T e f st).length ≤ f := by
  induction f with
  | zero => intro st; simp [moreV]
  | succ f ih =>
    intro st
    unfold moreV
    split
    · simp only [List.length_cons]; have := ih (boxS T e (on st)); omega
    · simp
/-- a declaration out of a text -/
structure Sm (d : Decl) : Prop where
  name : d.name.size ≤ 512
  role : d.role.name.size ≤ 512
  label : d.label.name.size ≤ 512
  place : d.place.name.size ≤ 512
  boxes : d.boxes.length ≤ 600
theorem ruleV_small (hT : ∀ t ∈ T, t.text.length ≤ 512) {D : Decl} (hn : D.name.size ≤ 512) (hb : D.boxes.length ≤ 600) (st : St) : Sm (ruleV T e D st) := by
  have h1 := whoV_small (e := e) hT (want T e wRole st)
  have h2 := whoV_small (e := e) hT (rs2 T e st)
  have h3 := whereV_small (e := e) hT (rs3 T e st)
  unfold ruleV
  generalize whoV T e (want T e wRole st) = a at *
  generalize whoV T e (rs2 T e st) = b at *
  generalize whereV T e (rs3 T e st) = c at *
  exact ⟨hn, h1, h2, h3, hb⟩
theorem declAt_small (st : St) (k : Int) : (declAt T e st k).name.size ≤ 512 ∧ (declAt T e st k).boxes.length ≤ 600 := ⟨empty_small, Nat.zero_le _⟩
theorem declV_small (hT : ∀ t ∈ T, t.text.length ≤ 512) (hn : T.length ≤ 512) (st : St) : Sm (declV T e st) := by
  unfold declV
  have hz : (⟨#[]⟩ : ByteArray).size ≤ 512 := empty_small
  split
  · exact ⟨takeTok_small hT _ _, hz, hz, hz, by simp [namedV, declAt, zeroDecl]⟩
  · split
    · exact ⟨takeTok_small hT _ _, hz, hz, hz, by simp [namedV, declAt, zeroDecl]⟩
    · split
      · refine ⟨takeTok_small hT _ _, hz, hz, hz, ?_⟩
        show (boxesV T e _).length ≤ 600
        unfold boxesV
        have := moreV_len (T := T) (e := e) (T.length + 1) (boxS T e (want T e [61] (takeSt T e 1 (on st))))
        simp only [List.length_cons]
        omega
      · split
        · exact ruleV_small hT (declAt_small _ _).1 (declAt_small _ _).2 _
        · split
          · exact ruleV_small hT (declAt_small _ _).1 (declAt_small _ _).2 _
          · split
            · exact ⟨hz, whoV_small hT _, hz, hz, by simp [cloakV, declAt, zeroDecl]⟩
            · exact ruleV_small hT (declAt_small _ _).1 (declAt_small _ _).2 _
theorem parseV_small (hT : ∀ t ∈ T, t.text.length ≤ 512) (hn : T.length ≤ 512) (f : Nat) : ∀ st : St, (parseV T e f st).length ≤ f ∧ ∀ d ∈ parseV T e f st, Sm d := by
  induction f with
  | zero => intro st; simp [parseV]
  | succ f ih =>
    intro st
    unfold parseV
    split
    · obtain ⟨h1, h2⟩ := ih (declS T e st)
      refine ⟨by simp only [List.length_cons]; omega, fun d hd => ?_⟩
      rcases List.mem_cons.1 hd with rfl | hd
      · exact declV_small hT hn st
      · exact h2 d hd
    · simp
theorem parse_small {L : Bytes} {ds : List Decl} (h : parse L = .ok ds) : ds.length ≤ 513 ∧ ∀ d ∈ ds, Sm d := by
  unfold parse at h
  cases hk : tokens L with
  | error f => rw [hk] at h; cases h
  | ok T =>
    rw [hk] at h
    simp only at h
    obtain ⟨b1, b2⟩ := tokens_bound hk
    split at h
    · simp only [Except.ok.injEq] at h
      subst h
      have := parseV_small (e := posOf L) b2 b1 (T.length + 1) st0
      generalize parseV T (posOf L) (T.length + 1) st0 = ds at *
      exact ⟨by omega, this.2⟩
    · cases h

end Go.Proofs.YteddkgpnklfppaaGreatDoor.Po
namespace Go.Proofs.YteddkgpnklfppaaGreatDoor.Ru
open Po (Box Who Decl)

/-! ### what a policy's rules are -/
/-- what stands ahead has been checked -/
structure Good (a : List Decl) : Prop where
  num : ∀ d ∈ a, d.kind = 1 ∨ d.kind = 2 → 0 ≤ d.n ∧ d.n ≤ 7
  reg : ∀ d ∈ a, d.kind = 3 → boxesR d.boxes = true
theorem declared_mem {a : List Decl} {k : Int} {nm : ByteArray} {d : Decl} (h : declared a k nm = some d) : d ∈ a ∧ d.kind = k := by
  unfold declared at h
  have h1 := List.find?_some h
  simp only [Bool.and_eq_true, beq_iff_eq] at h1
  exact ⟨List.mem_of_find?_eq_some h, h1.1⟩
theorem pow_small {n : Int} (h0 : 0 ≤ n) (h7 : n ≤ 7) : small (2 ^ n.toNat) 255 = true := by
  have : n = 0 ∨ n = 1 ∨ n = 2 ∨ n = 3 ∨ n = 4 ∨ n = 5 ∨ n = 6 ∨ n = 7 := by omega
  rcases this with rfl | rfl | rfl | rfl | rfl | rfl | rfl | rfl <;> decide
theorem rightW_n {w : Who} (h : rightW w = true) (ha : w.any = false) : 0 ≤ w.n := by
  unfold rightW at h
  rw [ha, if_neg (by decide)] at h
  split at h
  · unfold num at h; simp only [Bool.and_eq_true, decide_eq_true_eq] at h; exact h.1
  · simp only [Bool.and_eq_true, beq_iff_eq] at h; omega
theorem whoN_pos {a : List Decl} (hg : Good a) {k : Int} (hk : k = 1 ∨ k = 2) {w : Who} (hw : rightW w = true) (ha : w.any = false) : 0 ≤ whoN a k w := by
  unfold whoN
  split
  · exact rightW_n hw ha
  · split
    · rename_i d hd
      obtain ⟨h1, h2⟩ := declared_mem hd
      exact (hg.num d h1 (by omega)).1
    · exact Int.le_refl _
theorem setN_small {a : List Decl} (hg : Good a) {k : Int} (hk : k = 1 ∨ k = 2) {w : Who} (hw : rightW w = true) : small (setN a k w) 255 = true := by
  unfold setN
  split
  · decide
  · rename_i ha
    split
    · decide
    · exact pow_small (whoN_pos hg hk hw (by simpa using ha)) (by omega)
theorem whereB_good {a : List Decl} (hg : Good a) (w : Who) : boxesR (whereB a w) = true := by
  unfold whereB
  split
  · decide
  · split
    · rename_i d hd
      obtain ⟨h1, h2⟩ := declared_mem hd
      exact hg.reg d h1 h2
    · rfl
theorem may_role {d : Decl} (h : may d = true) (hk : 3 < d.kind) : rightW d.role = true := by
  have h6 := may_kind h
  unfold may at h
  rw [if_neg (by omega), if_neg (by omega)] at h
  by_cases h4 : d.kind = 4 ∨ d.kind = 5
  · rw [if_pos h4] at h; unfold ruleD at h; simp only [Bool.and_eq_true] at h; exact h.2.1.1.1
  · rw [if_neg h4, if_pos (by omega)] at h; simp only [Bool.and_eq_true] at h; exact h.1.2
theorem may_rule {d : Decl} (h : may d = true) (hk : d.kind = 4 ∨ d.kind = 5) : rightW d.label = true ∧ 0 ≤ d.lo ∧ 0 ≤ d.zoom ∧ placeW d.place = true := by
  unfold may at h
  rw [if_neg (by omega), if_neg (by omega), if_pos hk] at h
  unfold ruleD num at h
  simp only [Bool.and_eq_true, decide_eq_true_eq] at h
  exact ⟨h.2.1.2, h.2.1.1.2.1.1.1, h.2.1.1.2.2.1, h.2.2⟩
theorem may_n {d : Decl} (h : may d = true) (hk : d.kind = 1 ∨ d.kind = 2) : 0 ≤ d.n := by
  unfold may at h
  rw [if_pos hk] at h
  unfold num at h
  simp only [Bool.and_eq_true, decide_eq_true_eq] at h
  exact h.1.1.1.2.1
theorem rrule_good {a : List Decl} (hg : Good a) {d : Decl} (hm : may d = true) (hk : 3 < d.kind) {n b : Int} {x : Rule} (h : rrule a d n b = .ok x) : ruleR x = true := by
  have h6 := may_kind hm
  unfold rrule at h
  rw [rsum_eq, rsum_eq, rwhere_eq] at h
  have hr := setN_small hg (k := 1) (.inl rfl) (may_role hm hk)
  split at h
  · cases h
  · split at h
    · cases h
    · rename_i roles hroles
      split at hroles
      · simp only [Except.ok.injEq] at hroles
        subst hroles
        split at h
        · rename_i hk6
          simp only [Except.ok.injEq] at h
          subst h
          unfold ruleR
          rw [if_pos hk6, hr]
          rfl
        · rename_i hk6
          obtain ⟨hl, hlo, hz, _⟩ := may_rule hm (by omega)
          have hlb := setN_small hg (k := 2) (.inr rfl) hl
          split at h
          · cases h
          · rename_i ht
            split at h
            · cases h
            · rename_i labels hlabels
              split at hlabels
              · simp only [Except.ok.injEq] at hlabels
                subst hlabels
                split at h
                · cases h
                · rename_i bs hbs
                  split at hbs
                  · simp only [Except.ok.injEq] at hbs
                    subst hbs
                    split at h
                    · cases h
                    · split at h
                      · cases h
                      · simp only [Except.ok.injEq] at h
                        subst h
                        unfold ruleR
                        have hbb := whereB_good hg d.place
                        rw [if_neg hk6, if_pos (by show d.kind = 4 ∨ d.kind = 5; omega)]
                        simp only [hr, hlb, hbb, Bool.true_and, Bool.and_true]
                        unfold small
                        simp only [Bool.and_eq_true, decide_eq_true_eq]
                        omega
                  · cases hbs
              · cases hlabels
      · cases hroles
theorem rrun_good (l : List Decl) : ∀ (a : List Decl) (out : List Rule) (b : Int) (rs : List Rule), Good a → (∀ d ∈ l, may d = true) → rulesR out = true → rrun a l out b = .ok rs → rulesR rs = true ∧ rs.length = out.length + (l.filter fun d => decide (3 < d.kind)).length := by
  induction l with
  | nil =>
    intro a out b rs _ _ ho h
    unfold rrun at h
    simp only [Except.ok.injEq] at h
    subst h
    exact ⟨ho, by simp⟩
  | cons d l ih =>
    intro a out b rs hg hm ho h
    have hd := hm d List.mem_cons_self
    have hm' : ∀ d ∈ l, may d = true := fun x hx => hm x (List.mem_cons_of_mem _ hx)
    have hk := may_kind hd
    unfold rrun at h
    by_cases h3 : 3 < d.kind
    · rw [if_pos h3] at h
      cases hr : rrule a d out.length b with
      | error f => rw [hr] at h; cases h
      | ok x =>
        rw [hr] at h
        simp only at h
        have hx := rrule_good hg hd h3 hr
        have hg2 : Good (a ++ [d]) := ⟨fun y hy hk => by
          rcases List.mem_append.1 hy with hy | hy
          · exact hg.num y hy hk
          · rw [List.mem_singleton.1 hy] at hk; omega, fun y hy hk => by
          rcases List.mem_append.1 hy with hy | hy
          · exact hg.reg y hy hk
          · rw [List.mem_singleton.1 hy] at hk; omega⟩
        obtain ⟨h1, h2⟩ := ih _ _ _ rs hg2 hm' (by unfold rulesR at *; rw [List.all_append, ho]; simp [hx]) h
        refine ⟨h1, ?_⟩
        rw [h2, List.filter_cons_of_pos (by simpa using h3)]
        simp only [List.length_append, List.length_cons, List.length_nil]
        omega
    · rw [if_neg h3] at h
      split at h
      · cases h
      · split at h
        · cases h
        · rename_i hb
          rw [rbad_eq hd (by omega)] at hb
          have hg2 : Good (a ++ [d]) := ⟨fun y hy hk => by
            rcases List.mem_append.1 hy with hy | hy
            · exact hg.num y hy hk
            · rw [List.mem_singleton.1 hy] at hk ⊢
              rw [if_neg (by omega)] at hb
              exact ⟨may_n hd hk, by simpa using hb⟩, fun y hy hk => by
            rcases List.mem_append.1 hy with hy | hy
            · exact hg.reg y hy hk
            · rw [List.mem_singleton.1 hy] at hk ⊢
              rw [if_pos hk] at hb
              simpa using hb⟩
          obtain ⟨h1, h2⟩ := ih _ _ _ rs hg2 hm' ho h
          refine ⟨h1, ?_⟩
          rw [h2, List.filter_cons_of_neg (by simpa using h3)]
theorem check_good {l : List Decl} {rs : List Rule} (h : checkV l = .ok rs) : rulesR rs = true ∧ rs.length = (l.filter fun d => decide (3 < d.kind)).length := by
  rw [← rcheck_eq] at h
  unfold rcheckV at h
  have e : l.all rRight = l.all may := by congr 1; funext d; exact may_eq d
  rw [e] at h
  split at h
  · rename_i hm
    have := rrun_good l [] [] 0 rs ⟨by simp, by simp⟩ (fun d hd => List.all_eq_true.1 hm d hd) rfl h
    simpa using this
  · cases h

end Go.Proofs.YteddkgpnklfppaaGreatDoor.Ru

namespace Go.Proofs.YteddkgpnklfppaaGreatDoor.Ru
open Po (Box Who Decl)

/-- nothing was wrong so far -/
structure CkOk (a : List Decl) (k : Ck) : Prop where
  f : k.f = (0, 0, 0)
  good : Good a
  lo : 0 ≤ k.boxes
  hi : k.boxes ≤ 32
  len : k.rules.length ≤ 32
theorem CkOk.begin : CkOk [] ⟨[], 0, (0, 0, 0)⟩ := ⟨rfl, ⟨fun _ h => by simp at h, fun _ h => by simp at h⟩, by decide, by decide, by decide⟩
theorem rrule_boxes {a : List Decl} {d : Decl} {n b : Int} {x : Rule} (h : rrule a d n b = .ok x) : x.boxes = [] ∨ b + x.boxes.length ≤ 32 := by
  unfold rrule at h
  split at h
  · cases h
  · split at h
    · cases h
    · split at h
      · simp only [Except.ok.injEq] at h; rw [← h]; exact .inl rfl
      · split at h
        · cases h
        · split at h
          · cases h
          · split at h
            · cases h
            · split at h
              · cases h
              · split at h
                · cases h
                · rename_i hb _
                  simp only [Except.ok.injEq] at h; rw [← h]; exact .inr (by simp only; omega)
theorem may_label {a : List Decl} (hg : Good a) {d : Decl} (h : may d = true) (hk : 3 < d.kind) (ha : d.label.any = false) : 0 ≤ whoN a 2 d.label := by
  have h6 := may_kind h
  by_cases h4 : d.kind = 4 ∨ d.kind = 5
  · exact whoN_pos hg (.inr rfl) (may_rule h h4).1 ha
  · unfold may at h
    rw [if_neg (by omega), if_neg (by omega), if_neg h4, if_pos (by omega)] at h
    unfold noRule zeroW at h
    simp only [Bool.and_eq_true, beq_iff_eq] at h
    unfold whoN
    rw [if_pos (by have := h.2.1.2.1.2; exact this)]
    have := h.2.1.2.2
    omega
theorem Good.snoc {a : List Decl} {d : Decl} (hg : Good a) (h1 : d.kind = 1 ∨ d.kind = 2 → 0 ≤ d.n ∧ d.n ≤ 7) (h2 : d.kind = 3 → boxesR d.boxes = true) : Good (a ++ [d]) :=
  ⟨fun y hy hk => by
    rcases List.mem_append.1 hy with hy | hy
    · exact hg.num y hy hk
    · rw [List.mem_singleton.1 hy] at hk ⊢; exact h1 hk, fun y hy hk => by
    rcases List.mem_append.1 hy with hy | hy
    · exact hg.reg y hy hk
    · rw [List.mem_singleton.1 hy] at hk ⊢; exact h2 hk⟩
theorem CkOk.decl {a : List Decl} {k : Ck} {d : Decl} (h : CkOk a k) (hm : may d = true) (hf : (ckDecl a k d).f.1 = 0) : CkOk (a ++ [d]) (ckDecl a k d) := by
  have hk := may_kind hm
  have hz : k.f.1 = 0 := by rw [h.f]
  by_cases h3 : 3 < d.kind
  · have he : ckDecl a k d = ckRule a k d := by unfold ckDecl; rw [if_neg (by omega), if_neg (by omega)]
    rw [he] at hf ⊢
    have hr := ckRule_eq a k d h.f h.len
    revert hr
    cases hx : rrule a d k.rules.length k.boxes with
    | error f => intro hr; simp only at hr; exact absurd (hr.1 ▸ hf) hr.2
    | ok x =>
      intro hr
      simp only at hr
      rw [hr.1]
      have hb := rrule_boxes hx
      have := hr.2
      have h1 := h.lo
      have h2 := h.hi
      refine ⟨rfl, h.good.snoc (fun e => by omega) (fun e => by omega), by simp only; omega, ?_, by simp only [List.length_append, List.length_cons, List.length_nil]; omega⟩
      simp only
      rcases hb with hb | hb
      · rw [hb]; simpa using h2
      · exact hb
  · by_cases hk3 : d.kind = 3
    · have he : ckDecl a k d = ckRegion a k d := by unfold ckDecl; rw [if_neg (by omega), if_pos hk3]
      rw [he] at hf ⊢
      unfold ckRegion at hf ⊢
      split at hf
      · rw [wrong_f hz] at hf; simp at hf
      · rename_i hd
        rw [if_neg hd]
        split at hf
        · rename_i hb
          rw [if_pos hb]
          exact ⟨h.f, h.good.snoc (fun e => by omega) (fun _ => hb), h.lo, h.hi, h.len⟩
        · rw [wrong_f hz] at hf; simp at hf
    · have he : ckDecl a k d = ckNumber a k d := by unfold ckDecl; rw [if_pos (by omega)]
      rw [he] at hf ⊢
      unfold ckNumber at hf ⊢
      split at hf
      · rw [wrong_f hz] at hf; simp at hf
      · rename_i hd
        rw [if_neg hd]
        split at hf
        · rw [wrong_f hz] at hf; simp at hf
        · rename_i h7
          rw [if_neg h7]
          exact ⟨h.f, h.good.snoc (fun e => ⟨may_n hm e, by omega⟩) (fun e => absurd e hk3), h.lo, h.hi, h.len⟩
theorem may_region {d : Decl} (h : may d = true) (hk : d.kind = 3) : 0 < d.boxes.length := by
  unfold may at h
  rw [if_neg (by omega), if_pos hk] at h
  unfold boxesN at h
  simp only [Bool.and_eq_true, decide_eq_true_eq] at h
  have := h.1.1.2.2
  omega

end Go.Proofs.YteddkgpnklfppaaGreatDoor.Ru
namespace Go.Proofs.YteddkgpnklfppaaGreatDoor
open Go.RowKit Go.Sort Go.Maps

theorem CkPost.shift {w w1 w' : World} {bo b1 b2 br c : Nat} {ahead : List Po.Decl} {d : Po.Decl} {k : Ru.Ck} {en : Ending} (h : CkPost w1 bo b1 b2 br c ahead d k en w') (hb : Below bo w w1) : CkPost w bo b1 b2 br c ahead d k en w' :=
  ⟨h.1, hb.trans h.2.1, h.2.2⟩

set_option maxRecDepth 100000 in
set_option maxHeartbeats 2000000 in
theorem cdecl_any {w : World} {bo b1 b2 br c : Nat} {ahead : List Po.Decl} {k : Ru.Ck} {rv : Value} (h : Chk w bo b1 b2 br c ahead k rv) (ho : Ru.CkOk ahead k) (hl : ahead.length < maxLen) (d : Po.Decl) (x : Value) (hm : Ru.may d = true) (hs : DSmall d) (hx : BRow w x d.boxes) :
    Calls Tryz.prog 37 #[.pointer (some ⟨c, 0, none⟩), .agg (declCells d x)] w (CkPost w bo b1 b2 br c ahead d (Ru.ckDecl ahead k d)) := by
  have hen1 : ∀ (args : Array Value) (w : World), Sem.run Tryz.prog (callFunc 66 args) w = .ok (.enter 66 args) w := fun _ _ => by kernel_rfl
  have hen2 : ∀ (args : Array Value) (w : World), Sem.run Tryz.prog (callFunc 67 args) w = .ok (.enter 67 args) w := fun _ _ => by kernel_rfl
  have hen3 : ∀ (args : Array Value) (w : World), Sem.run Tryz.prog (callFunc 68 args) w = .ok (.enter 68 args) w := fun _ _ => by kernel_rfl
  have hz := balloc w (.cells (declCells d x) 83)
  have h1 := hid (h.ext hz)
  have X1 := hid (hx.ext hz)
  have B0 := hid (Blk.new w (declCells d x) 83)
  have hb : Below bo w (w.alloc (.cells (declCells d x) 83)) := by
    have := h.ord
    exact hz.mono (by omega)
  have hb' := hid hb
  have hh := hid h
  have ho' := hid ho
  have hl' := hid hl
  have hm' := hid hm
  have hs' := hid hs
  have hf : k.f.1 = 0 := by rw [ho.f]
  have hf' := hid hf
  have hkk := Ru.may_kind hm
  have y0 : (declCells d x)[0]? = some (.int .i64 d.kind) := rfl
  clear hz h hx hb ho hl hm hs hf
  by_cases k1 : d.kind = 1
  · have e := hid (show Ru.ckDecl ahead k d = Ru.ckNumber ahead k d by unfold Ru.ckDecl; rw [if_pos (.inl k1)])
    have k1' := hid k1
    have q1 : (d.kind == 1) = true := beq_iff_eq.2 k1
    clear k1
    go_enter Tryz.func37, Tryz.ntmps37
    go_wp2_with (first | (refine wpList_load_blk rfl 83 (.tmp 3) rfl 19 rfl w.heap.size 83 (declCells d x) (B0.out) rfl Tryz.underlying83 rfl (by kernel_rfl) ?_))
    refine (cnumber_any h1.out hf'.out d x (.inl k1'.out) hs'.out.name hl'.out).mono ?_
    intro en w2 hp
    have hp' := hid (hp.shift hb'.out)
    obtain ⟨rfl, _⟩ := hp
    go_wp2_with fail
    go_end0
    rw [e.out]; exact hp'.out
  · have q1 : (d.kind == 1) = false := beq_eq_false_iff_ne.2 k1
    by_cases k2 : d.kind = 2
    · have e := hid (show Ru.ckDecl ahead k d = Ru.ckNumber ahead k d by unfold Ru.ckDecl; rw [if_pos (.inr k2)])
      have k2' := hid k2
      have q2 : (d.kind == 2) = true := beq_iff_eq.2 k2
      clear k2
      go_enter Tryz.func37, Tryz.ntmps37
      go_wp2_with (first | (refine wpList_load_blk rfl 83 (.tmp 3) rfl 19 rfl w.heap.size 83 (declCells d x) (B0.out) rfl Tryz.underlying83 rfl (by kernel_rfl) ?_))
      refine (cnumber_any h1.out hf'.out d x (.inr k2'.out) hs'.out.name hl'.out).mono ?_
      intro en w2 hp
      have hp' := hid (hp.shift hb'.out)
      obtain ⟨rfl, _⟩ := hp
      go_wp2_with fail
      go_end0
      rw [e.out]; exact hp'.out
    · have q2 : (d.kind == 2) = false := beq_eq_false_iff_ne.2 k2
      by_cases k3 : d.kind = 3
      · have e := hid (show Ru.ckDecl ahead k d = Ru.ckRegion ahead k d by unfold Ru.ckDecl; rw [if_neg (by omega), if_pos k3])
        have k3' := hid k3
        have q3 : (d.kind == 3) = true := beq_iff_eq.2 k3
        clear k3
        go_enter Tryz.func37, Tryz.ntmps37
        go_wp2_with (first | (refine wpList_load_blk rfl 83 (.tmp 3) rfl 19 rfl w.heap.size 83 (declCells d x) (B0.out) rfl Tryz.underlying83 rfl (by kernel_rfl) ?_))
        refine (cregion_any h1.out hf'.out d x k3'.out hs'.out.name hl'.out (X1.out.pos (Ru.may_region hm'.out k3'.out)) (Ru.may_region hm'.out k3'.out) hs'.out.boxes).mono ?_
        intro en w2 hp
        have hp' := hid (hp.shift hb'.out)
        obtain ⟨rfl, _⟩ := hp
        go_wp2_with fail
        go_end0
        rw [e.out]; exact hp'.out
      · have e := hid (show Ru.ckDecl ahead k d = Ru.ckRule ahead k d by unfold Ru.ckDecl; rw [if_neg (by omega), if_neg k3])
        have q3 : (d.kind == 3) = false := beq_eq_false_iff_ne.2 k3
        have k4 : 3 < d.kind := by omega
        have hp1 := hid (fun ha => Ru.whoN_pos ho'.out.good (k := 1) (.inl rfl) (Ru.may_role hm'.out k4) ha)
        have hp2 := hid (Ru.may_label ho'.out.good hm'.out k4)
        go_enter Tryz.func37, Tryz.ntmps37
        go_wp2_with (first | (refine wpList_load_blk rfl 83 (.tmp 3) rfl 19 rfl w.heap.size 83 (declCells d x) (B0.out) rfl Tryz.underlying83 rfl (by kernel_rfl) ?_))
        refine (crule_any h1.out hf'.out ⟨ho'.out.lo, ho'.out.hi⟩ ho'.out.len d x k1 k2 k3 hs'.out.role hs'.out.label hs'.out.place hp1.out hp2.out).mono ?_
        intro en w2 hp
        have hp' := hid (hp.shift hb'.out)
        obtain ⟨rfl, _⟩ := hp
        go_wp2_with fail
        go_end0
        rw [e.out]; exact hp'.out

end Go.Proofs.YteddkgpnklfppaaGreatDoor

namespace Go.Proofs.YteddkgpnklfppaaGreatDoor
open Go.RowKit Go.Sort Go.Maps

/-- all blocks behind block B are as they were -/
structure Above (B : Nat) (w w' : World) : Prop where
  size : w.heap.size ≤ w'.heap.size
  block : ∀ k, B < k → k < w.heap.size → w'.heap[k]? = w.heap[k]?
theorem Above.refl (B : Nat) (w : World) : Above B w w := ⟨Nat.le_refl _, fun _ _ _ => rfl⟩
theorem Above.trans {B : Nat} {x y z : World} (h : Above B x y) (k : Above B y z) : Above B x z :=
  ⟨Nat.le_trans h.size k.size, fun i hi hn => (k.block i hi (Nat.lt_of_lt_of_le hn h.size)).trans (h.block i hi hn)⟩
theorem Above.mono {B B' : Nat} {x y : World} (h : Above B x y) (hb : B ≤ B') : Above B' x y := ⟨h.size, fun k hk => h.block k (by omega)⟩
theorem Above.touch {B b : Nat} {x y : World} (h : Touch b x y) (hb : b ≤ B) : Above B x y := ⟨h.size, fun k hk hn => h.block k hn (by omega)⟩
theorem Above.below {B : Nat} {x y : World} (h : Below x.heap.size x y) : Above B x y := ⟨h.size, fun k _ hn => h.block k hn⟩
theorem Row.same {w w' : World} {v : Value} {n size : Nat} {xs : List Value} (h : Row w v n size xs) (hs : w.heap.size ≤ w'.heap.size) (hb : ∀ b, v.ownBlock = some b → w'.heap[b]? = w.heap[b]?) : Row w' v n size xs := by
  refine ⟨h.1, ?_⟩
  rcases h.2 with h2 | ⟨g, off, cap, hv, hn, hg, hc⟩
  · exact .inl h2
  · have hg' := hb g (by rw [hv]; rfl)
    exact .inr ⟨g, off, cap, hv, hn, Nat.lt_of_lt_of_le hg hs, fun j u hj => (World.cell?_of_block (w := w) (a := ⟨g, off + j, none⟩) hg').trans (hc j u hj)⟩
/-- what Check returns; B: all that it made lies behind block B -/
def CheckPost (B : Nat) (l : List Po.Decl) (e : Ending) (w' : World) : Prop :=
  match Ru.checkV l with
  | .ok rs => ∃ v, e = .returned (.tuple #[v, .agg #[.int .i64 0, .int .i64 0, .int .i64 0]]) ∧ (∀ w'', Above B w' w'' → RSl w'' v rs) ∧ rs.length ≤ 33
  | .error (er, x, y) => e = .returned (.tuple #[.slice none 0 0, .agg #[.int .i64 er, .int .i64 x, .int .i64 y]])
theorem rsl_of {w : World} {rules : List Ru.Rule} {rv : Value} {vs : List Value} (hlen : vs.length = rules.length) (hrow : Row w rv rules.length 7 (rulesCells rules vs))
    (hbox : ∀ (i : Nat) r x, rules[i]? = some r → vs[i]? = some x → Row w x r.boxes.length 4 (boxesCells r.boxes) ∧ r.boxes.length * 32 ≤ 140737488355328) : RSl w rv rules := by
  have hz : (rules.zip vs).length = rules.length := by rw [List.length_zip, hlen]; omega
  have hr : Row w rv (rules.zip vs).length 7 ((rules.zip vs).flatMap fun p => (ruleArr p.1 p.2).toList) := by rw [hz]; exact hrow
  rcases srow_of (f := fun p : Ru.Rule × Value => ruleArr p.1 p.2) (fun _ _ => rfl) hr with ⟨hv, h0⟩ | ⟨g, off, cap, hv, hs⟩
  · refine .inl ⟨hv, ?_⟩
    have : rules.length = 0 := by rw [← hz, h0]; rfl
    exact List.eq_nil_of_length_eq_zero this
  · rw [hz] at hv
    refine .inr ⟨g, off, cap, hv, by have := hs.cap; omega, hs.lt, fun i hi => ?_⟩
    have hi2 : i < vs.length := by rw [hlen]; exact hi
    have h1 := hs.get i (by omega)
    rw [List.getElem_zip] at h1
    have h2 := hbox i _ _ (List.getElem?_eq_getElem hi) (List.getElem?_eq_getElem hi2)
    exact ⟨vs[i], h1, h2.1.b, by have := h2.2; omega⟩
theorem Inner.rsl {w w' : World} {bo b1 b2 br c B : Nat} {ahead : List Po.Decl} {rules : List Ru.Rule} {rv : Value} {vs : List Value} {rg : ByteArray → Value} (h : Inner w bo b1 b2 br c ahead rules rv vs rg) (ha : Above B w w') (hB : B < bo) : RSl w' rv rules := by
  obtain ⟨o1, o2, o3, o4, o5⟩ := h.ord
  have hrow := Row.of_owns h.own
  refine rsl_of h.len (hrow.same ha.size (fun b hb => ha.block b (by have := (h.own.lt b hb).1; omega) (h.own.lt b hb).2)) (fun i r x hr hx => ?_)
  obtain ⟨r1, r2, r3⟩ := h.box i r x hr hx
  exact ⟨r1.same ha.size (fun b hb => ha.block b (by have := (r3 b hb).1; omega) (r1.own_lt hb)), r2⟩

def one1 (b1 : Nat) : Lit → Option Value
  | .int .i64 x => if x = 1 then some (.map (some b1)) else none
  | _ => none
theorem one1_none {b1 : Nat} {l : Lit} (h : l ≠ .int .i64 1) : one1 b1 l = none := by
  unfold one1
  split
  · rename_i x
    rw [if_neg (fun e => h (by rw [e]))]
  · rfl
theorem outF_one {b1 b2 : Nat} {l : Lit} (h : l ≠ .int .i64 2) : outF b1 b2 l = one1 b1 l := by
  by_cases hx : ∃ x, l = .int .i64 x
  · obtain ⟨x, rfl⟩ := hx
    unfold outF one1
    have h2 : x ≠ 2 := fun e => h (by rw [e])
    simp only [h2, if_false]
  · have e1 : outF b1 b2 l = none := by
      unfold outF
      split
      · rename_i x; exact absurd ⟨x, rfl⟩ hx
      · rfl
    have e2 : one1 b1 l = none := by
      unfold one1
      split
      · rename_i x; exact absurd ⟨x, rfl⟩ hx
      · rfl
    rw [e1, e2]
theorem numF_nil (k : Int) : numF [] k = fun _ => none := by funext l; unfold numF; cases l <;> rfl
theorem regF_nil (rg : ByteArray → Value) : regF [] rg = fun _ => none := by funext l; unfold regF; cases l <;> rfl
theorem chk_made {w1 w3 w5 : World} (hg3 : ((w1.alloc (.map #[] 0)).alloc (.map #[] 0)).grownBy w3 (some w1.heap.size)) (hg5 : (w3.alloc (.map #[] 0)).grownBy w5 (some w1.heap.size)) (hK : KMap Tryz.prog 3 w5 w1.heap.size 2 (outF (w1.heap.size + 1) w3.heap.size)) :
    Chk ((w5.alloc (.map #[] 0)).alloc (.cells (ckCells w1.heap.size w5.heap.size ⟨[], 0, (0, 0, 0)⟩ (.slice none 0 0)) 106)) w1.heap.size (w1.heap.size + 1) w3.heap.size w5.heap.size (w5.heap.size + 1) [] ⟨[], 0, (0, 0, 0)⟩ (.slice none 0 0) ∧
      Below w1.heap.size w1 ((w5.alloc (.map #[] 0)).alloc (.cells (ckCells w1.heap.size w5.heap.size ⟨[], 0, (0, 0, 0)⟩ (.slice none 0 0)) 106)) := by
  have s3 := hg3.size
  have s5 := hg5.size
  simp only [World.size_alloc] at s3 s5
  have z1 := balloc w5 (.map #[] 0)
  have z2 := balloc (w5.alloc (.map #[] 0)) (.cells (ckCells w1.heap.size w5.heap.size ⟨[], 0, (0, 0, 0)⟩ (.slice none 0 0)) 106)
  refine ⟨⟨Blk.newAt (by simp) _ _, [], fun _ => .slice none 0 0, ⟨by omega, by omega, by omega, by omega, by simp only [World.size_alloc]; omega⟩, (hK.ext z1).ext z2, ?_, ?_, ?_, fun nm d hd => by simp [Ru.declared] at hd, rfl, World.ownsRow_nil _ _ _ _, fun i r x hr => by simp at hr⟩, ?_⟩
  · rw [numF_nil]
    exact (((((KMap.madeAt (w := w1.alloc (.map #[] 0)) (k := w1.heap.size + 1) (by simp) Tryz.prog 9).grown hg3 (by simp)).ext (balloc w3 _)).grown hg5 (by simp)).ext z1).ext z2
  · rw [numF_nil]
    exact (((KMap.made w3 Tryz.prog 9).grown hg5 (by simp; omega)).ext z1).ext z2
  · rw [regF_nil]
    exact (KMap.made w5 Tryz.prog 9).ext z2
  · have q1 : Below w1.heap.size w1 ((w1.alloc (.map #[] 0)).alloc (.map #[] 0)) := bthen (balloc w1 _) (balloc _ _)
    have q3 := q1.grown hg3 (by simp only [World.size_alloc]; omega) (fun k hk => by simp at hk; omega)
    have q5 := (q3.alloc (by omega) (.map #[] 0)).grown hg5 (by simp only [World.size_alloc]; omega) (fun k hk => by simp at hk; omega)
    exact (q5.alloc (by omega) _).alloc (by simp only [World.size_alloc]; omega) _
theorem run_fault {a : List Po.Decl} {k : Ru.Ck} {d : Po.Decl} {r : List Po.Decl} (h : (Ru.ckDecl a k d).f.1 ≠ 0) : Ru.ckRun a (d :: r) k = .error (Ru.ckDecl a k d).f := by unfold Ru.ckRun; rw [if_neg h]
theorem run_on {a : List Po.Decl} {k : Ru.Ck} {d : Po.Decl} {r : List Po.Decl} (h : (Ru.ckDecl a k d).f.1 = 0) : Ru.ckRun a (d :: r) k = Ru.ckRun (a ++ [d]) r (Ru.ckDecl a k d) := by
  conv => lhs; unfold Ru.ckRun
  rw [if_pos h]
theorem run_end (a : List Po.Decl) (k : Ru.Ck) : Ru.ckRun a [] k = .ok k.rules := by unfold Ru.ckRun; rfl

set_option maxRecDepth 100000 in
set_option maxHeartbeats 4000000 in
theorem check_bad {w : World} {v : Value} {l : List Po.Decl} (h : DSl w v l) (hn : l.length ≤ 140737488355328) (hs : ∀ d ∈ l, DSmall d) (ha : l.all Ru.may = false) :
    Calls Tryz.prog 15 #[v] w fun e w' => CheckPost w.heap.size l e w' ∧ Below w.heap.size w w' := by
  have hz := balloc w (.cells #[.int .i64 0, .int .i64 0, .int .i64 0] 33)
  have hd := hid (h.ext hz)
  have hs' := hid hs
  have Q0 := hid hz
  have B0 := hid (Blk.new w #[.int .i64 0, .int .i64 0, .int .i64 0] 33)
  have e := hid (show Ru.checkV l = .error (1, 0, 0) by unfold Ru.checkV; rw [ha]; rfl)
  have hn1 := Nat.le_refl w.heap.size
  clear hz h hs
  go_enter Tryz.func15, Tryz.ntmps15
  go_wp2_with fail
  refine (pright_any hd.out hn hs'.out).mono ?_
  rw [ha]
  rintro en w1 ⟨rfl, hb1⟩
  have Q1 := hid (bthen Q0.out hb1)
  have B1 := hid (B0.out.ext hb1)
  obtain ⟨d0, d1, d2, df, dz⟩ := B1.out.three
  clear hb1
  go_wp2_with fail
  refine bodyPost_ret (v := .tuple #[.slice none 0 0, .agg #[.int .i64 1, .int .i64 0, .int .i64 0]]) (by simp [results, Tryz.results15, go_sem, d0, d1, d2]) rfl ⟨?_, (by simp only [below_setNew_iff hn1]; exact Q1.out)⟩
  unfold CheckPost
  rw [e.out]

set_option maxRecDepth 100000 in
set_option maxHeartbeats 4000000 in
theorem check_good_any {w : World} {v : Value} {l : List Po.Decl} (h : DSl w v l) (hn : l.length ≤ 140737488355328) (hs : ∀ d ∈ l, DSmall d) (ha : l.all Ru.may = true) :
    Calls Tryz.prog 15 #[v] w fun e w' => CheckPost w.heap.size l e w' ∧ Below w.heap.size w w' := by
  have hz := balloc w (.cells #[.int .i64 0, .int .i64 0, .int .i64 0] 33)
  have hd := hid (h.ext hz)
  have hs' := hid hs
  have Q0 := hid hz
  have B0 := hid (Blk.new w #[.int .i64 0, .int .i64 0, .int .i64 0] 33)
  have e := hid (show Ru.checkV l = Ru.ckRun [] l ⟨[], 0, (0, 0, 0)⟩ by unfold Ru.checkV; rw [ha]; rfl)
  have hn1 := Nat.le_refl w.heap.size
  have ha' := hid ha
  obtain ⟨vp, vc, rfl⟩ := h.shape
  have hds := hid h
  clear hz h hs
  go_enter Tryz.func15, Tryz.ntmps15
  go_wp2_with fail
  refine (pright_any hd.out hn hs'.out).mono ?_
  rw [ha]
  rintro en w1 ⟨rfl, hb1⟩
  have Q1 := hid (bthen Q0.out hb1)
  have B1 := hid (B0.out.ext hb1)
  have D1 := hid (hd.out.ext hb1)
  clear hb1 ha
  have hmm : ∀ (t : TypeId) (w : World), (Instr.makeMap t none).run Tryz.prog w = .ok (.map (some w.heap.size)) (w.alloc (.map #[] 0)) := fun _ _ => rfl
  have K0 := hid ((KMap.made w1 Tryz.prog 3).ext (balloc (w1.alloc (.map #[] 0)) (.map #[] 0)))
  have M0 := hid (KMap.madeAt (w := w1.alloc (.map #[] 0)) (k := w1.heap.size + 1) (by simp) Tryz.prog 9)
  go_wp2_with (first
    | (refine wpList_put rfl (.tmp 11) (.const (.int .i64 1)) (.tmp 12) 103 (.inr rfl) rfl 102 lawI Tryz.underlying103 rfl K0.out (by unfold maxLen; omega) (.int .i64 1) (.map (some (w1.heap.size + 1))) (.int .i64 1) rfl rfl (keyI (.inl rfl)) trivial ?_
       intro w3 hput3 hg3
       have K1 := hid ((hput3 (one1 (w1.heap.size + 1)) rfl (fun l _ hl => one1_none hl)).ext (balloc w3 (.map #[] 0)))
       have hg3' := hid hg3
       clear hput3 hg3)
    | (refine wpList_put rfl (.tmp 11) (.const (.int .i64 2)) (.tmp 13) 103 (.inr rfl) rfl 102 lawI Tryz.underlying103 rfl K1.out (by unfold maxLen; omega) (.int .i64 2) (.map (some w3.heap.size)) (.int .i64 2) rfl rfl (keyI (.inr rfl)) trivial ?_
       intro w5 hput5 hg5
       have K2 := hid (hput5 (outF (w1.heap.size + 1) w3.heap.size) rfl (fun l _ hl => outF_one hl))
       have hg5' := hid hg5
       clear hput5 hg5))
  obtain ⟨hC, hBl⟩ := chk_made hg3'.out hg5'.out K2.out
  have hfb := B1.out.lt
  have hw1 := Q1.out.size
  have hC' := hid hC
  have hQl := hid (show Below w.heap.size w _ from Q1.out.trans (hBl.mono hw1))
  have hFl := hid (B1.out.below hBl hfb)
  clear hC hBl K2 K1 K0 M0 hg3' hg5' hmm hd B0 Q0 D1
  unfold ckCells at hC' hQl hFl
  generalize hbo : w1.heap.size = bo at *
  generalize hb2 : w3.heap.size = b2 at *
  generalize hbr : w5.heap.size = br at *
  clear hbo hb2 hbr
  go_loopw [20] (fun u wr => ∃ (i : Nat) (k : Ru.Ck) (rv : Value), u = .int .i64 i ∧ i ≤ l.length ∧ Chk wr bo (bo + 1) b2 br (br + 1) (l.take i) k rv ∧ Ru.CkOk (l.take i) k ∧ Ru.checkV l = Ru.ckRun (l.take i) (l.drop i) k ∧
    Blk wr w.heap.size #[.int .i64 0, .int .i64 0, .int .i64 0] 33 ∧ Below w.heap.size w wr) (fun u _ => l.length - (intOf u).toNat)
  case atStart => exact ⟨0, ⟨[], 0, (0, 0, 0)⟩, .slice none 0 0, rfl, Nat.zero_le _, hC'.out, Ru.CkOk.begin, e.out, hFl.out, hQl.out⟩
  case round =>
    obtain ⟨i, k, rv, rfl, hle, hC, hO, hV, hF, hQ⟩ := hrel
    have hC1 := hid hC
    have hO1 := hid hO
    have hV1 := hid hV
    have hF1 := hid hF
    have hQ1 := hid hQ
    clear hC hO hV hF hQ
    have hclt := hC1.out.blk.lt
    have hcord := hC1.out.ord
    by_cases hlt : i < l.length
    · rcases hds.out with ⟨_, h0⟩ | ⟨g, off, cap, hv, hr⟩
      · rw [h0] at hlt; simp at hlt
      cases hv
      obtain ⟨x, hx⟩ := hr.at hQ1.out hlt
      have hx' := hid hx
      have hsm := hid (hs'.out _ (List.getElem_mem hlt))
      have hmay := hid (List.all_eq_true.1 ha'.out _ (List.getElem_mem hlt))
      have htk := hid (show l.take (i + 1) = l.take i ++ [l[i]] from (List.take_append_getElem hlt).symm)
      have hdr := hid (show l.drop i = l[i] :: l.drop (i + 1) from List.drop_eq_getElem_cons hlt)
      generalize l[i] = d at *
      clear hx hr
      have hlen : (l.take i).length < maxLen := by rw [List.length_take]; unfold maxLen; omega
      have hz := balloc wr (.cells (declCells d x) 83)
      have C2 := hid (hC1.out.ext hz)
      have X2 := hid (hx'.out.box.ext hz)
      have F2 := hid (hF1.out.ext hz)
      have Q2 := hid (hQ1.out.trans (hz.mono hQ1.out.size))
      clear hz
      go_wp2_with (first | (refine wpList_load_at rfl 83 (.tmp 22) rfl 23 rfl g (off + i * 24) (declCells d x) (hx'.out.at_) rfl Tryz.underlying83 rfl (by kernel_rfl) ?_) | (refine wpList_store_new rfl 83 (.tmp 6) (.tmp 23) rfl rfl wr 83 _ (declCells d x) rfl rfl rfl (by kernel_rfl) rfl (hx'.out.one) ?_) | (refine wpList_load_blk rfl 83 (.tmp 6) rfl 25 rfl wr.heap.size 83 (declCells d x) (Blk.new wr _ _) rfl Tryz.underlying83 rfl (by kernel_rfl) ?_))
      refine (cdecl_any C2.out hO1.out hlen d x hmay.out hsm.out X2.out).mono ?_
      rintro en w6 ⟨rfl, hb6, ahead', rv', hC6, ha6⟩
      have C6 := hid hC6
      have A6 := hid ha6
      have Q6 := hid (show Below w.heap.size w w6 from Q2.out.trans (hb6.mono (by omega)))
      have F6 := hid (F2.out.below hb6 (by omega))
      obtain ⟨c0, c1, c2, c3, c4, c5, c6, cf, clt⟩ := hC6.f
      clear hC6 ha6 hb6
      by_cases hf0 : (Ru.ckDecl (l.take i) k d).f.1 = 0
      · have hz0 := hf0
        have O6 := hid (hO1.out.decl hmay.out hf0)
        have V6 := hid (hV1.out.trans (by rw [hdr.out, run_on hf0, ← htk.out]))
        have hah := A6.out hf0
        rw [hf0] at c4
        have hf0' := hid hf0
        clear hf0 hz0
        go_wp2_with fail
        go_roundw
        case rel => exact ⟨i + 1, _, rv', by go_num, by omega, by rw [htk.out, ← hah]; exact C6.out, by rw [htk.out]; exact O6.out, V6.out, F6.out, Q6.out⟩
        case measure => simp [intOf]; omega
      · have V6 := hid (hV1.out.trans (by rw [hdr.out, run_fault hf0]))
        generalize (Ru.ckDecl (l.take i) k d).f = ff at *
        obtain ⟨fe, fl, fp⟩ := ff
        simp only at c4 c5 c6 hf0
        have e2 : (fe != 0) = true := by rw [bne_iff_ne]; exact hf0
        obtain ⟨d0, d1, d2, df, dz⟩ := F6.out.three
        have nfc : w.heap.size ≠ br + 1 := by omega
        have ncf : br + 1 ≠ w.heap.size := by omega
        go_wp2_with fail
        go_region_held3 (fun w' => w'.cell? ⟨br + 1, 4, none⟩ = some (.int .i64 fe) ∧ w'.cell? ⟨br + 1, 4 + 1, none⟩ = some (.int .i64 fl) ∧ w'.cell? ⟨br + 1, 4 + 1 + 1, none⟩ = some (.int .i64 fp)) (go_keep) (first | fail)
        go_wp2_with fail
        refine bodyPost_ret (v := .tuple #[.slice none 0 0, .agg #[.int .i64 fe, .int .i64 fl, .int .i64 fp]]) (by simp [results, Tryz.results15, go_sem, d0, d1, d2]) rfl ⟨?_, (by simp only [below_setNew_iff hn1, below_drew_iff]; exact Q6.out)⟩
        unfold CheckPost
        rw [V6.out]
    · obtain rfl : i = l.length := by omega
      have V6 := hid (hV1.out.trans (by rw [List.drop_length, run_end]))
      obtain ⟨c0, c1, c2, c3, c4, c5, c6, cf, clt⟩ := hC1.out.f
      obtain ⟨d0, d1, d2, df, dz⟩ := hF1.out.three
      have nfc : w.heap.size ≠ br + 1 := by omega
      have ncf : br + 1 ≠ w.heap.size := by omega
      obtain ⟨vs, rg, hi⟩ := hC1.out.inn
      have hi' := hid hi
      clear hi
      go_wp2_with fail
      refine bodyPost_ret (v := .tuple #[rv, .agg #[.int .i64 0, .int .i64 0, .int .i64 0]]) (by simp [results, Tryz.results15, go_sem, d0, d1, d2]) rfl ⟨?_, (by simp only [below_setNew_iff hn1]; exact hQ1.out)⟩
      unfold CheckPost
      rw [V6.out]
      have ht := ((((Touch.refl w.heap.size wr).setCell 0 (.int .i64 0)).setCell 1 (.int .i64 0)).setCell (1 + 1) (.int .i64 0))
      exact ⟨rv, rfl, fun w'' ha => hi'.out.rsl ((Above.touch ht (Nat.le_refl _)).trans ha) hfb, by have := hO1.out.len; omega⟩

theorem check_any {w : World} {v : Value} {l : List Po.Decl} (h : DSl w v l) (hn : l.length ≤ 140737488355328) (hs : ∀ d ∈ l, DSmall d) :
    Calls Tryz.prog 15 #[v] w fun e w' => CheckPost w.heap.size l e w' ∧ Below w.heap.size w w' := by
  cases ha : l.all Ru.may with
  | true => exact check_good_any h hn hs ha
  | false => exact check_bad h hn hs ha

end Go.Proofs.YteddkgpnklfppaaGreatDoor

namespace Go.Proofs.YteddkgpnklfppaaGreatDoor
open Go.RowKit Go.Sort

theorem DSmall.of {d : Po.Decl} (h : Po.Sm d) : DSmall d :=
  ⟨by have := h.name; omega, by have := h.role; omega, by have := h.label; omega, by have := h.place; omega, by have := h.boxes; omega⟩

end Go.Proofs.YteddkgpnklfppaaGreatDoor
