/-
  The document's own reader of policies: Parse.
  The walk of RulesReads.
-/
import Derived.Test.YtelphkhacadfaaaGreatPk36
import Derived.Test.YtelphkhacadfaaaGreatPk10
import Derived.Test.YtelphkhacadfaaaGreatPk37
import Derived.Test.YtelphkhacadfaaaGreatPk39
import Derived.Test.YtelphkhacadfaaaGreatPk28
import Derived.Test.YtelphkhacadfaaaGreatPk19
import Derived.Test.YtelphkhacadfaaaGreatPk07
import Derived.Test.YtelphkhacadfaaaGreatPk18

namespace Go.Proofs.YtelphkhacadfaaaGreat
open Go.RowKit Go.Sort

namespace Po
open Lx
/-- the lexer's errors are errors -/
theorem tok_nz {l : Bytes} {er : Nat} (h : tok l = .error er) : er ≠ 0 := by
  unfold tok at h
  split at h
  · cases h; decide
  · split at h
    · simp only at h
      split at h
      · cases h; decide
      · cases h
    · split at h
      · simp only at h
        split at h
        · cases h; decide
        · cases h
      · split at h
        · cases h
        · split at h
          · cases h
          · cases h; decide
theorem toks_nz (L : Bytes) (f : Nat) : ∀ (i : Nat) (x : Fault), toks L f i = .error x → x.1 ≠ 0 := by
  induction f with
  | zero => intro i x h; simp [toks] at h
  | succ f ih =>
    intro i x h
    simp only [toks] at h
    split at h
    · cases h
    · split at h
      · rename_i er ht
        cases h
        exact tok_nz ht
      · rename_i k w n ht
        cases hr : toks L f (i + skipN false (L.drop i) + w.length) with
        | error y =>
          rw [hr] at h
          simp only [Except.map, Except.error.injEq] at h
          subst h
          exact ih _ _ hr
        | ok us => rw [hr] at h; cases h
theorem tokens_nz {L : Bytes} {x : Fault} (h : tokens L = .error x) : x.1 ≠ 0 := by
  unfold tokens at h
  split at h
  · cases h; decide
  · exact toks_nz L _ _ _ h
end Po
theorem Po.rd_step {T : List Lx.Tok} {e : Nat × Nat} {st : Po.St} (h0 : st.f.1 = 0) : (Po.rdS T e st).f = (Po.declS T e st).f ∧ ((Po.declS T e st).f.1 = 0 → Po.rdS T e st = Po.declS T e st ∧ Po.rdV T e st = Po.declV T e st) := by
  unfold Po.rdS Po.rdV
  by_cases hk : Po.kU T st 7 = 0
  · rw [if_pos hk, if_pos hk]
    have hn : ∀ k, 0 < k → k < 7 → Po.is T (Po.wordB k).data.toList st = false := fun k h1 h2 => by
      cases h : Po.is T (Po.wordB k).data.toList st with
      | false => rfl
      | true => have := Po.kU_of h2 h1 h; omega
    have h1 : Po.is T Po.wRole st = false := hn 1 (by decide) (by decide)
    have h2 : Po.is T Po.wLabel st = false := hn 2 (by decide) (by decide)
    have h3 : Po.is T Po.wRegion st = false := hn 3 (by decide) (by decide)
    have h4 : Po.is T Po.wAllow st = false := hn 4 (by decide) (by decide)
    have h5 : Po.is T Po.wCap st = false := hn 5 (by decide) (by decide)
    have h6 : Po.is T Po.wCloak st = false := hn 6 (by decide) (by decide)
    have hd : Po.declS T e st = Po.want T e [59] (Po.ruleS T e (Po.wrong T e st)) := by
      unfold Po.declS
      simp only [h1, h2, h3, h4, h5, h6, Bool.false_eq_true, if_false]
    have hs : Pr.Stays (Po.wrong T e st) (Po.declS T e st) := by rw [hd]; exact (Pr.stays_rule _).trans (Pr.stays_want _ _)
    have hw : (Po.wrong T e st).f.1 ≠ 0 := by unfold Po.wrong; rw [if_pos h0]; simp [Lx.mkFault]
    exact ⟨(hs hw).symm, fun h7 => absurd h7 (by rw [hs hw]; exact hw)⟩
  · rw [if_neg hk, if_neg hk]
    exact ⟨rfl, fun _ => ⟨rfl, rfl⟩⟩
/-- what the document's own reader of a text gives back -/
def RParseBack (T : List Lx.Tok) (e : Nat × Nat) (st1 : Po.St) (en : Ending) (w' : World) : Prop :=
  ∃ u, en = .returned (.tuple #[u, .agg #[.int .i64 (Po.parseS T e (T.length + 1) st1).f.1, .int .i64 (Po.parseS T e (T.length + 1) st1).f.2.1, .int .i64 (Po.parseS T e (T.length + 1) st1).f.2.2]]) ∧
    (((Po.parseS T e (T.length + 1) st1).f.1 = 0 ∧ ∃ vs, Decls w' u (Po.parseV T e (T.length + 1) st1) vs) ∨ ((Po.parseS T e (T.length + 1) st1).f.1 ≠ 0 ∧ ∃ k, k < w'.heap.size ∧ u = .slice (some ⟨k, 0, none⟩) 0 0))

set_option maxRecDepth 100000 in
set_option maxHeartbeats 8000000 in
theorem rparse_gen (s : ByteArray) (w : World) (hs : s.size ≤ 140737488355328) {T : List Lx.Tok} {st1 : Po.St} (htk : ∀ w1 : World, Calls Tryz.prog 12 #[.string s] w1 fun en w' => (∃ v, en = .returned (.tuple #[v, .agg #[.int .i64 st1.f.1, .int .i64 st1.f.2.1, .int .i64 st1.f.2.2]]) ∧ RRd w' v T st1) ∧ Below w1.heap.size w1 w') :
    Calls Tryz.prog 5 #[.string s] w fun en w' => RParseBack T (Lx.posOf s.data.toList) st1 en w' ∧ Below w.heap.size w w' := by
  obtain ⟨i0, hinf, hiz, hisz, hiby⟩ := info_parts Tryz.infoDecl
  have htake : s.data.toList.take s.size = s.data.toList := List.take_of_length_le (Nat.le_of_eq (list_len s))
  have hz1 := balloc w (.cells #[.int .i64 0, .int .i64 0, .int .i64 0] 27)
  have Q0 := hid hz1
  have hn1 := Nat.le_refl w.heap.size
  have B0 := hid (Blk.new w #[.int .i64 0, .int .i64 0, .int .i64 0] 27)
  have htk' := hid htk
  clear htk hz1
  obtain ⟨e, hpe⟩ : ∃ e : Nat × Nat, Lx.posOf s.data.toList = e := ⟨_, rfl⟩
  have hpe' := hid hpe
  clear hpe
  go_enter Tryz.func5, Tryz.ntmps5
  go_wp2_with fail
  refine (htk'.out _).mono ?_
  rintro en w1 ⟨⟨v, rfl, hr⟩, hb1⟩
  have hTl := hid hr.small
  obtain ⟨lp, ln, lc, rfl, _⟩ := hr.row
  have hz := balloc w1 (.cells #[.int .i64 st1.f.1, .int .i64 st1.f.2.1, .int .i64 st1.f.2.2] 27)
  have P1 := hid (hr.ext hz)
  have B2 := hid ((B0.out.ext hb1).ext hz)
  have Q2 := hid (bthen (bthen Q0.out hb1) hz)
  have F2 := hid (Blk.new w1 #[.int .i64 st1.f.1, .int .i64 st1.f.2.1, .int .i64 st1.f.2.2] 27)
  have hlw : w.heap.size < (w1.alloc (.cells #[.int .i64 st1.f.1, .int .i64 st1.f.2.1, .int .i64 st1.f.2.2] 27)).heap.size := B2.out.lt
  clear hr hz hb1 B0 Q0
  go_upto_region 3 with (fail)
  generalize w1.alloc (.cells #[.int .i64 st1.f.1, .int .i64 st1.f.2.1, .int .i64 st1.f.2.2] 27) = w2 at *
  generalize w1.heap.size = bf at *
  go_cut [7] (fun s7 wx => ∃ b, s7 = .pointer (some ⟨b, 0, none⟩) ∧ w2.heap.size ≤ b ∧ Blk wx b (rdArr (.slice lp ln lc) e st1) 48 ∧ Blk wx w.heap.size #[.int .i64 0, .int .i64 0, .int .i64 0] 27 ∧ Below w2.heap.size w2 wx)
  case first =>
    have X := hid (Blk.drew F2.out)
    have Y := hid (Blk.drew B2.out)
    have bel := hid ((Below.refl w2.heap.size w2).drew)
    refine wp_region_noPanic ?_
    refine wp_region_held_drew (S := (fun w' => w'.rangeAt bf 0 (#[.int .i64 st1.f.1, .int .i64 st1.f.2.1, .int .i64 st1.f.2.2] : Array Value).toList)) (by kernel_rfl) (X.out.rngr) (fun hHeld => ?_)
    generalize w2.drew = W0 at *
    refine wpAnyH_take (i := 0) (oi := _) (v := .slice lp ln lc) rfl (by kernel_rfl) (by kernel_rfl) (by kernel_rfl) (fun _ _ _ h => h) (Or.inl ⟨by rfl, fun w hSw => by go_simp⟩) (by assumption) ?_
    try simp only [Array.reduceGetElem, Act.put, List.setIfInBounds_toArray, List.set_cons_zero, List.set_cons_succ]
    refine wpAnyH_take (i := 1) (oi := _) (v := .string s) rfl (by kernel_rfl) (by kernel_rfl) (by kernel_rfl) (fun _ _ _ h => h) (Or.inl ⟨by rfl, fun w hSw => by go_simp⟩) (by assumption) ?_
    try simp only [Array.reduceGetElem, Act.put, List.setIfInBounds_toArray, List.set_cons_zero, List.set_cons_succ]
    refine wpAnyH_take (i := 2) (oi := _) (v := .string s) rfl (by kernel_rfl) (by kernel_rfl) (by kernel_rfl) (fun _ _ _ h => h) (Or.inl ⟨by rfl, fun w hSw => by go_simp⟩) (by assumption) ?_
    try simp only [Array.reduceGetElem, Act.put, List.setIfInBounds_toArray, List.set_cons_zero, List.set_cons_succ]
    refine wpAnyH_take (i := 3) (oi := _) (v := .int .i64 s.size) rfl (by kernel_rfl) (by kernel_rfl) (by kernel_rfl) (fun _ _ _ h => h) (Or.inl ⟨by rfl, fun w hSw => by go_simp⟩) (by assumption) ?_
    try simp only [Array.reduceGetElem, Act.put, List.setIfInBounds_toArray, List.set_cons_zero, List.set_cons_succ]
    refine wpAnyH_take (i := 5) (oi := _) (v := .agg #[.int .i64 st1.f.1, .int .i64 st1.f.2.1, .int .i64 st1.f.2.2]) rfl (by kernel_rfl) (by kernel_rfl) (by kernel_rfl) (fun _ _ _ h => h) (yieldsIf_load_mid (by rfl) 27 (.tmp 5) rfl bf 0 rfl (#[.int .i64 st1.f.1, .int .i64 st1.f.2.1, .int .i64 st1.f.2.2] : Array Value).toList _ (fun _ h => h) Tryz.underlying27 rfl (by kernel_rfl)) (by assumption) ?_
    try simp only [Array.reduceGetElem, Act.put, List.setIfInBounds_toArray, List.set_cons_zero, List.set_cons_succ]
    refine wpAnyH_ready (rs := [4, 7]) (by kernel_rfl) (by simp) ?_
    refine AllReadyH.cons (o := _) rfl (fun K hK => ?_) ?_
    · dsimp only [Array.reduceGetElem] at hK ⊢
      go_simp
      refine (rplace_nat s s.size _ (Nat.le_refl _) hs).mono ?_
      rintro en v9 ⟨rfl, hb⟩
      rw [htake, hpe'.out]
      have X' := hid (X.out.ext hb)
      have Y' := hid (Y.out.ext hb)
      have bel' := hid (bthen bel.out hb)
      clear X
      have X := X'
      clear X'
      clear Y
      have Y := Y'
      clear Y'
      clear bel hb
      have bel := bel'
      clear bel'
      go_wp2_with fail
      refine hK.out _ _ ?_ (fun hHeld => ?_)
      · exact X.out.rngr
      clear hK K
      try simp only [Array.reduceGetElem, Act.put, List.setIfInBounds_toArray, List.set_cons_zero, List.set_cons_succ]
      refine wpAnyH_take (i := 6) (oi := _) (v := .agg (rdArr (.slice lp ln lc) e st1)) rfl (by kernel_rfl) (by kernel_rfl) (by kernel_rfl) (fun _ _ _ h => h) (Or.inl ⟨by rfl, fun w hSw => by first | (unfold rdArr; go_simp; done) | kernel_rfl⟩) (by assumption) ?_
      try simp only [Array.reduceGetElem, Act.put, List.setIfInBounds_toArray, List.set_cons_zero, List.set_cons_succ]
      refine wpAnyH_ready (rs := [7]) (by kernel_rfl) (by simp) ?_
      refine AllReadyH.cons (o := _) rfl (fun K hK => ?_) ?_
      · dsimp only [Array.reduceGetElem] at hK ⊢
        go_simp
        have zz := balloc v9 (.cells #[.slice none 0 0, .int .i64 0, .int .i64 0, .int .i64 0, .int .i64 0, .int .i64 0] 48)
        have X' := hid (X.out.ext zz)
        have Y' := hid (Y.out.ext zz)
        have bel' := hid (bthen bel.out zz)
        have A := hid (Blk.new v9 #[.slice none 0 0, .int .i64 0, .int .i64 0, .int .i64 0, .int .i64 0, .int .i64 0] 48)
        have ltA_X := X.out.lt
        have ltA_Y := Y.out.lt
        have geA := bel.out.size
        clear zz
        clear X
        have X := X'
        clear X'
        clear Y
        have Y := Y'
        clear Y'
        clear bel
        have bel := bel'
        clear bel'
        generalize v9.alloc (.cells #[.slice none 0 0, .int .i64 0, .int .i64 0, .int .i64 0, .int .i64 0, .int .i64 0] 48) = W2 at *
        generalize v9.heap.size = pb at *
        refine hK.out _ _ ?_ (fun hHeld => ?_)
        · exact X.out.rngr
        clear hK K
        try simp only [Array.reduceGetElem, Act.put, List.setIfInBounds_toArray, List.set_cons_zero, List.set_cons_succ]
        refine wpAnyH_ready (rs := [8]) (by kernel_rfl) (by simp) ?_
        refine AllReadyH.cons (o := _) rfl (fun K hK => ?_) ?_
        · dsimp only [Array.reduceGetElem] at hK ⊢
          rw [if_pos (by rfl)]
          refine wp_store_row 48 (.tmp 7) (.tmp 20) rfl pb (rdArr (.slice lp ln lc) e st1) rfl rfl 48 _ A.out (by kernel_rfl) (rdArr_size6 (.slice lp ln lc) e st1).symm (rdArr_one P1.out e _) ?_
          have X' := hid (X.out.setRowOther (k := pb) (cs' := rdArr (.slice lp ln lc) e st1) (by omega))
          have Y' := hid (Y.out.setRowOther (k := pb) (cs' := rdArr (.slice lp ln lc) e st1) (by omega))
          have A' := hid (A.out.setRow (rdArr (.slice lp ln lc) e st1))
          have bel' := hid (below_setRow bel.out geA (rdArr (.slice lp ln lc) e st1))
          clear X
          have X := X'
          clear X'
          clear Y
          have Y := Y'
          clear Y'
          clear A
          have A := A'
          clear A'
          clear bel
          have bel := bel'
          clear bel'
          generalize W2.setRow pb (rdArr (.slice lp ln lc) e st1) = W3 at *
          refine hK.out _ _ ?_ (fun hHeld => ?_)
          · exact X.out.rngr
          clear hK K
          try simp only [Act.put]
          refine wpAnyH_done (by kernel_rfl) ?_ _
          refine NoPanic.normal ?_
          go_wp2_with fail
          go_meet
          case rel => exact ⟨pb, rfl, geA, A.out, Y.out, bel.out⟩
        exact AllReadyH.nil
      exact AllReadyH.nil
    refine AllReadyH.cons (o := _) rfl (fun K hK => ?_) ?_
    · dsimp only [Array.reduceGetElem] at hK ⊢
      go_simp
      have zz := balloc W0 (.cells #[.slice none 0 0, .int .i64 0, .int .i64 0, .int .i64 0, .int .i64 0, .int .i64 0] 48)
      have X' := hid (X.out.ext zz)
      have Y' := hid (Y.out.ext zz)
      have bel' := hid (bthen bel.out zz)
      have A := hid (Blk.new W0 #[.slice none 0 0, .int .i64 0, .int .i64 0, .int .i64 0, .int .i64 0, .int .i64 0] 48)
      have ltA_X := X.out.lt
      have ltA_Y := Y.out.lt
      have geA := bel.out.size
      clear zz
      clear X
      have X := X'
      clear X'
      clear Y
      have Y := Y'
      clear Y'
      clear bel
      have bel := bel'
      clear bel'
      generalize W0.alloc (.cells #[.slice none 0 0, .int .i64 0, .int .i64 0, .int .i64 0, .int .i64 0, .int .i64 0] 48) = W1 at *
      generalize W0.heap.size = pb at *
      refine hK.out _ _ ?_ (fun hHeld => ?_)
      · exact X.out.rngr
      clear hK K
      try simp only [Array.reduceGetElem, Act.put, List.setIfInBounds_toArray, List.set_cons_zero, List.set_cons_succ]
      refine wpAnyH_ready (rs := [4]) (by kernel_rfl) (by simp) ?_
      refine AllReadyH.cons (o := _) rfl (fun K hK => ?_) ?_
      · dsimp only [Array.reduceGetElem] at hK ⊢
        go_simp
        refine (rplace_nat s s.size _ (Nat.le_refl _) hs).mono ?_
        rintro en v9 ⟨rfl, hb⟩
        rw [htake, hpe'.out]
        have X' := hid (X.out.ext hb)
        have Y' := hid (Y.out.ext hb)
        have A' := hid (A.out.ext hb)
        have bel' := hid (bthen bel.out hb)
        clear X
        have X := X'
        clear X'
        clear Y
        have Y := Y'
        clear Y'
        clear A
        have A := A'
        clear A'
        clear bel hb
        have bel := bel'
        clear bel'
        go_wp2_with fail
        refine hK.out _ _ ?_ (fun hHeld => ?_)
        · exact X.out.rngr
        clear hK K
        try simp only [Array.reduceGetElem, Act.put, List.setIfInBounds_toArray, List.set_cons_zero, List.set_cons_succ]
        refine wpAnyH_take (i := 6) (oi := _) (v := .agg (rdArr (.slice lp ln lc) e st1)) rfl (by kernel_rfl) (by kernel_rfl) (by kernel_rfl) (fun _ _ _ h => h) (Or.inl ⟨by rfl, fun w hSw => by first | (unfold rdArr; go_simp; done) | kernel_rfl⟩) (by assumption) ?_
        try simp only [Array.reduceGetElem, Act.put, List.setIfInBounds_toArray, List.set_cons_zero, List.set_cons_succ]
        refine wpAnyH_ready (rs := [8]) (by kernel_rfl) (by simp) ?_
        refine AllReadyH.cons (o := _) rfl (fun K hK => ?_) ?_
        · dsimp only [Array.reduceGetElem] at hK ⊢
          rw [if_pos (by rfl)]
          refine wp_store_row 48 (.tmp 7) (.tmp 20) rfl pb (rdArr (.slice lp ln lc) e st1) rfl rfl 48 _ A.out (by kernel_rfl) (rdArr_size6 (.slice lp ln lc) e st1).symm (rdArr_one P1.out e _) ?_
          have X' := hid (X.out.setRowOther (k := pb) (cs' := rdArr (.slice lp ln lc) e st1) (by omega))
          have Y' := hid (Y.out.setRowOther (k := pb) (cs' := rdArr (.slice lp ln lc) e st1) (by omega))
          have A' := hid (A.out.setRow (rdArr (.slice lp ln lc) e st1))
          have bel' := hid (below_setRow bel.out geA (rdArr (.slice lp ln lc) e st1))
          clear X
          have X := X'
          clear X'
          clear Y
          have Y := Y'
          clear Y'
          clear A
          have A := A'
          clear A'
          clear bel
          have bel := bel'
          clear bel'
          generalize v9.setRow pb (rdArr (.slice lp ln lc) e st1) = W3 at *
          refine hK.out _ _ ?_ (fun hHeld => ?_)
          · exact X.out.rngr
          clear hK K
          try simp only [Act.put]
          refine wpAnyH_done (by kernel_rfl) ?_ _
          refine NoPanic.normal ?_
          go_wp2_with fail
          go_meet
          case rel => exact ⟨pb, rfl, geA, A.out, Y.out, bel.out⟩
        exact AllReadyH.nil
      exact AllReadyH.nil
    exact AllReadyH.nil
  case rest =>
  obtain ⟨b, rfl, hbb, hA, hY, hB⟩ := hcut
  have A0 := hid hA
  have Y0 := hid hY
  have K0 := hid hB
  clear hA hY hB B2 F2
  have hwb : w.heap.size < b := by omega
  go_upto_region 4 with (fail)
  go_loopg [6] (T.length + 1) (fun g u wr => ∃ (n : Nat) (ds qs : List Po.Decl) (vs : List Value) (st rst : Po.St) (L : Value), n = qs.length ∧ ds.length = n ∧ Po.Parsing T e st1 g ds st ∧ rst.f = st.f ∧ (st.f.1 = 0 → rst = st ∧ qs = ds) ∧ Blk wr b (rdArr L e rst) 48 ∧ RRd w2 L T rst ∧ wr.ownsRow (b + 1) 39 24 u n (declsCells qs vs) ∧ OwnBoxes wr b u qs vs ∧ Blk wr w.heap.size #[.int .i64 0, .int .i64 0, .int .i64 0] 27 ∧ Below w2.heap.size w2 wr)
  case atStart => exact ⟨0, [], [], [], st1, st1, _, rfl, rfl, Po.Parsing.begin _ _ _, rfl, fun _ => ⟨rfl, rfl⟩, A0.out, P1.out, World.ownsRow_nil _ _ _ _, OwnBoxes.nil _ _ _, Y0.out, K0.out⟩
  case round =>
    obtain ⟨n, ds, qs, vs, st, rst, L, hn, hdn, hPar, hff, heq, hA, hP, hO, hX, hF, hK⟩ := hrel
    have hn' := hid hn
    have hdn' := hid hdn
    have B1 := hid hPar
    have A1 := hid hA
    have P2 := hid hP
    have O1 := hid hO
    have X1 := hid hX
    have F1 := hid hF
    have K1 := hid hK
    have hnT : n + gk ≤ T.length + 1 := by rw [← hdn]; exact hPar.len
    have hTl1 := hTl.out
    clear hn hdn hPar hA hP hO hX hF hK A0 Y0 K0
    by_cases h0 : st.f.1 = 0
    · obtain ⟨rfl, rfl⟩ := heq h0
      clear heq hff
      by_cases hl : rst.at_ < T.length
      · have hg := B1.out.pos hl h0
        obtain ⟨gk', rfl⟩ : ∃ g', gk = g' + 1 := ⟨gk - 1, by omega⟩
        have B2 := hid (B1.out.step hl h0)
        have hst := hid (Po.rd_step (T := T) (e := e) h0)
        obtain ⟨g, o, nL, cL, t, rfl, hn0, hnc, hn1, ht, hg1, hat, _⟩ := P2.out.head hl
        have k0 := A1.out.cell 0 (v := .slice (some ⟨g, o, none⟩) nL cL) rfl
        have k3 := A1.out.cell 3 (v := .int .i64 rst.f.1) rfl
        have hz0 : ((rst.f.1 : Nat) : Int) = 0 := by omega
        rw [hz0] at k3
        have hnI : (0 : Int) < nL := by omega
        have zd := balloc wr (.cells #[.int .i64 0, .string ⟨#[]⟩, .int .i64 0, .slice none 0 0, .bool false, .string ⟨#[]⟩, .int .i64 0, .int .i64 0, .int .i64 0, .int .i64 0, .int .i64 0, .bool false, .string ⟨#[]⟩, .int .i64 0, .int .i64 0, .int .i64 0, .bool false, .string ⟨#[]⟩, .int .i64 0, .int .i64 0, .int .i64 0, .int .i64 0, .int .i64 0, .int .i64 0] 39)
        have A2 := hid (A1.out.ext zd)
        have D2 := hid (Blk.new wr #[.int .i64 0, .string ⟨#[]⟩, .int .i64 0, .slice none 0 0, .bool false, .string ⟨#[]⟩, .int .i64 0, .int .i64 0, .int .i64 0, .int .i64 0, .int .i64 0, .bool false, .string ⟨#[]⟩, .int .i64 0, .int .i64 0, .int .i64 0, .bool false, .string ⟨#[]⟩, .int .i64 0, .int .i64 0, .int .i64 0, .int .i64 0, .int .i64 0, .int .i64 0] 39)
        have K2 := hid (bthen K1.out zd)
        have t2 := hid (Touch.of_below (b := b) zd)
        have hlt := hid A1.out.lt
        have hul := hid (fun k hk => (Row.of_owns O1.out).own_lt (k := k) hk)
        have hkd := hid K1.out.size
        clear zd ht hat hg1 hz0 h0 hl hg B1
        go_upto_region 6 with (fail)
        clear k0 k3
        generalize hW : wr.alloc _ = wa at *
        generalize hbd : wr.heap.size = bd at *
        have hbd' := hid hbd
        clear hW hbd
        go_wp2_with (first | (refine wpList_load_blk rfl 48 (.tmp 7) rfl 32 rfl b 48 (rdArr (.slice (some ⟨g, o, none⟩) nL cL) e rst) (A2.out) rfl Tryz.underlying48 rfl (by kernel_rfl) ?_))
        refine (rrdecl_any e P2.out K2.out).mono ?_
        rintro en wd ⟨⟨L2, v, rfl, hP3, hrow, hown⟩, hb3⟩
        obtain ⟨vp, vl, vc, rfl⟩ := Row.shape hrow
        obtain ⟨sr, hsr⟩ : ∃ s, Po.rdS T e rst = s := ⟨_, rfl⟩
        obtain ⟨D, hD⟩ : ∃ d, Po.rdV T e rst = d := ⟨_, rfl⟩
        rw [hsr, hD]
        rw [hD] at hrow
        rw [hsr] at hP3
        have P3 := hid hP3
        have hst' := hst.out
        rw [hsr, hD] at hst'
        have hst := hid hst'
        have hbda : bd < wa.heap.size := D2.out.lt
        have hlt' := hlt.out
        have hb : b ≠ bd := by omega
        have hb' : bd ≠ b := by omega
        have hown' := hid (show ∀ k, (Value.slice vp vl vc).ownBlock = some k → bd < k from fun k hk => Nat.lt_of_lt_of_le hbda (hown k hk))
        have A3 := hid (A2.out.ext hb3)
        have D3 := hid (((D2.out.ext hb3).setRowOther (k := b) (cs' := rdArr L2 e sr) hb'))
        have A4 := hid ((A3.out.setRow (rdArr L2 e sr)).setRowOther (k := bd) (cs' := declCells D (.slice vp vl vc)) hb)
        have D4 := hid (D3.out.setRow (declCells D (.slice vp vl vc)))
        have hkd' := hkd.out
        have K4 := hid (below_setRow (below_setRow (bthen K2.out hb3) hbb (rdArr L2 e sr)) hkd' (declCells D (.slice vp vl vc)))
        have t4 := hid (((t2.out.trans (Touch.of_below hb3)).setRow (rdArr L2 e sr)).setRowNew (k := bd) (Nat.le_of_eq hbd'.out) (declCells D (.slice vp vl vc)))
        have R4 := hid ((hrow.setRow (k := b) (fun e2 => by have := hown'.out _ e2; omega) (rdArr L2 e sr)).setRow (k := bd) (fun e2 => by have := hown'.out _ e2; omega) (declCells D (.slice vp vl vc)))
        clear hP3 hrow hown hst' hsr hD hb3 A2 D2 K2 t2
        go_upto_region 7 with (first | (refine wpList_store_blk rfl 48 (.tmp 7) (.tmp 34) rfl rfl b 48 _ (rdArr L2 e sr) (A3.out) rfl rfl (by kernel_rfl) (rdArr_size_eq _ _ _ _ _ _) (rdArr_one P3.out e _) ?_) | (refine wpList_store_blk rfl 39 (.tmp 8) (.tmp 35) rfl rfl bd 39 _ (declCells D (.slice vp vl vc)) (D3.out) rfl rfl (by kernel_rfl) rfl (declCells_one _ rfl) ?_))
        clear A3 D3
        generalize World.setRow (World.setRow _ _ _) _ _ = we at *
        have O4 := hid (owns_touch O1.out t4.out (by omega))
        have X4 := hid (X1.out.touch t4.out)
        have F4 := hid (Blk.touch F1.out t4.out (by omega))
        have hcap : n + 1 ≤ maxLen := by unfold maxLen; omega
        have hc1 := hid (cells_new we (declCells D (.slice vp vl vc)).toList 39 (k := we.heap.size) rfl)
        rw [Array.toArray_toList] at hc1
        have hal := hid (O4.out.alloc (.cells (declCells D (.slice vp vl vc)) 39))
        have hone : Hid (∀ u ∈ (declCells D (.slice vp vl vc)).toList, u.oneCell' = true) := hid (fun u hu => (Array.all_eq_true_iff_forall_mem.1 (declCells_one D rfl)) u (by simpa using hu))
        have hz5 := A4.out.lt
        have hlen24 : (declCells D (.slice vp vl vc)).toList.length = 24 := rfl
        have hfar : Hid (∀ k, (Value.slice vp vl vc).ownBlock = some k → b < k ∧ u6.ownBlock ≠ some k) := hid (fun k hk => ⟨by have := hown'.out k hk; omega, fun e2 => by have h1 := hown'.out k hk; have h2 := hul.out k e2; omega⟩)
        go_wp2_with (first | (refine wpList_load_blk rfl 39 (.tmp 8) rfl 37 rfl bd 39 (declCells D (.slice vp vl vc)) (D4.out) rfl Tryz.underlying39 rfl (by kernel_rfl) ?_) | (refine wpList_buildOne rfl 30 39 (.tmp 37) rfl 38 rfl Tryz.underlying30 i0 _ hinf hiz 24 hisz (by decide) (by decide) (declCells D (.slice vp vl vc)) rfl rfl ?_) | (at_builtin; refine Go.wpList_append_own_at _ rfl _ _ 30 rfl (b + 1) 39 i0 _ 24 240 Tryz.underlying30 hinf hiz hisz hiby rfl (by decide) _ _ _ rfl hal.out ⟨we.heap.size, 0, none⟩ 1 1 (declCells D (.slice vp vl vc)).toList rfl hlen24 hc1.out hone.out hcap (by omega) (by simp; omega) ?_; intro v6 w6 hown6 hgrow _ hat6))
        go_roundg gk'
        case measure => omega
        case rel =>
          have ha5 := balloc we (.cells (declCells D (.slice vp vl vc)) 39)
          refine ⟨n + 1, qs ++ [Po.declV T e rst], qs ++ [D], vs ++ [.slice vp vl vc], Po.declS T e rst, sr, L2, by rw [List.length_append, ← hn'.out]; rfl, by rw [List.length_append, ← hn'.out]; rfl, B2.out, hst.out.1, fun h7 => ⟨(hst.out.2 h7).1, by rw [(hst.out.2 h7).2]⟩, ?_, P3.out, ?_, ?_, ?_, ?_⟩
          · exact Blk.grown (A4.out.ext ha5) hgrow (own_ne hal.out (by omega))
          · rw [declsCells_snoc X4.out.len]; exact hown6
          · exact OwnBoxes.snoc (X4.out.touch (Touch.of_below ha5)) (R4.out.ext ha5) hfar.out hgrow hat6 (Nat.le_refl _)
          · exact Blk.grown (F4.out.ext ha5) hgrow (own_ne hal.out (by omega))
          · exact (bthen K4.out ha5).grown hgrow (bthen K4.out ha5).size (fun k hk => by have := (hal.out.lt k hk).1; omega)
      · have hst := hid (B1.out.stop (fun x => hl x.1))
        obtain ⟨p, c, rfl, _⟩ := P2.out.empty hl
        obtain ⟨i, fe, fl, fc⟩ := rst
        simp only at h0
        have k0 := A1.out.cell 0 (v := .slice p 0 c) rfl
        have k3 := A1.out.cell 3 (v := .int .i64 fe) rfl
        have k4 := A1.out.cell 4 (v := .int .i64 fl) rfl
        have k5 := A1.out.cell 5 (v := .int .i64 fc) rfl
        obtain ⟨d0, d1, d2, df, dz⟩ := F1.out.three
        subst h0
        have nbw : w.heap.size ≠ b := by omega
        have nwb : b ≠ w.heap.size := by omega
        clear hl
        go_wp2_with fail
        go_region_held3 (fun w' => w'.cell? ⟨b, 3, none⟩ = some (.int .i64 (0 : Nat)) ∧ w'.cell? ⟨b, 3 + 1, none⟩ = some (.int .i64 fl) ∧ w'.cell? ⟨b, 3 + 1 + 1, none⟩ = some (.int .i64 fc)) (go_keep) (first | fail)
        go_wp2_with fail
        have Qr := bthen Q2.out K1.out
        refine bodyPost_ret (v := .tuple #[u6, .agg #[.int .i64 0, .int .i64 fl, .int .i64 fc]]) (by simp [results, Tryz.results5, go_sem, d0, d1, d2]) rfl ⟨?_, (by simp only [below_setNew_iff hn1, below_drew_iff]; exact Qr)⟩
        have ht : Touch w.heap.size wr (((wr.setCell ⟨w.heap.size, 0, none⟩ (.int .i64 0)).setCell ⟨w.heap.size, 1, none⟩ (.int .i64 fl)).setCell ⟨w.heap.size, 2, none⟩ (.int .i64 fc)).drew := (by simp only [Touch.drew_iff]; exact (((Touch.refl w.heap.size wr).setCell 0 (.int .i64 0)).setCell 1 (.int .i64 fl)).setCell 2 (.int .i64 fc))
        unfold RParseBack
        rw [hpe'.out, hst.out.2, hst.out.1]
        refine ⟨u6, rfl, .inl ⟨rfl, vs, X1.out.len, ?_, ?_⟩⟩
        · rw [← hn'.out]
          exact Row.of_owns (owns_touch O1.out ht (by omega))
        · intro i d x hd hx
          exact (X1.out.box i d x hd hx).touch ht (fun e2 => by have := (X1.out.far x (List.mem_of_getElem? hx) _ e2).1; omega)
    · have hst := hid (B1.out.stop (fun x => h0 x.2))
      obtain ⟨p, m, c, rfl, _⟩ := P2.out.row
      obtain ⟨i, fe, fl, fc⟩ := rst
      simp only at hff
      rw [← hff] at h0
      simp only at h0
      have k0 := A1.out.cell 0 (v := .slice p m c) rfl
      have k3 := A1.out.cell 3 (v := .int .i64 fe) rfl
      have k4 := A1.out.cell 4 (v := .int .i64 fl) rfl
      have k5 := A1.out.cell 5 (v := .int .i64 fc) rfl
      obtain ⟨d0, d1, d2, df, dz⟩ := F1.out.three
      have e1 : ((fe : Int) == 0) = false := by rw [beq_eq_false_iff_ne]; omega
      have e2 : ((fe : Int) != 0) = true := by rw [bne_iff_ne]; omega
      have nbw : w.heap.size ≠ b := by omega
      have nwb : b ≠ w.heap.size := by omega
      have h0' := hid h0
      clear h0 heq
      by_cases hm : 0 < m
      · have hmI : (0 : Int) < m := by omega
        go_wp2_with fail
        go_region_held3 (fun w' => w'.cell? ⟨b, 3, none⟩ = some (.int .i64 fe) ∧ w'.cell? ⟨b, 3 + 1, none⟩ = some (.int .i64 fl) ∧ w'.cell? ⟨b, 3 + 1 + 1, none⟩ = some (.int .i64 fc)) (go_keep) (first | fail)
        go_wp2_with fail
        have Qr := bthen Q2.out K1.out
        refine bodyPost_ret (v := .tuple #[.slice (some ⟨wr.heap.size, 0, none⟩) 0 0, .agg #[.int .i64 fe, .int .i64 fl, .int .i64 fc]]) (by simp [results, Tryz.results5, go_sem, d0, d1, d2, dz]) rfl ⟨?_, (by simp only [below_drew_iff]; exact bthen (by simp only [below_setNew_iff hn1]; exact Qr) (balloc _ _))⟩
        unfold RParseBack
        rw [hpe'.out, hst.out.2, ← hff]
        exact ⟨_, rfl, .inr ⟨h0'.out, wr.heap.size, by simp [World.size_alloc], rfl⟩⟩
      · obtain rfl : m = 0 := by omega
        go_wp2_with fail
        go_region_held3 (fun w' => w'.cell? ⟨b, 3, none⟩ = some (.int .i64 fe) ∧ w'.cell? ⟨b, 3 + 1, none⟩ = some (.int .i64 fl) ∧ w'.cell? ⟨b, 3 + 1 + 1, none⟩ = some (.int .i64 fc)) (go_keep) (first | fail)
        go_wp2_with fail
        have Qr := bthen Q2.out K1.out
        refine bodyPost_ret (v := .tuple #[.slice (some ⟨wr.heap.size, 0, none⟩) 0 0, .agg #[.int .i64 fe, .int .i64 fl, .int .i64 fc]]) (by simp [results, Tryz.results5, go_sem, d0, d1, d2, dz]) rfl ⟨?_, (by simp only [below_drew_iff]; exact bthen (by simp only [below_setNew_iff hn1]; exact Qr) (balloc _ _))⟩
        unfold RParseBack
        rw [hpe'.out, hst.out.2, ← hff]
        exact ⟨_, rfl, .inr ⟨h0'.out, wr.heap.size, by simp [World.size_alloc], rfl⟩⟩

def RPPost (L : Lx.Bytes) (e : Ending) (w' : World) : Prop :=
  match Po.parse L with
  | .ok ds => ∃ v vs, e = .returned (.tuple #[v, .agg #[.int .i64 0, .int .i64 0, .int .i64 0]]) ∧ Decls w' v ds vs
  | .error (er, l, c) => ∃ k, k < w'.heap.size ∧ e = .returned (.tuple #[.slice (some ⟨k, 0, none⟩) 0 0, .agg #[.int .i64 er, .int .i64 l, .int .i64 c]]) ∧ er ≠ 0
theorem rrd_start {w : World} {v : Value} {T : List Lx.Tok} (h : Row w v T.length 5 (toksCells T)) (hT : T.length ≤ 1000) : RRd w v T Po.st0 := by
  rcases tokRow_of h with ⟨rfl, rfl⟩ | ⟨g, off, cap, rfl, hr⟩
  · exact ⟨Nat.zero_le _, hT, none, 0, 0, rfl, rfl, Nat.le_refl _, fun h => absurd h (by decide)⟩
  · exact ⟨Nat.zero_le _, hT, some ⟨g, off, none⟩, T.length, cap, rfl, rfl, hr.cap, fun _ => ⟨g, off, cap, by show _ = some (⟨g, off + 0 * 5, none⟩ : Addr); rw [Nat.zero_mul, Nat.add_zero], hr⟩⟩
theorem rparse_any (s : ByteArray) (w : World) (hs : s.size ≤ 140737488355328) :
    Calls Tryz.prog 5 #[.string s] w fun e w' => RPPost s.data.toList e w' ∧ Below w.heap.size w w' := by
  cases hk : Lx.tokens s.data.toList with
  | error x =>
    obtain ⟨er, l, c⟩ := x
    have hp := parse_bad hk
    have htk : ∀ w1 : World, Calls Tryz.prog 12 #[.string s] w1 fun en w' => (∃ v, en = .returned (.tuple #[v, .agg #[.int .i64 er, .int .i64 l, .int .i64 c]]) ∧ RRd w' v [] ⟨0, (er, l, c)⟩ ∧ er ≠ 0) ∧ Below w1.heap.size w1 w' := fun w1 => by
      have h := rtokens_any s w1 hs
      unfold TokensPost at h
      rw [hk] at h
      refine h.mono fun en w' ⟨⟨v, h1, h2, h3⟩, hb⟩ => ⟨⟨v, h1, ?_, h3⟩, hb⟩
      obtain ⟨p, c', rfl⟩ := row_shape h2
      exact ⟨Nat.zero_le _, Nat.zero_le _, p, 0, c', rfl, rfl, Nat.zero_le _, fun h => absurd h (by decide)⟩
    have her : er ≠ 0 := Po.tokens_nz hk
    have hg := rparse_gen s w hs (T := []) (st1 := ⟨0, (er, l, c)⟩) (fun w1 => (htk w1).mono fun en w' ⟨⟨v, h1, h2, _⟩, hb⟩ => ⟨⟨v, h1, h2⟩, hb⟩)
    refine hg.mono fun en w' ⟨⟨u, h1, h2⟩, hb⟩ => ⟨?_, hb⟩
    have hst : Po.parseS [] (Lx.posOf s.data.toList) (0 + 1) ⟨0, (er, l, c)⟩ = ⟨0, (er, l, c)⟩ := by rw [Po.parseS, if_neg (fun h => Nat.not_lt_zero _ h.1)]
    rw [show ([] : List Lx.Tok).length = 0 from rfl, hst] at h1 h2
    unfold RPPost
    rw [hp]
    rcases h2 with ⟨h3, _⟩ | ⟨_, k, h4, rfl⟩
    · exact absurd h3 her
    · exact ⟨k, h4, h1, her⟩
  | ok T =>
    have hTl := (Lx.tokens_bound hk).1
    have hp := parse_ok hk
    have htk : ∀ w1 : World, Calls Tryz.prog 12 #[.string s] w1 fun en w' => (∃ v, en = .returned (.tuple #[v, .agg #[.int .i64 Po.st0.f.1, .int .i64 Po.st0.f.2.1, .int .i64 Po.st0.f.2.2]]) ∧ RRd w' v T Po.st0) ∧ Below w1.heap.size w1 w' := fun w1 => by
      have h := rtokens_any s w1 hs
      unfold TokensPost at h
      rw [hk] at h
      exact h.mono fun en w' ⟨⟨v, h1, h2⟩, hb⟩ => ⟨⟨v, h1, rrd_start h2 (by omega)⟩, hb⟩
    refine (rparse_gen s w hs htk).mono fun en w' ⟨⟨u, h1, h2⟩, hb⟩ => ⟨?_, hb⟩
    unfold RPPost
    rw [hp]
    rcases h2 with ⟨h3, vs, h4⟩ | ⟨h3, k, h4, rfl⟩
    · rw [if_pos h3]
      have hend := Po.parse_end h3
      rw [hend] at h1
      exact ⟨u, vs, h1, h4⟩
    · rw [if_neg h3]
      exact ⟨k, h4, h1, h3⟩

end Go.Proofs.YtelphkhacadfaaaGreat

namespace Go.Proofs.YtelphkhacadfaaaGreat
open Go.RowKit Go.Sort Go.Maps

/-- so many of the first i are rules -/
def cntR (l : List Po.Decl) (i : Nat) : Nat := ((l.take i).filter fun d => decide (3 < d.kind)).length
theorem cntR_step {l : List Po.Decl} {i : Nat} (hi : i < l.length) : cntR l (i + 1) = cntR l i + (if 3 < (l[i]).kind then 1 else 0) := by
  unfold cntR
  rw [List.take_succ_eq_append_getElem hi, List.filter_append, List.length_append]
  congr 1
  by_cases h : 3 < (l[i]).kind <;> simp [h]
theorem cntR_le (l : List Po.Decl) (i : Nat) : cntR l i ≤ l.length := by
  unfold cntR
  have h1 := List.length_filter_le (fun d : Po.Decl => decide (3 < d.kind)) (l.take i)
  have h2 := List.length_take_le' i l
  omega
theorem Ru.ckRun_err : ∀ (l a : List Po.Decl) (c : Ru.Ck) (f : Ru.F3), Ru.ckRun a l c = .error f → f.1 ≠ 0
  | [], _, _, _, h => by rw [Ru.ckRun] at h; cases h
  | d :: r, a, c, f, h => by
    rw [Ru.ckRun] at h
    split at h
    · exact Ru.ckRun_err r _ _ f h
    · rename_i h0
      cases h
      exact h0
theorem Ru.checkV_err {l : List Po.Decl} {f : Ru.F3} (h : Ru.checkV l = .error f) : f.1 ≠ 0 := by
  unfold Ru.checkV at h
  split at h
  · exact Ru.ckRun_err _ _ _ _ h
  · cases h; decide
theorem rsl_shape {w : World} {v : Value} {l : List Ru.Rule} (h : RSl w v l) : ∃ p c, v = .slice p l.length c := by
  rcases h with ⟨rfl, rfl⟩ | ⟨g, off, cap, rfl, _⟩
  · exact ⟨_, _, rfl⟩
  · exact ⟨_, _, rfl⟩
theorem out_good (l : List Po.Decl) (h : (outFt l).1 = 0) : Ru.rulesR (outRs l) = true ∧ (outRs l).length = cntR l l.length := by
  unfold outFt at h
  unfold outRs cntR
  rw [List.take_of_length_le (Nat.le_refl _)]
  cases hc : Ru.checkV l with
  | ok rs => exact Ru.check_good hc
  | error f => rw [hc] at h; exact absurd h (Ru.checkV_err hc)

set_option maxRecDepth 100000 in
set_option maxHeartbeats 4000000 in
theorem reads_walk {s : ByteArray} {w : World} (hs : s.size ≤ 140737488355328) :
    Calls Tryz.prog 3 #[.string s] w fun e w' => e = .returned (.bool true) ∧ Below w.heap.size w w' := by
  have hfin' : Hid (∀ w1 : World, Below w.heap.size w w1 → Calls Tryz.prog 6 #[] w1 fun e w' => e = .returned (.bool true) ∧ Below w.heap.size w w') := hid (fun w1 h1 => (known_any _).mono fun e w' ⟨h2, h3⟩ => ⟨h2, h1.trans (h3.mono h1.size)⟩)
  have hra := read_any s w hs
  have hrb : ∀ w1 : World, Calls Tryz.prog 5 #[.string s] w1 fun e w' => RPPost s.data.toList e w' ∧ Below w1.heap.size w1 w' := fun w1 => rparse_any s w1 hs
  unfold ReadPost at hra
  unfold RPPost at hrb
  cases hp : Po.parse s.data.toList with
  | error f =>
    obtain ⟨er, l, c⟩ := f
    rw [hp] at hra hrb
    have hra' := hid hra
    have hrb' := hid hrb
    clear hra hrb hp
    go_enter Tryz.func3, Tryz.ntmps3
    go_wp2_with fail
    refine hra'.out.mono ?_
    rintro e w1 ⟨⟨rfl, her⟩, hb1⟩
    have z1 := balloc w1 (.cells #[.int .i64 er, .int .i64 l, .int .i64 c] 27)
    have Q1 := hid (bthen hb1 z1)
    have C1 := hid (Blk.new w1 #[.int .i64 er, .int .i64 l, .int .i64 c] 27)
    have hne : ((er : Int) != 0) = true := by rw [bne_iff_ne]; omega
    clear hb1 z1 her
    go_wp2_with fail
    refine (hrb'.out _).mono ?_
    rintro e w2 ⟨⟨k, _, rfl, _⟩, hb2⟩
    have z2 := balloc w2 (.cells #[.int .i64 er, .int .i64 l, .int .i64 c] 27)
    have Q2 := hid (bthen (bthen Q1.out hb2) z2)
    obtain ⟨a0, a1, a2, af, az⟩ := ((C1.out.ext hb2).ext z2).three
    obtain ⟨b0, b1, b2, bf, bz⟩ := (Blk.new w2 #[.int .i64 er, .int .i64 l, .int .i64 c] 27).three
    clear hb2 z2 Q1 C1
    go_wp2_with fail
    refine (hfin'.out _ Q2.out).mono ?_
    rintro e w4 ⟨rfl, hb4⟩
    have Q4 := hid hb4
    clear hb4
    go_wp2_with fail
    go_ret
    exact ⟨rfl, Q4.out⟩
  | ok ds =>
    rw [hp] at hra hrb
    simp only at hra
    obtain ⟨hlen, hsm⟩ := Po.parse_small hp
    have hds := hid (fun d hd => DSmall.of (hsm d hd))
    have hra' := hid hra
    have hrb' := hid hrb
    have hgood := hid (out_good ds)
    clear hra hrb hp hsm
    go_enter Tryz.func3, Tryz.ntmps3
    go_wp2_with fail
    refine hra'.out.mono ?_
    rintro e w1 ⟨hp1, hb1⟩
    obtain ⟨v1, rfl, hr1, hl1⟩ := check_out hp1
    have hco := hid (fun (e : Ending) (w' : World) (hp : RCheckPost ds w' e) => rcheck_out hp)
    generalize outRs ds = rs at *
    generalize outFt ds = F at *
    obtain ⟨er, x, y⟩ := F
    simp only at hco hgood
    have z1 := balloc w1 (.cells #[.int .i64 er, .int .i64 x, .int .i64 y] 27)
    have Q1 := hid (bthen hb1 z1)
    have C1 := hid (Blk.new w1 #[.int .i64 er, .int .i64 x, .int .i64 y] 27)
    have hr1' := hr1 w1 ⟨Nat.le_refl _, fun _ _ _ => rfl⟩
    have R1 := hid (hr1'.ext z1)
    obtain ⟨vp, vc, rfl⟩ := rsl_shape hr1'
    clear hp1 hr1 hr1' hb1 z1 hra'
    go_wp2_with fail
    refine (hrb'.out _).mono ?_
    rintro e w2 ⟨⟨v2, vs2, rfl, hd2⟩, hb2⟩
    have z2 := balloc w2 (.cells #[.int .i64 0, .int .i64 0, .int .i64 0] 27)
    have Q2 := hid (bthen (bthen Q1.out hb2) z2)
    have C2 := hid ((C1.out.ext hb2).ext z2)
    have D2 := hid (hd2.sl.ext z2)
    have R2 := hid ((R1.out.ext hb2).ext z2)
    obtain ⟨b0, b1, b2, bf, bz⟩ := (Blk.new w2 #[.int .i64 0, .int .i64 0, .int .i64 0] 27).three
    obtain ⟨lp, lc, rfl⟩ := hd2.sl.shape
    clear hd2 hb2 z2 Q1 C1 R1 hrb'
    go_wp2_with fail
    clear b0 b1 b2 bf bz
    refine (rcheck_any D2.out (by omega) hds.out).mono ?_
    rintro e w3 ⟨hp3, hb3⟩
    obtain ⟨v3, rfl, hr3⟩ := hco.out _ _ hp3
    have z3 := balloc w3 (.cells #[.int .i64 er, .int .i64 x, .int .i64 y] 27)
    have Q3 := hid (bthen (bthen Q2.out hb3) z3)
    have C3 := hid ((C2.out.ext hb3).ext z3)
    have E3 := hid (Blk.new w3 #[.int .i64 er, .int .i64 x, .int .i64 y] 27)
    have D3 := hid ((D2.out.ext hb3).ext z3)
    have R3 := hid ((R2.out.ext hb3).ext z3)
    have S3 := hid (hr3.ext z3)
    clear hp3 hr3 hb3 z3 hco Q2 C2 D2 R2
    have hP : Hid (0 < ds.length → ∃ g off, lp = some ⟨g, off, none⟩ ∧ DRow (w3.alloc (.cells #[.int .i64 er, .int .i64 x, .int .i64 y] 27)) g off lc ds) := hid (fun hpos => by
      rcases D3.out with ⟨_, h0⟩ | ⟨g, off, cap, hv, hr⟩
      · rw [h0] at hpos; simp at hpos
      · cases hv; exact ⟨g, off, rfl, hr⟩)
    go_upto_region 7 with (fail)
    generalize w3.alloc (.cells #[.int .i64 er, .int .i64 x, .int .i64 y] 27) = wl at *
    go_wp2_with fail
    go_loopw [9, 10] (fun u9 u10 wr => ∃ i : Nat, u9 = .int .i64 (cntR ds i) ∧ u10 = .int .i64 i ∧ i ≤ ds.length ∧ wr = wl) (fun _ u10 _ => ds.length - (intOf u10).toNat)
    case atStart => exact ⟨0, rfl, rfl, Nat.zero_le _, rfl⟩
    case round =>
      obtain ⟨i, rfl, rfl, hle, rfl⟩ := hrel
      have hcl := cntR_le ds i
      by_cases hlt : i < ds.length
      · obtain ⟨g, o, rfl, hr⟩ := hP.out (by omega)
        obtain ⟨xb, hx1, _⟩ := hr.get i hlt
        have hstep := hid (cntR_step hlt)
        have k0 : wr.cell? ⟨g, o + i * 24, none⟩ = some (.int .i64 (ds[i]).kind) := hx1 0 _ rfl
        clear hx1 hr
        generalize ds[i] = d at *
        by_cases h3 : 3 < d.kind
        · rw [if_pos h3] at hstep
          have h3b : decide (3 < d.kind) = true := decide_eq_true h3
          go_wp2_with fail
          go_roundw
          case rel => exact ⟨i + 1, by rw [hstep.out]; go_num, by go_num, by omega, by trivial⟩
          case measure => simp [intOf]; omega
        · rw [if_neg h3] at hstep
          have h3b : decide (3 < d.kind) = false := decide_eq_false h3
          go_wp2_with fail
          go_roundw
          case rel => exact ⟨i + 1, by rw [hstep.out]; rfl, by go_num, by omega, by trivial⟩
          case measure => simp [intOf]; omega
      · obtain rfl : i = ds.length := by omega
        obtain ⟨a0, a1, a2, af, az⟩ := C3.out.three
        obtain ⟨e0, e1, e2, ef, ez⟩ := E3.out.three
        go_wp2_with fail
        refine (rsame_any R3.out S3.out (by omega)).mono ?_
        rintro e w5 ⟨rfl, hb5⟩
        have Q5 := hid (bthen Q3.out hb5)
        have R5 := hid (R3.out.ext hb5)
        clear a0 a1 a2 af az e0 e1 e2 ef ez
        obtain ⟨e0, e1, e2, ef, ez⟩ := (E3.out.ext hb5).three
        clear hb5
        by_cases h0 : er = 0
        · have hg := hid (hgood.out h0)
          have hlb : ((rs.length : Int) == (cntR ds ds.length : Nat)) = true := by rw [hg.out.2]; simp
          subst h0
          go_wp2_with fail
          refine (rright_any R5.out (by omega)).mono ?_
          rintro e w6 ⟨rfl, hb6⟩
          rw [hg.out.1]
          have Q6 := hid (bthen Q5.out hb6)
          clear hb6
          go_wp2_with fail
          refine (hfin'.out _ Q6.out).mono ?_
          rintro e w7 ⟨rfl, hb7⟩
          have Q7 := hid hb7
          clear hb7
          go_wp2_with fail
          go_ret
          exact ⟨rfl, Q7.out⟩
        · have hne : (er != 0) = true := by rw [bne_iff_ne]; exact h0
          go_wp2_with fail
          refine (hfin'.out _ Q5.out).mono ?_
          rintro e w7 ⟨rfl, hb7⟩
          have Q7 := hid hb7
          clear hb7
          go_wp2_with fail
          go_ret
          exact ⟨rfl, Q7.out⟩

end Go.Proofs.YtelphkhacadfaaaGreat
