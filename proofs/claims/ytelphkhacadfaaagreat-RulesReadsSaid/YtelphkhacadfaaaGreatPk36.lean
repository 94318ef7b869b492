/-
  The document's own reader of policies: decl, kind 0.
  The document's own reader of policies: decl, whatever comes.
  The walk of the document's own Place.
  The walks of the lexer's reference: number, Place, skip.
-/
import Derived.Test.YtelphkhacadfaaaGreatPk30
import Derived.Test.YtelphkhacadfaaaGreatPk31
import Derived.Test.YtelphkhacadfaaaGreatPk32
import Derived.Test.YtelphkhacadfaaaGreatPk33
import Derived.Test.YtelphkhacadfaaaGreatPk34
import Derived.Test.YtelphkhacadfaaaGreatPk35
import Derived.Test.YtelphkhacadfaaaGreatPk03
import Derived.Test.YtelphkhacadfaaaGreatPk09
import Derived.Test.YtelphkhacadfaaaGreatPk23

namespace Go.Proofs.YtelphkhacadfaaaGreat
open Go.RowKit Go.Sort

set_option maxRecDepth 100000 in
set_option maxHeartbeats 8000000 in
theorem rrdecl_0 {w0 w : World} {L : Value} {T : List Lx.Tok} {st : Po.St} (e : Nat × Nat) (h : RRd w0 L T st) (hw0 : Below w0.heap.size w0 w) (hk7 : Po.kU T st 7 = 0) :
    Calls Tryz.prog 14 #[.agg (rdArr L e st)] w fun en w' => DcBack w0 T e (Po.rdS T e st) (Po.rdV T e st) w.heap.size w' en ∧ Below w.heap.size w w' := by
  have hs := hid (show Po.rdS T e st = Po.wrong T e st by unfold Po.rdS; rw [if_pos hk7])
  have hv := hid (show Po.rdV T e st = Po.declAt T e st 0 by unfold Po.rdV; rw [if_pos hk7])
  have hk7' := hid hk7
  clear hk7
  have z1 := balloc w (.cells (rdArr L e st) 48)
  have z2 := balloc (w.alloc (.cells (rdArr L e st) 48)) (.cells zeroR 48)
  have z3 := balloc ((w.alloc (.cells (rdArr L e st) 48)).alloc (.cells zeroR 48)) (.cells #[.int .i64 0, .string ⟨#[]⟩, .int .i64 0, .slice none 0 0, .bool false, .string ⟨#[]⟩, .int .i64 0, .int .i64 0, .int .i64 0, .int .i64 0, .int .i64 0, .bool false, .string ⟨#[]⟩, .int .i64 0, .int .i64 0, .int .i64 0, .bool false, .string ⟨#[]⟩, .int .i64 0, .int .i64 0, .int .i64 0, .int .i64 0, .int .i64 0, .int .i64 0] 39)
  have A1 := hid (((Blk.new w (rdArr L e st) 48).ext z2).ext z3)
  have A2 := hid ((Blk.newAt (w := w.alloc (.cells (rdArr L e st) 48)) (k := w.heap.size + 1) (by simp) zeroR 48).ext z3)
  have A3 := hid (Blk.newAt (w := (w.alloc (.cells (rdArr L e st) 48)).alloc (.cells zeroR 48)) (k := w.heap.size + 1 + 1) (by simp) #[.int .i64 0, .string ⟨#[]⟩, .int .i64 0, .slice none 0 0, .bool false, .string ⟨#[]⟩, .int .i64 0, .int .i64 0, .int .i64 0, .int .i64 0, .int .i64 0, .bool false, .string ⟨#[]⟩, .int .i64 0, .int .i64 0, .int .i64 0, .bool false, .string ⟨#[]⟩, .int .i64 0, .int .i64 0, .int .i64 0, .int .i64 0, .int .i64 0, .int .i64 0] 39)
  have A4 := hid (bthen (bthen z1 z2) z3)
  have hw0' := hid hw0
  have h' := hid h
  clear z1 z2 z3 h hw0
  unfold zeroR at *
  go_enter Tryz.func14, Tryz.ntmps14
  go_upto_region 1 with (fail)
  generalize hW : ((w.alloc _).alloc _).alloc _ = wx at *
  clear hW
  go_wp2_with (first | (refine wpList_load_blk rfl 48 (.tmp 1) rfl 8 rfl w.heap.size 48 (rdArr L e st) (A1.out) rfl Tryz.underlying48 rfl (by kernel_rfl) ?_))
  refine (rrplace_any e h'.out (bthen hw0'.out A4.out)).mono ?_
  rintro en w1 ⟨rfl, hb1⟩
  obtain ⟨pl, pc, hpl⟩ : ∃ pl pc : Nat, Po.place T e st = (pl, pc) := ⟨_, _, rfl⟩
  have hda : Hid (∀ k, Po.declAt T e st k = { Po.zeroDecl with kind := k, line := pl, col := pc }) := hid (fun k => by unfold Po.declAt; rw [hpl])
  rw [hpl]
  clear hpl
  simp only
  have hz := balloc w1 (.cells (declCells { Po.zeroDecl with kind := 0, line := pl, col := pc } (.slice none 0 0)) 39)
  have B1 := hid ((A1.out.ext hb1).ext hz)
  have B2 := hid ((A2.out.ext hb1).ext hz)
  have B3 := hid ((A3.out.ext hb1).ext hz)
  have B4 := hid (bthen (bthen A4.out hb1) hz)
  have B5 := hid (Blk.new w1 (declCells { Po.zeroDecl with kind := 0, line := pl, col := pc } (.slice none 0 0)) 39)
  have B6 := hid (show w.heap.size + 1 + 1 < w1.heap.size from Nat.lt_of_lt_of_le A3.out.lt hb1.size)
  clear hz hb1 A1 A2 A3 A4
  go_upto_region 2 with (first | (refine wpList_buildTo rfl 39 #[(10, .tmp 9)] rfl (some 10) rfl (declCells { Po.zeroDecl with kind := 0, line := pl, col := pc } (.slice none 0 0)) (by kernel_rfl) ?_) | (refine wpList_store_new rfl 39 (.tmp 4) (.tmp 10) rfl rfl w1 39 _ (declCells { Po.zeroDecl with kind := 0, line := pl, col := pc } (.slice none 0 0)) rfl rfl rfl (by kernel_rfl) rfl (declCells_one _ rfl) ?_))
  generalize w1.alloc (.cells (declCells { Po.zeroDecl with kind := 0, line := pl, col := pc } (.slice none 0 0)) 39) = w2 at *
  generalize w1.heap.size = b4 at *
  go_wp2_with fail
  refine (rrwords_any _).mono ?_
  rintro en w3 ⟨⟨rfl, X3⟩, hb3⟩
  have S0 := hid (show DcB w0 w T e b4 w2.heap.size dwordsArr 9 (.slice none 0 0) L st { Po.zeroDecl with kind := 0, line := pl, col := pc } w3 from
    ⟨B1.out.ext hb3, h'.out, B2.out.ext hb3, B3.out.ext hb3, B5.out.ext hb3, X3, bthen B4.out hb3, B6.out, B5.out.lt⟩)
  clear X3 hb3 B1 B2 B3 B4 B5 B6
  generalize w2.heap.size = b5 at *
  go_wp2_with fail
  go_loopg [6] 6 (fun g u wr => ∃ k : Nat, u = .int .i64 k ∧ k + g = 7 ∧ 0 < k ∧ DcB w0 w T e b4 b5 dwordsArr 9 (.slice none 0 0) L st { Po.zeroDecl with kind := (Po.kU T st k : Nat), line := pl, col := pc } wr)
  case atStart => exact ⟨1, rfl, rfl, by decide, by rw [Po.kU_one]; exact S0.out⟩
  case round =>
    obtain ⟨k, rfl, hk, hkp, hS⟩ := hrel
    have S1 := hid hS
    clear hS S0
    by_cases hk7 : k < 7
    · have k0 : (0 : Int) ≤ k := by omega
      have k7 : (k : Int) < 7 := by omega
      obtain ⟨lp, ln, lc, rfl, _⟩ := h'.out.row
      have hSd := S1.out.six (dwordsArr_at hk7)
      have hSx : wr.drew.cell? ⟨w.heap.size, 0, none⟩ = _ ∧ _ := hSd
      obtain ⟨g', rfl⟩ : ∃ g', gk = g' + 1 := ⟨gk - 1, by omega⟩
      have hSd' := hid hSd
      clear hSd
      go_upto_region 6 with (fail)
      have hSd := hSd'.out
      cases his : Po.is T (Po.wordB k).data.toList st with
      | true =>
        have his' := hid his.symm
        have hkU := hid (Po.kU_yes his hkp)
        clear his
        go_region_held3 (fun w' => w'.cell? ⟨w.heap.size, 0, none⟩ = some (.slice lp ln lc) ∧ w'.cell? ⟨w.heap.size, 1, none⟩ = some (.int .i64 e.1) ∧ w'.cell? ⟨w.heap.size, 1 + 1, none⟩ = some (.int .i64 e.2) ∧ w'.cell? ⟨w.heap.size, 1 + 1 + 1, none⟩ = some (.int .i64 st.f.1) ∧ w'.cell? ⟨w.heap.size, 1 + 1 + 1 + 1, none⟩ = some (.int .i64 st.f.2.1) ∧ w'.cell? ⟨w.heap.size, 1 + 1 + 1 + 1 + 1, none⟩ = some (.int .i64 st.f.2.2) ∧ w'.cell? ⟨b5, k, none⟩ = some (.string (Po.wordB k))) (first | with_reducible assumption | go_keep) (first
          | ((go_at_call 31
              refine (rris_c (w := wr.drew) e h'.out (bthen hw0'.out S1.out.bel.drew) (Po.wordB k) true his'.out).mono ?_
              rintro en w5 ⟨rfl, hb5⟩
              have S2 := hid (S1.out.ext (bthen (Below.refl _ wr).drew hb5))
              have S3 := S2.out.six (dwordsArr_at hk7)
              clear hb5)))
        clear hSd hSx S3
        have d0 := S2.out.dd.cell 0 (v := .int .i64 (Po.kU T st k : Nat)) rfl
        have df := S2.out.dd.free
        have dl := S2.out.dd.lt
        go_wp2_with fail
        go_roundg g'
        case measure => omega
        case rel =>
          refine ⟨k + 1, by go_num, by omega, by omega, ?_⟩
          rw [hkU.out]
          exact S2.out.setD 0 (.int .i64 k) rfl
      | false =>
        have his' := hid his.symm
        have hkU := hid (Po.kU_no his)
        clear his
        go_region_held3 (fun w' => w'.cell? ⟨w.heap.size, 0, none⟩ = some (.slice lp ln lc) ∧ w'.cell? ⟨w.heap.size, 1, none⟩ = some (.int .i64 e.1) ∧ w'.cell? ⟨w.heap.size, 1 + 1, none⟩ = some (.int .i64 e.2) ∧ w'.cell? ⟨w.heap.size, 1 + 1 + 1, none⟩ = some (.int .i64 st.f.1) ∧ w'.cell? ⟨w.heap.size, 1 + 1 + 1 + 1, none⟩ = some (.int .i64 st.f.2.1) ∧ w'.cell? ⟨w.heap.size, 1 + 1 + 1 + 1 + 1, none⟩ = some (.int .i64 st.f.2.2) ∧ w'.cell? ⟨b5, k, none⟩ = some (.string (Po.wordB k))) (first | with_reducible assumption | go_keep) (first
          | ((go_at_call 31
              refine (rris_c (w := wr.drew) e h'.out (bthen hw0'.out S1.out.bel.drew) (Po.wordB k) false his'.out).mono ?_
              rintro en w5 ⟨rfl, hb5⟩
              have S2 := hid (S1.out.ext (bthen (Below.refl _ wr).drew hb5))
              have S3 := S2.out.six (dwordsArr_at hk7)
              clear hb5)))
        clear hSd hSx S3
        go_wp2_with fail
        go_roundg g'
        case measure => omega
        case rel =>
          refine ⟨k + 1, by go_num, by omega, by omega, ?_⟩
          rw [hkU.out]
          exact S2.out
    · obtain rfl : k = 7 := by omega
      clear hk7
      rw [hk7'.out] at S1
      have S0 := hid (show DcB w0 w T e b4 b5 dwordsArr 9 (.slice none 0 0) L st { Po.zeroDecl with kind := 0, line := pl, col := pc } wr from S1.out)
      clear S1
      have d0 := S0.out.dd.cell 0 (v := .int .i64 0) rfl
      go_upto_region 9 with (fail)
      clear d0
      have hbe := hid (show (Po.declAt T e st 0).boxes = [] from rfl)
      have e9 := hid (show { Po.zeroDecl with kind := 0, line := pl, col := pc } = Po.rdV T e st by rw [hv.out, hda.out])
      rw [e9.out] at S0
      clear e9
      obtain ⟨dq, hdq⟩ : ∃ d : Po.Decl, Po.rdV T e st = d := ⟨_, rfl⟩
      obtain ⟨sq, hsq⟩ : ∃ s : Po.St, Po.rdS T e st = s := ⟨_, rfl⟩
      have hbx := hid (show dq.boxes = [] by rw [← hdq, hv.out]; exact hbe.out)
      rw [hdq] at S0
      rw [hsq] at hs
      have hdq' := hid hdq
      have hsq' := hid hsq
      clear hdq hsq
      obtain ⟨o1, o2⟩ := S0.out.ord
      have X := hid (Blk.drew S0.out.rd)
      have Y := hid (Blk.drew S0.out.dd)
      have A := hid (Blk.drew S0.out.r2)
      have F := hid (Blk.drew S0.out.r3)
      have bel := hid (S0.out.bel.drew)
      have PQ := hid S0.out.rr
      have geA : w.heap.size ≤ w.heap.size + 1 := by omega
      have geF : w.heap.size ≤ w.heap.size + 1 + 1 := by omega
      clear S0
      refine wp_region_noPanic ?_
      refine wp_region_held_drew (S := (fun w' => w'.rangeAt w.heap.size 0 (rdArr L e st).toList ∧ w'.rangeAt b4 0 (declCells dq (.slice none 0 0)).toList)) (by kernel_rfl) (⟨X.out.rngr, Y.out.rngr⟩) (fun hHeld => ?_)
      generalize wr.drew = W0 at *
      refine wpAnyH_take (i := 0) (oi := _) (v := .agg (rdArr L e st)) rfl (by kernel_rfl) (by kernel_rfl) (by kernel_rfl) (fun _ _ _ h => h) (yieldsIf_load_mid (by rfl) 48 (.tmp 1) rfl w.heap.size 0 rfl (rdArr L e st).toList _ (fun _ h => h.1) Tryz.underlying48 rfl (by kernel_rfl)) (by assumption) ?_
      try simp only [Array.reduceGetElem, Act.put, List.setIfInBounds_toArray, List.set_cons_zero, List.set_cons_succ]
      refine wpAnyH_take (i := 2) (oi := _) (v := .agg (declCells dq (.slice none 0 0))) rfl (by kernel_rfl) (by kernel_rfl) (by kernel_rfl) (fun _ _ _ h => h) (yieldsIf_load_mid (by rfl) 39 (.tmp 4) rfl b4 0 rfl (declCells dq (.slice none 0 0)).toList _ (fun _ h => h.2) Tryz.underlying39 rfl (by kernel_rfl)) (by assumption) ?_
      try simp only [Array.reduceGetElem, Act.put, List.setIfInBounds_toArray, List.set_cons_zero, List.set_cons_succ]
      refine wpAnyH_ready (rs := [1]) (by kernel_rfl) (by simp) ?_
      refine AllReadyH.cons (o := _) rfl (fun K hK => ?_) ?_
      · dsimp only [Array.reduceGetElem] at hK ⊢
        go_simp
        refine (rrwrong_any e PQ.out (bthen hw0'.out bel.out)).mono ?_
        rintro en w9 ⟨⟨L9, rfl, P9⟩, hb⟩
        rw [← hs.out] at P9 ⊢
        have P9' := hid P9
        clear P9
        have X' := hid (X.out.ext hb)
        have Y' := hid (Y.out.ext hb)
        have A' := hid (A.out.ext hb)
        have F' := hid (F.out.ext hb)
        have bel' := hid (bthen bel.out hb)
        clear X
        have X := X'
        clear X'
        clear Y
        have Y := Y'
        clear Y'
        clear A
        have A := A'
        clear A'
        clear F
        have F := F'
        clear F'
        clear bel hb
        have bel := bel'
        clear bel'
        go_wp2_with fail
        refine hK.out _ _ ?_ (fun hHeld => ?_)
        · exact ⟨X.out.rngr, Y.out.rngr⟩
        clear hK K
        try simp only [Array.reduceGetElem, Act.put, List.setIfInBounds_toArray, List.set_cons_zero, List.set_cons_succ]
        refine wpAnyH_ready (rs := [3]) (by kernel_rfl) (by simp) ?_
        refine AllReadyH.cons (o := _) rfl (fun K hK => ?_) ?_
        · dsimp only [Array.reduceGetElem] at hK ⊢
          rw [if_pos (by rfl)]
          refine wp_store_row 48 (.tmp 2) (.tmp 30) rfl (w.heap.size + 1) (rdArr L9 e sq) rfl rfl 48 _ A.out (by kernel_rfl) rfl (rdArr_one P9'.out e _) ?_
          have X' := hid (X.out.setRowOther (k := (w.heap.size + 1)) (cs' := rdArr L9 e sq) (by omega))
          have Y' := hid (Y.out.setRowOther (k := (w.heap.size + 1)) (cs' := rdArr L9 e sq) (by omega))
          have A' := hid (A.out.setRow (rdArr L9 e sq))
          have F' := hid (F.out.setRowOther (k := (w.heap.size + 1)) (cs' := rdArr L9 e sq) (by omega))
          have bel' := hid (below_setRow bel.out geA (rdArr L9 e sq))
          clear X
          have X := X'
          clear X'
          clear Y
          have Y := Y'
          clear Y'
          clear A
          have A := A'
          clear A'
          clear F
          have F := F'
          clear F'
          clear bel
          have bel := bel'
          clear bel'
          generalize W0.setRow (w.heap.size + 1) (rdArr L9 e sq) = W2 at *
          refine hK.out _ _ ?_ (fun hHeld => ?_)
          · exact ⟨X.out.rngr, Y.out.rngr⟩
          clear hK K
          try simp only [Act.put]
          refine wpAnyH_ready (rs := [4]) (by kernel_rfl) (by simp) ?_
          refine AllReadyH.cons (o := _) rfl (fun K hK => ?_) ?_
          · dsimp only [Array.reduceGetElem] at hK ⊢
            rw [if_pos (by rfl)]
            refine wp_store_row 39 (.tmp 3) (.tmp 31) rfl (w.heap.size + 1 + 1) (declCells dq (.slice none 0 0)) rfl rfl 39 _ F.out (by kernel_rfl) rfl (declCells_one _ rfl) ?_
            have X' := hid (X.out.setRowOther (k := (w.heap.size + 1 + 1)) (cs' := declCells dq (.slice none 0 0)) (by omega))
            have Y' := hid (Y.out.setRowOther (k := (w.heap.size + 1 + 1)) (cs' := declCells dq (.slice none 0 0)) (by omega))
            have A' := hid (A.out.setRowOther (k := (w.heap.size + 1 + 1)) (cs' := declCells dq (.slice none 0 0)) (by omega))
            have F' := hid (F.out.setRow (declCells dq (.slice none 0 0)))
            have bel' := hid (below_setRow bel.out geF (declCells dq (.slice none 0 0)))
            clear X
            have X := X'
            clear X'
            clear Y
            have Y := Y'
            clear Y'
            clear A
            have A := A'
            clear A'
            clear F
            have F := F'
            clear F'
            clear bel
            have bel := bel'
            clear bel'
            generalize W2.setRow (w.heap.size + 1 + 1) (declCells dq (.slice none 0 0)) = W3 at *
            refine hK.out _ _ ?_ (fun hHeld => ?_)
            · exact ⟨X.out.rngr, Y.out.rngr⟩
            clear hK K
            try simp only [Act.put]
            refine wpAnyH_done (by kernel_rfl) ?_ _
            refine NoPanic.normal ?_
            go_wp2_with fail
            exact bodyPost_ret (v := .tuple #[.agg (rdArr L9 e sq), .agg (declCells dq (.slice none 0 0))]) (results_blk2 (p := 2) (q := 3) (ty := 48) (tz := 39) rfl _ _ (w.heap.size + 1) 48 _ (w.heap.size + 1 + 1) 39 _ rfl rfl A.out F.out Tryz.underlying48 rfl (by kernel_rfl) Tryz.underlying39 rfl (by kernel_rfl)) rfl ⟨⟨L9, (.slice none 0 0), by rw [hdq'.out, hsq'.out], by rw [hsq'.out]; exact P9'.out, by rw [hdq'.out, hbx.out]; exact Row.nil _ _, fun k hk => by cases hk⟩, bel.out⟩
          exact AllReadyH.nil
        exact AllReadyH.nil
      exact AllReadyH.nil

end Go.Proofs.YtelphkhacadfaaaGreat

namespace Go.Proofs.YtelphkhacadfaaaGreat
open Go.RowKit Go.Sort

theorem Po.kU_le (T : List Lx.Tok) (st : Po.St) : ∀ n : Nat, Po.kU T st (n + 1) ≤ n
  | 0 => by rw [Po.kU_one]; exact Nat.le_refl _
  | n + 1 => by
    rw [Po.kU]
    split
    · exact Nat.le_refl _
    · exact Nat.le_succ_of_le (Po.kU_le T st n)
theorem rrdecl_any {w0 w : World} {L : Value} {T : List Lx.Tok} {st : Po.St} (e : Nat × Nat) (h : RRd w0 L T st) (hw0 : Below w0.heap.size w0 w) :
    Calls Tryz.prog 14 #[.agg (rdArr L e st)] w fun en w' => DcBack w0 T e (Po.rdS T e st) (Po.rdV T e st) w.heap.size w' en ∧ Below w.heap.size w w' := by
  have h6 : Po.kU T st 7 ≤ 6 := Po.kU_le T st 6
  have hc : Po.kU T st 7 = 0 ∨ Po.kU T st 7 = 1 ∨ Po.kU T st 7 = 2 ∨ Po.kU T st 7 = 3 ∨ Po.kU T st 7 = 4 ∨ Po.kU T st 7 = 5 ∨ Po.kU T st 7 = 6 := by omega
  rcases hc with hc | hc | hc | hc | hc | hc | hc
  · exact rrdecl_0 e h hw0 hc
  · exact rrdecl_1 e h hw0 hc
  · exact rrdecl_2 e h hw0 hc
  · exact rrdecl_3 e h hw0 hc
  · exact rrdecl_4 e h hw0 hc
  · exact rrdecl_5 e h hw0 hc
  · exact rrdecl_6 e h hw0 hc

end Go.Proofs.YtelphkhacadfaaaGreat

namespace Go.Proofs.YtelphkhacadfaaaGreat
open Go.RowKit Go.Sort

set_option maxHeartbeats 1000000 in
theorem rplace_any (s : ByteArray) (a : Int) (w : World) (h0 : 0 ≤ a) (h1 : a ≤ s.size) (hs : s.size ≤ 140737488355328) :
    Calls Tryz.prog 13 #[.string s, .int .i64 a] w fun e w' =>
      e = .returned (.agg #[.int .i64 (Lx.posOf (s.data.toList.take a.toNat)).1, .int .i64 (Lx.posOf (s.data.toList.take a.toNat)).2]) ∧ Below w.heap.size w w' := by
  obtain ⟨a, rfl⟩ := Int.eq_ofNat_of_zero_le h0
  rw [Int.toNat_natCast]
  have ha : a ≤ s.size := by omega
  have hn2 := Nat.le_refl w.heap.size
  have hn1 : w.heap.size ≤ w.heap.size + 1 := by omega
  clear h0 h1
  go_enter Tryz.func13, Tryz.ntmps13
  go_wp2_with fail
  go_loopw [6] (fun u wr => ∃ k : Nat, k ≤ a ∧ u = .int .i64 k ∧ Blk wr w.heap.size #[.int .i64 0, .int .i64 0] 25 ∧ Blk wr (w.heap.size + 1) #[.int .i64 (Lx.posOf (s.data.toList.take k)).1, .int .i64 (Lx.posOf (s.data.toList.take k)).2] 25 ∧ Below w.heap.size w wr) (fun u _ => a - (intOf u).toNat)
  case atStart => exact ⟨0, Nat.zero_le _, rfl, (Blk.new w _ _).alloc _, Blk.newAt (by simp) _ _, (balloc w _).alloc (by simp) _⟩
  case round =>
    obtain ⟨k, hk, rfl, hB, hP, hQ⟩ := hrel
    have hB' := hid hB
    have hP' := hid hP
    have hQ' := hid hQ
    clear hB hP hQ
    by_cases hlt : k < a
    · have hlt2 : k < s.size := by omega
      have hp := Lx.posOf_le (s.data.toList.take k)
      rw [List.length_take, list_len] at hp
      have hq := hid (Lx.posOf_succ (L := s.data.toList) (i := k) (by simpa using hlt2))
      generalize hg : Lx.posOf (s.data.toList.take k) = p at *
      obtain ⟨line, col⟩ := p
      simp only at hp
      clear hg
      obtain ⟨c0, c1, cf, cz⟩ := hP'.out.two
      cases h10 : ((s[k].toNat : Int) == 10) with
      | true =>
        have e : s[k] = 10 := by rw [← u8_eq 10 10 rfl] at h10; simpa using h10
        go_wp2_with fail
        go_roundw
        case rel =>
          refine ⟨k + 1, by omega, by go_num, ?_, ?_, ?_⟩
          · simp only [Blk.setOther_iff (show w.heap.size ≠ w.heap.size + 1 by omega)]; exact hB'.out
          · rw [hq.out, list_get _ _ hlt2]
            simp only [Lx.adv, e, if_true]
            exact ((hP'.out.set 1 _).set 0 _).set 1 _
          · exact (by simp only [below_setNew_iff hn1]; exact hQ'.out)
        case measure => simp [intOf]; omega
      | false =>
        have e : ¬ s[k] = 10 := by rw [← u8_eq 10 10 rfl] at h10; simpa using h10
        go_wp2_with fail
        go_roundw
        case rel =>
          refine ⟨k + 1, by omega, by go_num, ?_, ?_, ?_⟩
          · simp only [Blk.setOther_iff (show w.heap.size ≠ w.heap.size + 1 by omega)]; exact hB'.out
          · rw [hq.out, list_get _ _ hlt2]
            simp only [Lx.adv, e, if_false]
            exact hP'.out.set 1 _
          · exact (by simp only [below_setNew_iff hn1]; exact hQ'.out)
        case measure => simp [intOf]; omega
    · obtain rfl : k = a := by omega
      obtain ⟨c0, c1, cf, cz⟩ := hP'.out.two
      obtain ⟨d0, d1, df, dz⟩ := hB'.out.two
      go_wp2_with fail
      exact bodyPost_ret (v := .agg #[.int .i64 (Lx.posOf (s.data.toList.take k)).1, .int .i64 (Lx.posOf (s.data.toList.take k)).2]) (by simp [results, Tryz.results13, go_sem, d0, d1]) rfl ⟨rfl, (by simp only [below_setNew_iff hn2]; exact hQ'.out)⟩

theorem rplace_nat (s : ByteArray) (a : Nat) (w : World) (h1 : a ≤ s.size) (hs : s.size ≤ 140737488355328) :
    Calls Tryz.prog 13 #[.string s, .int .i64 a] w fun e w' => e = .returned (.agg #[.int .i64 (Lx.posOf (s.data.toList.take a)).1, .int .i64 (Lx.posOf (s.data.toList.take a)).2]) ∧ Below w.heap.size w w' :=
  (rplace_any s a w (by omega) (by omega) hs).mono fun _ _ h => h

end Go.Proofs.YtelphkhacadfaaaGreat

namespace Go.Proofs.YtelphkhacadfaaaGreat
open Go.RowKit Go.Sort

theorem acc_go {s : ByteArray} {k : Nat} (hk : k < s.size) (hd : 48 ≤ s[k].toNat) : (10 * (Lx.numAcc 0 (s.data.toList.take k) : Int) + s[k].toNat - 48) = (Lx.numAcc 0 (s.data.toList.take (k + 1)) : Nat) := by
  rw [Lx.numAcc_succ (by simpa using hk), list_get _ _ hk]
  omega
theorem acc_bound {s : ByteArray} (hd : ∀ (k : Nat) (hk : k < s.size), Lx.digit s[k] = true) (k : Nat) (hk : k ≤ 5) : Lx.numAcc 0 (s.data.toList.take k) ≤ 100000 := by
  have h := numAcc_lt (s.data.toList.take k) 0 (by
    intro c hc
    have hm := List.mem_of_mem_take hc
    obtain ⟨j, hj, rfl⟩ := List.getElem_of_mem hm
    have h1 : j < s.size := by simpa using hj
    have := hd j h1
    rw [digit_eq] at this
    simp only [Bool.and_eq_true, decide_eq_true_eq] at this
    rw [list_get s j h1]
    omega)
  have h2 : 10 ^ (s.data.toList.take k).length ≤ 10 ^ 5 := Nat.pow_le_pow_right (by omega) (by rw [List.length_take]; omega)
  omega

set_option maxHeartbeats 1000000 in
theorem rnumber_any (s : ByteArray) (w : World) (hd : ∀ (k : Nat) (hk : k < s.size), Lx.digit s[k] = true) (hs : s.size ≤ 140737488355328) :
    Calls Tryz.prog 71 #[.string s] w fun e w' => e = .returned (.int .i64 (rnum s.data.toList)) ∧ w = w' := by
  have hd' := hid hd
  clear hd
  by_cases hz : (1 < s.data.toList.length ∧ s.data.toList.head? = some 48) ∨ 5 < s.data.toList.length
  · have e1 := hid (show rnum s.data.toList = 65536 by unfold rnum; rw [if_pos hz])
    have hh : (∃ h : 1 < s.size, ((s[0].toNat : Int) == 48) = true) ∨ ((decide ((1 : Int) < s.size) = false ∨ ∃ h : 1 < s.size, ((s[0].toNat : Int) == 48) = false) ∧ 5 < s.size) := by
      by_cases h1 : 1 < s.size
      · cases h48 : ((s[0].toNat : Int) == 48) with
        | true => exact Or.inl ⟨h1, h48⟩
        | false =>
          refine Or.inr ⟨Or.inr ⟨h1, h48⟩, ?_⟩
          rcases hz with hz | hz
          · have := hz.2; rw [head_eq s (by omega)] at this; rw [← u8_eq 48 48 rfl] at h48; rw [Option.some.inj this] at h48; cases h48
          · simpa using hz
      · refine Or.inr ⟨Or.inl (decide_eq_false (by omega)), ?_⟩
        rcases hz with hz | hz
        · have := hz.1; simp at this; omega
        · simpa using hz
    clear hz
    rcases hh with ⟨h1, h48⟩ | ⟨h1 | ⟨h1, h48⟩, h5⟩
    all_goals
      go_enter Tryz.func71, Tryz.ntmps71
      go_wp2_with fail
      go_ret
      rw [e1.out]
      exact ⟨rfl, rfl⟩
  · have e1 := hid (show rnum s.data.toList = Lx.numAcc 0 s.data.toList by unfold rnum; rw [if_neg hz])
    have h5 : s.size ≤ 5 := by
      have : ¬ 5 < s.data.toList.length := fun h => hz (Or.inr h)
      rw [list_len] at this; omega
    have hh : decide ((1 : Int) < s.size) = false ∨ ∃ h : 1 < s.size, ((s[0].toNat : Int) == 48) = false := by
      by_cases h1 : 1 < s.size
      · refine Or.inr ⟨h1, ?_⟩
        rw [← u8_eq 48 48 rfl]
        have : ¬ s[0] = 48 := fun e => hz (Or.inl ⟨by simpa using h1, by rw [head_eq s (by omega), e]⟩)
        simpa using this
      · exact Or.inl (decide_eq_false (by omega))
    clear hz
    rcases hh with h1 | ⟨h1, h48⟩
    all_goals
      go_enter Tryz.func71, Tryz.ntmps71
      go_wp2_with fail
      go_loop [3, 4] (fun n i => ∃ k : Nat, k ≤ s.size ∧ i = .int .i64 k ∧ n = .int .i64 ((Lx.numAcc 0 (s.data.toList.take k) : Nat) : Int)) (fun _ i => s.size - (intOf i).toNat)
      case atStart => exact ⟨0, Nat.zero_le _, rfl, rfl⟩
      case round =>
        obtain ⟨k, hk, rfl, rfl⟩ := hrel
        by_cases hlt : k < s.size
        · have hdk := hd'.out k hlt
          rw [digit_eq] at hdk
          simp only [Bool.and_eq_true, decide_eq_true_eq] at hdk
          obtain ⟨hd1, hd2⟩ := hdk
          have hgo := hid (acc_go hlt (by omega))
          have hm := acc_bound hd'.out k (by omega)
          generalize hmm : Lx.numAcc 0 (s.data.toList.take k) = m at *
          clear hmm
          go_wp2_with fail
          go_round
          case rel => exact ⟨k + 1, by omega, by go_num, by rw [← hgo.out]⟩
          case measure => simp [intOf]; omega
        · obtain rfl : k = s.size := by omega
          have hf := hid (show s.data.toList.take s.size = s.data.toList from List.take_of_length_le (by simp))
          go_wp2_with fail
          go_ret
          rw [e1.out, hf.out]
          exact ⟨rfl, rfl⟩

/-- how far the skipping has come; the Bool: in a remark -/
def Skipping (L : Lx.Bytes) (i a : Nat) (rm : Bool) : Prop := i ≤ a ∧ a ≤ L.length ∧ a + Lx.skipN rm (L.drop a) = i + Lx.skipN false (L.drop i)
theorem Skipping.begin {L : Lx.Bytes} {i : Nat} (h : i ≤ L.length) : Skipping L i i false := ⟨Nat.le_refl _, h, rfl⟩
theorem Skipping.rm {s : ByteArray} {i a : Nat} (h : Skipping s.data.toList i a true) (hlt : a < s.size) : Skipping s.data.toList i (a + 1) (s[a] != 10) := by
  obtain ⟨h1, h2, h3⟩ := h
  refine ⟨by omega, by simp; omega, ?_⟩
  rw [Lx.drop_cons (show a < s.data.toList.length by simpa using hlt)] at h3
  simp only [Lx.skipN, list_get s a hlt] at h3
  omega
theorem Skipping.hash {s : ByteArray} {i a : Nat} (h : Skipping s.data.toList i a false) (hlt : a < s.size) (hc : (s[a] == 35) = true) : Skipping s.data.toList i (a + 1) true := by
  obtain ⟨h1, h2, h3⟩ := h
  refine ⟨by omega, by simp; omega, ?_⟩
  rw [Lx.drop_cons (show a < s.data.toList.length by simpa using hlt)] at h3
  simp only [Lx.skipN, list_get s a hlt, hc, if_true] at h3
  omega
theorem Skipping.blank {s : ByteArray} {i a : Nat} (h : Skipping s.data.toList i a false) (hlt : a < s.size) (hc : (s[a] == 35) = false) (hb : Lx.blank s[a] = true) : Skipping s.data.toList i (a + 1) false := by
  obtain ⟨h1, h2, h3⟩ := h
  refine ⟨by omega, by simp; omega, ?_⟩
  rw [Lx.drop_cons (show a < s.data.toList.length by simpa using hlt)] at h3
  simp only [Lx.skipN, list_get s a hlt, hc, hb, if_true, Bool.false_eq_true, if_false] at h3
  omega
theorem Skipping.stop {s : ByteArray} {i a : Nat} (h : Skipping s.data.toList i a false) (hlt : a < s.size) (hc : (s[a] == 35) = false) (hb : Lx.blank s[a] = false) : i + Lx.skipN false (s.data.toList.drop i) = a := by
  obtain ⟨h1, h2, h3⟩ := h
  rw [Lx.drop_cons (show a < s.data.toList.length by simpa using hlt)] at h3
  simp only [Lx.skipN, list_get s a hlt, hc, hb, Bool.false_eq_true, if_false] at h3
  omega
theorem Skipping.over {s : ByteArray} {i a : Nat} {rm : Bool} (h : Skipping s.data.toList i a rm) (hlt : ¬ a < s.size) : i + Lx.skipN false (s.data.toList.drop i) = a := by
  obtain ⟨h1, h2, h3⟩ := h
  rw [List.drop_eq_nil_of_le (show s.data.toList.length ≤ a by simp; omega)] at h3
  cases rm <;> simp only [Lx.skipN] at h3 <;> omega

set_option maxHeartbeats 2000000 in
theorem rskip_any (s : ByteArray) (i : Int) (w : World) (h0 : 0 ≤ i) (h1 : i ≤ s.size) (hs : s.size ≤ 140737488355328) :
    Calls Tryz.prog 27 #[.string s, .int .i64 i] w fun e w' =>
      e = .returned (.int .i64 (i.toNat + Lx.skipN false (s.data.toList.drop i.toNat) : Nat)) ∧ w = w' := by
  obtain ⟨i, rfl⟩ := Int.eq_ofNat_of_zero_le h0
  rw [Int.toNat_natCast]
  have hi : i ≤ s.size := by omega
  clear h0 h1
  go_enter Tryz.func27, Tryz.ntmps27
  go_wp2_with fail
  go_loop [5, 6] (fun u v => ∃ (a : Nat) (rm : Bool), u = .int .i64 a ∧ v = .bool rm ∧ a ≤ s.size ∧ Skipping s.data.toList i a rm) (fun u _ => s.size - (intOf u).toNat)
  case atStart => exact ⟨i, false, rfl, rfl, hi, Skipping.begin (by simpa using hi)⟩
  case round =>
    obtain ⟨a, rm, rfl, rfl, hle, hk⟩ := hrel
    have hk' := hid hk
    clear hk
    by_cases hlt : a < s.size
    · cases rm with
      | true =>
        have hgo := hid (hk'.out.rm (s := s) hlt)
        rw [u8_neq 10 10 rfl] at hgo
        cases h35 : ((s[a].toNat : Int) == 35) with
        | true =>
          cases h10 : ((s[a].toNat : Int) == 10) with
          | true => simp only [beq_iff_eq] at h35 h10; omega
          | false =>
            have hgo' := hid (show Skipping s.data.toList i (a + 1) true by have := hgo.out; unfold bne at this; rwa [h10] at this)
            clear hgo
            go_wp2_with fail
            go_round
            case rel => exact ⟨a + 1, _, by go_num, rfl, by omega, hgo'.out⟩
            case measure => simp [intOf]; omega
        | false =>
          cases h10 : ((s[a].toNat : Int) == 10) with
          | true =>
            have hgo' := hid (show Skipping s.data.toList i (a + 1) false by have := hgo.out; unfold bne at this; rwa [h10] at this)
            clear hgo
            go_wp2_with fail
            go_round
            case rel => exact ⟨a + 1, _, by go_num, rfl, by omega, hgo'.out⟩
            case measure => simp [intOf]; omega
          | false =>
            have hgo' := hid (show Skipping s.data.toList i (a + 1) true by have := hgo.out; unfold bne at this; rwa [h10] at this)
            clear hgo
            go_wp2_with fail
            go_round
            case rel => exact ⟨a + 1, _, by go_num, rfl, by omega, hgo'.out⟩
            case measure => simp [intOf]; omega
      | false =>
        have hha := hid (fun h => hk'.out.hash (s := s) hlt h)
        have hbl := hid (fun h1 h2 => hk'.out.blank (s := s) hlt h1 h2)
        have hst := hid (fun h1 h2 => hk'.out.stop (s := s) hlt h1 h2)
        rw [blank_eq, u8_eq 35 35 rfl] at hbl hst
        rw [u8_eq 35 35 rfl] at hha
        cases h35 : ((s[a].toNat : Int) == 35) with
        | true =>
          have h32 : ((s[a].toNat : Int) == 32) = false := by rw [beq_eq_false_iff_ne]; rw [beq_iff_eq] at h35; omega
          have h10 : ((s[a].toNat : Int) == 10) = false := by rw [beq_eq_false_iff_ne]; rw [beq_iff_eq] at h35; omega
          go_wp2_with fail
          go_round
          case rel => exact ⟨a + 1, _, by go_num, rfl, by omega, hha.out h35⟩
          case measure => simp [intOf]; omega
        | false =>
          cases h32 : ((s[a].toNat : Int) == 32) with
          | true =>
            have h10 : ((s[a].toNat : Int) == 10) = false := by rw [beq_eq_false_iff_ne]; rw [beq_iff_eq] at h32; omega
            go_wp2_with fail
            go_round
            case rel => exact ⟨a + 1, _, by go_num, rfl, by omega, hbl.out h35 (by rw [h32]; rfl)⟩
            case measure => simp [intOf]; omega
          | false =>
            cases h10 : ((s[a].toNat : Int) == 10) with
            | true =>
              go_wp2_with fail
              go_round
              case rel => exact ⟨a + 1, _, by go_num, rfl, by omega, hbl.out h35 (by rw [h10, Bool.or_true])⟩
              case measure => simp [intOf]; omega
            | false =>
              have hf := hid (hst.out h35 (by rw [h32, h10]; rfl))
              go_wp2_with fail
              go_ret
              exact ⟨ret_int (by have := hf.out; omega), rfl⟩
    · have hd : decide (a < s.size) = false := decide_eq_false hlt
      have hf := hid (hk'.out.over hlt)
      go_wp2_with fail
      go_ret
      exact ⟨ret_int (by have := hf.out; omega), rfl⟩

end Go.Proofs.YtelphkhacadfaaaGreat
