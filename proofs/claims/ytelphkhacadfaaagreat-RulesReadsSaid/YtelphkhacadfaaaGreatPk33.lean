/-
  The document's own reader of policies: decl, kind 3.
-/
import Derived.Test.YtelphkhacadfaaaGreatPk30

namespace Go.Proofs.YtelphkhacadfaaaGreat
open Go.RowKit Go.Sort

set_option maxRecDepth 100000 in
set_option maxHeartbeats 8000000 in
theorem rrdecl_3 {w0 w : World} {L : Value} {T : List Lx.Tok} {st : Po.St} (e : Nat × Nat) (h : RRd w0 L T st) (hw0 : Below w0.heap.size w0 w) (hk7 : Po.kU T st 7 = 3) :
    Calls Tryz.prog 14 #[.agg (rdArr L e st)] w fun en w' => DcBack w0 T e (Po.rdS T e st) (Po.rdV T e st) w.heap.size w' en ∧ Below w.heap.size w w' := by
  have hi := Po.is_of_kU (by decide) hk7
  have hlt := hid (Po.lt_of_is hi)
  have m1 : Po.is T Po.wRole st = false := (Po.is_only hi Po.wRole).trans (by decide)
  have m2 : Po.is T Po.wLabel st = false := (Po.is_only hi Po.wLabel).trans (by decide)
  have m3 : Po.is T Po.wRegion st = true := (Po.is_only hi Po.wRegion).trans (by decide)
  have hdv := hid (show Po.declV T e st = Po.regionV T e (Po.declAt T e st 3) (Po.on st) by unfold Po.declV; rw [if_neg (by rw [m1]; decide), if_neg (by rw [m2]; decide), if_pos m3])
  have hst := hid (show Po.want T e [59] (Po.regionS T e (Po.on st)) = Po.declS T e st by unfold Po.declS; rw [if_neg (by rw [m1]; decide), if_neg (by rw [m2]; decide), if_pos m3])
  clear m1 m2 m3 hi
  have hbe := hid (show (Po.declV T e st).boxes = Po.boxesV T e (Po.want T e [61] (Po.takeSt T e 1 (Po.on st))) by rw [hdv.out]; rfl)
  have hs := hid (show Po.rdS T e st = Po.declS T e st by unfold Po.rdS; rw [if_neg (by rw [hk7]; decide)])
  have hv := hid (show Po.rdV T e st = Po.declV T e st by unfold Po.rdV; rw [if_neg (by rw [hk7]; decide)])
  have hk7' := hid hk7
  clear hk7
  have z1 := balloc w (.cells (rdArr L e st) 48)
  have z2 := balloc (w.alloc (.cells (rdArr L e st) 48)) (.cells zeroR 48)
  have z3 := balloc ((w.alloc (.cells (rdArr L e st) 48)).alloc (.cells zeroR 48)) (.cells #[.int .i64 0, .string ⟨#[]⟩, .int .i64 0, .slice none 0 0, .bool false, .string ⟨#[]⟩, .int .i64 0, .int .i64 0, .int .i64 0, .int .i64 0, .int .i64 0, .bool false, .string ⟨#[]⟩, .int .i64 0, .int .i64 0, .int .i64 0, .bool false, .string ⟨#[]⟩, .int .i64 0, .int .i64 0, .int .i64 0, .int .i64 0, .int .i64 0, .int .i64 0] 39)
  have A1 := hid (((Blk.new w (rdArr L e st) 48).ext z2).ext z3)
  have A2 := hid ((Blk.newAt (w := w.alloc (.cells (rdArr L e st) 48)) (k := w.heap.size + 1) (by simp) zeroR 48).ext z3)
  have A3 := hid (Blk.newAt (w := (w.alloc (.cells (rdArr L e st) 48)).alloc (.cells zeroR 48)) (k := w.heap.size + 1 + 1) (by simp) #[.int .i64 0, .string ⟨#[]⟩, .int .i64 0, .slice none 0 0, .bool false, .string ⟨#[]⟩, .int .i64 0, .int .i64 0, .int .i64 0, .int .i64 0, .int .i64 0, .bool false, .string ⟨#[]⟩, .int .i64 0, .int .i64 0, .int .i64 0, .bool false, .string ⟨#[]⟩, .int .i64 0, .int .i64 0, .int .i64 0, .int .i64 0, .int .i64 0, .int .i64 0] 39)
  have A4 := hid (bthen (bthen z1 z2) z3)
  have hw0' := hid hw0
  have h' := hid h
  clear z1 z2 z3 h hw0
  unfold zeroR at *
  go_enter Tryz.func14, Tryz.ntmps14
  go_upto_region 1 with (fail)
  generalize hW : ((w.alloc _).alloc _).alloc _ = wx at *
  clear hW
  go_wp2_with (first | (refine wpList_load_blk rfl 48 (.tmp 1) rfl 8 rfl w.heap.size 48 (rdArr L e st) (A1.out) rfl Tryz.underlying48 rfl (by kernel_rfl) ?_))
  refine (rrplace_any e h'.out (bthen hw0'.out A4.out)).mono ?_
  rintro en w1 ⟨rfl, hb1⟩
  obtain ⟨pl, pc, hpl⟩ : ∃ pl pc : Nat, Po.place T e st = (pl, pc) := ⟨_, _, rfl⟩
  have hda : Hid (∀ k, Po.declAt T e st k = { Po.zeroDecl with kind := k, line := pl, col := pc }) := hid (fun k => by unfold Po.declAt; rw [hpl])
  rw [hpl]
  clear hpl
  simp only
  have hz := balloc w1 (.cells (declCells { Po.zeroDecl with kind := 0, line := pl, col := pc } (.slice none 0 0)) 39)
  have B1 := hid ((A1.out.ext hb1).ext hz)
  have B2 := hid ((A2.out.ext hb1).ext hz)
  have B3 := hid ((A3.out.ext hb1).ext hz)
  have B4 := hid (bthen (bthen A4.out hb1) hz)
  have B5 := hid (Blk.new w1 (declCells { Po.zeroDecl with kind := 0, line := pl, col := pc } (.slice none 0 0)) 39)
  have B6 := hid (show w.heap.size + 1 + 1 < w1.heap.size from Nat.lt_of_lt_of_le A3.out.lt hb1.size)
  clear hz hb1 A1 A2 A3 A4
  go_upto_region 2 with (first | (refine wpList_buildTo rfl 39 #[(10, .tmp 9)] rfl (some 10) rfl (declCells { Po.zeroDecl with kind := 0, line := pl, col := pc } (.slice none 0 0)) (by kernel_rfl) ?_) | (refine wpList_store_new rfl 39 (.tmp 4) (.tmp 10) rfl rfl w1 39 _ (declCells { Po.zeroDecl with kind := 0, line := pl, col := pc } (.slice none 0 0)) rfl rfl rfl (by kernel_rfl) rfl (declCells_one _ rfl) ?_))
  generalize w1.alloc (.cells (declCells { Po.zeroDecl with kind := 0, line := pl, col := pc } (.slice none 0 0)) 39) = w2 at *
  generalize w1.heap.size = b4 at *
  go_wp2_with fail
  refine (rrwords_any _).mono ?_
  rintro en w3 ⟨⟨rfl, X3⟩, hb3⟩
  have S0 := hid (show DcB w0 w T e b4 w2.heap.size dwordsArr 9 (.slice none 0 0) L st { Po.zeroDecl with kind := 0, line := pl, col := pc } w3 from
    ⟨B1.out.ext hb3, h'.out, B2.out.ext hb3, B3.out.ext hb3, B5.out.ext hb3, X3, bthen B4.out hb3, B6.out, B5.out.lt⟩)
  clear X3 hb3 B1 B2 B3 B4 B5 B6
  generalize w2.heap.size = b5 at *
  go_wp2_with fail
  go_loopg [6] 6 (fun g u wr => ∃ k : Nat, u = .int .i64 k ∧ k + g = 7 ∧ 0 < k ∧ DcB w0 w T e b4 b5 dwordsArr 9 (.slice none 0 0) L st { Po.zeroDecl with kind := (Po.kU T st k : Nat), line := pl, col := pc } wr)
  case atStart => exact ⟨1, rfl, rfl, by decide, by rw [Po.kU_one]; exact S0.out⟩
  case round =>
    obtain ⟨k, rfl, hk, hkp, hS⟩ := hrel
    have S1 := hid hS
    clear hS S0
    by_cases hk7 : k < 7
    · have k0 : (0 : Int) ≤ k := by omega
      have k7 : (k : Int) < 7 := by omega
      obtain ⟨lp, ln, lc, rfl, _⟩ := h'.out.row
      have hSd := S1.out.six (dwordsArr_at hk7)
      have hSx : wr.drew.cell? ⟨w.heap.size, 0, none⟩ = _ ∧ _ := hSd
      obtain ⟨g', rfl⟩ : ∃ g', gk = g' + 1 := ⟨gk - 1, by omega⟩
      have hSd' := hid hSd
      clear hSd
      go_upto_region 6 with (fail)
      have hSd := hSd'.out
      cases his : Po.is T (Po.wordB k).data.toList st with
      | true =>
        have his' := hid his.symm
        have hkU := hid (Po.kU_yes his hkp)
        clear his
        go_region_held3 (fun w' => w'.cell? ⟨w.heap.size, 0, none⟩ = some (.slice lp ln lc) ∧ w'.cell? ⟨w.heap.size, 1, none⟩ = some (.int .i64 e.1) ∧ w'.cell? ⟨w.heap.size, 1 + 1, none⟩ = some (.int .i64 e.2) ∧ w'.cell? ⟨w.heap.size, 1 + 1 + 1, none⟩ = some (.int .i64 st.f.1) ∧ w'.cell? ⟨w.heap.size, 1 + 1 + 1 + 1, none⟩ = some (.int .i64 st.f.2.1) ∧ w'.cell? ⟨w.heap.size, 1 + 1 + 1 + 1 + 1, none⟩ = some (.int .i64 st.f.2.2) ∧ w'.cell? ⟨b5, k, none⟩ = some (.string (Po.wordB k))) (first | with_reducible assumption | go_keep) (first
          | ((go_at_call 31
              refine (rris_c (w := wr.drew) e h'.out (bthen hw0'.out S1.out.bel.drew) (Po.wordB k) true his'.out).mono ?_
              rintro en w5 ⟨rfl, hb5⟩
              have S2 := hid (S1.out.ext (bthen (Below.refl _ wr).drew hb5))
              have S3 := S2.out.six (dwordsArr_at hk7)
              clear hb5)))
        clear hSd hSx S3
        have d0 := S2.out.dd.cell 0 (v := .int .i64 (Po.kU T st k : Nat)) rfl
        have df := S2.out.dd.free
        have dl := S2.out.dd.lt
        go_wp2_with fail
        go_roundg g'
        case measure => omega
        case rel =>
          refine ⟨k + 1, by go_num, by omega, by omega, ?_⟩
          rw [hkU.out]
          exact S2.out.setD 0 (.int .i64 k) rfl
      | false =>
        have his' := hid his.symm
        have hkU := hid (Po.kU_no his)
        clear his
        go_region_held3 (fun w' => w'.cell? ⟨w.heap.size, 0, none⟩ = some (.slice lp ln lc) ∧ w'.cell? ⟨w.heap.size, 1, none⟩ = some (.int .i64 e.1) ∧ w'.cell? ⟨w.heap.size, 1 + 1, none⟩ = some (.int .i64 e.2) ∧ w'.cell? ⟨w.heap.size, 1 + 1 + 1, none⟩ = some (.int .i64 st.f.1) ∧ w'.cell? ⟨w.heap.size, 1 + 1 + 1 + 1, none⟩ = some (.int .i64 st.f.2.1) ∧ w'.cell? ⟨w.heap.size, 1 + 1 + 1 + 1 + 1, none⟩ = some (.int .i64 st.f.2.2) ∧ w'.cell? ⟨b5, k, none⟩ = some (.string (Po.wordB k))) (first | with_reducible assumption | go_keep) (first
          | ((go_at_call 31
              refine (rris_c (w := wr.drew) e h'.out (bthen hw0'.out S1.out.bel.drew) (Po.wordB k) false his'.out).mono ?_
              rintro en w5 ⟨rfl, hb5⟩
              have S2 := hid (S1.out.ext (bthen (Below.refl _ wr).drew hb5))
              have S3 := S2.out.six (dwordsArr_at hk7)
              clear hb5)))
        clear hSd hSx S3
        go_wp2_with fail
        go_roundg g'
        case measure => omega
        case rel =>
          refine ⟨k + 1, by go_num, by omega, by omega, ?_⟩
          rw [hkU.out]
          exact S2.out
    · obtain rfl : k = 7 := by omega
      clear hk7
      rw [hk7'.out] at S1
      have S0 := hid (show DcB w0 w T e b4 b5 dwordsArr 9 (.slice none 0 0) L st { Po.zeroDecl with kind := 3, line := pl, col := pc } wr from S1.out)
      clear S1
      have d0 := S0.out.dd.cell 0 (v := .int .i64 3) rfl
      go_upto_region 11 with (fail)
      clear d0
      have zt := balloc wr (.cells zeroT 81)
      have S1 := hid (show DcB w0 w T e b4 wr.heap.size zeroT 81 (.slice none 0 0) L st { Po.zeroDecl with kind := 3, line := pl, col := pc } (wr.alloc (.cells zeroT 81)) from ⟨S0.out.rd.ext zt, S0.out.rr, S0.out.r2.ext zt, S0.out.r3.ext zt, S0.out.dd.ext zt, Blk.new wr _ _, bthen S0.out.bel zt, S0.out.ord.1, S0.out.dd.lt⟩)
      clear zt S0
      unfold zeroT at *
      generalize hW : wr.alloc _ = wz0 at *
      generalize hbt : wr.heap.size = bt at *
      clear hW hbt
      go_wp2_with (first | (refine wpList_load_blk rfl 48 (.tmp 1) rfl 32 rfl w.heap.size 48 (rdArr L e st) (S1.out.rd) rfl Tryz.underlying48 rfl (by kernel_rfl) ?_))
      refine (rron_any e S1.out.rr (bthen hw0'.out S1.out.bel) hlt.out).mono ?_
      rintro en v1 ⟨⟨L1, rfl, P1⟩, hb⟩
      have S2 := hid (S1.out.ext hb)
      clear hb S1
      have P1' := hid P1
      clear P1
      have Sa := hid ((S2.out.setRd P1'.out))
      go_upto_region 12 with (first | (refine wpList_store_blk rfl 48 (.tmp 1) (.tmp 33) rfl rfl w.heap.size 48 _ (rdArr L1 e (Po.on st)) (S2.out.rd) rfl rfl (by kernel_rfl) (rdArr_size_eq _ _ _ _ _ _) (rdArr_one P1'.out e _) ?_))
      clear P1'
      clear S2
      have S3 := Sa
      clear Sa
      generalize World.setRow _ _ _ = wz1 at *
      have d0 := S3.out.dd.cell 0 (v := .int .i64 3) rfl
      go_upto_region 13 with (fail)
      clear d0
      go_wp2_with (first | (refine wpList_load_blk rfl 48 (.tmp 1) rfl 38 rfl w.heap.size 48 (rdArr L1 e (Po.on st)) (S3.out.rd) rfl Tryz.underlying48 rfl (by kernel_rfl) ?_))
      refine (rrof_c e S3.out.rr (bthen hw0'.out S3.out.bel) 1 1 rfl (Po.takeSt T e 1 (Po.on st)) (Po.takeTok T 1 (Po.on st)) rfl rfl).mono ?_
      rintro en v2 ⟨⟨L2, rfl, P1⟩, hb⟩
      have S4 := hid (S3.out.ext hb)
      clear hb S3
      have P1' := hid P1
      clear P1
      obtain ⟨tk, htk⟩ : ∃ t : Lx.Tok, Po.takeTok T 1 (Po.on st) = t := ⟨_, rfl⟩
      rw [htk]
      have htk' := hid htk
      clear htk
      have Sa := hid ((S4.out.setRd P1'.out).setX (tokArr tk))
      have Sc := hid (S4.out.setRd P1'.out)
      go_upto_region 14 with (first | (refine wpList_store_blk rfl 48 (.tmp 1) (.tmp 40) rfl rfl w.heap.size 48 _ (rdArr L2 e (Po.takeSt T e 1 (Po.on st))) (S4.out.rd) rfl rfl (by kernel_rfl) (rdArr_size_eq _ _ _ _ _ _) (rdArr_one P1'.out e _) ?_) | (refine wpList_store_blk rfl 81 (.tmp 7) (.tmp 41) rfl rfl bt 81 _ (tokArr tk) (Sc.out.xx) rfl rfl (by kernel_rfl) rfl (tokArr_one _) ?_))
      clear P1' Sc
      clear S4
      have S5 := Sa
      clear Sa
      generalize World.setRow (World.setRow _ _ _) _ _ = wz2 at *
      have c1 := S5.out.xx.cell 1 (v := .string (Po.txt tk.text)) rfl
      have e1 := S5.out.dd.cell 1 (v := .string ⟨#[]⟩) rfl
      have df := S5.out.dd.free
      have dl := S5.out.dd.lt
      have Sa := hid (S5.out.setD (d' := { Po.zeroDecl with kind := 3, name := Po.txt tk.text, line := pl, col := pc }) (v' := .slice none 0 0) 1 (.string (Po.txt tk.text)) rfl)
      go_upto_region 15 with (fail)
      clear c1 e1 df dl
      clear S5
      have S6 := Sa
      clear Sa
      generalize World.setCell _ _ _ = wz3 at *
      go_wp2_with (first | (refine wpList_load_blk rfl 48 (.tmp 1) rfl 45 rfl w.heap.size 48 (rdArr L2 e (Po.takeSt T e 1 (Po.on st))) (S6.out.rd) rfl Tryz.underlying48 rfl (by kernel_rfl) ?_))
      refine (rrwant_c e S6.out.rr (bthen hw0'.out S6.out.bel) ⟨#[61]⟩ (Po.want T e [61] (Po.takeSt T e 1 (Po.on st))) rfl).mono ?_
      rintro en v3 ⟨⟨L3, rfl, P1⟩, hb⟩
      have S7 := hid (S6.out.ext hb)
      clear hb S6
      have P1' := hid P1
      clear P1
      have Sa := hid ((S7.out.setRd P1'.out))
      go_upto_region 16 with (first | (refine wpList_store_blk rfl 48 (.tmp 1) (.tmp 46) rfl rfl w.heap.size 48 _ (rdArr L3 e (Po.want T e [61] (Po.takeSt T e 1 (Po.on st)))) (S7.out.rd) rfl rfl (by kernel_rfl) (rdArr_size_eq _ _ _ _ _ _) (rdArr_one P1'.out e _) ?_))
      clear P1'
      clear S7
      have S8 := Sa
      clear Sa
      generalize World.setRow _ _ _ = wz4 at *
      have d0 := S8.out.dd.cell 0 (v := .int .i64 3) rfl
      go_upto_region 20 with (fail)
      clear d0
      go_wp2_with (first | (refine wpList_load_blk rfl 48 (.tmp 1) rfl 62 rfl w.heap.size 48 (rdArr L3 e (Po.want T e [61] (Po.takeSt T e 1 (Po.on st)))) (S8.out.rd) rfl Tryz.underlying48 rfl (by kernel_rfl) ?_))
      refine (rrboxes_any e S8.out.rr (bthen hw0'.out S8.out.bel)).mono ?_
      rintro en v4 ⟨⟨L4, v, rfl, P1, hrow, hown⟩, hb⟩
      have S9 := hid (S8.out.ext hb)
      have orow := hid hrow
      have own := hid (fun k hk => Nat.le_trans (show b4 + 1 ≤ _ from S8.out.dd.lt) (hown k hk))
      clear hrow hown
      clear hb S8
      have P1' := hid P1
      clear P1
      obtain ⟨vp, vl, vc, rfl⟩ := Row.shape orow.out
      obtain ⟨bs, hbs⟩ : ∃ l, Po.boxesV T e (Po.want T e [61] (Po.takeSt T e 1 (Po.on st))) = l := ⟨_, rfl⟩
      rw [hbs] at orow
      have hbs' := hid hbs
      clear hbs
      have Sq := hid (S9.out.setRd P1'.out)
      have e3 := Sq.out.dd.cell 3 (v := .slice none 0 0) rfl
      have df := Sq.out.dd.free
      have dl := Sq.out.dd.lt
      have oord := S9.out.ord
      have Sa := hid (Sq.out.setD (d' := { Po.zeroDecl with kind := 3, name := Po.txt tk.text, boxes := bs, line := pl, col := pc }) (v' := .slice vp vl vc) 3 (.slice vp vl vc) rfl)
      have orow' := hid ((orow.out.setRow (k := w.heap.size) (fun e => by have := own.out _ e; omega) (rdArr L4 e (Po.boxesS T e (Po.want T e [61] (Po.takeSt T e 1 (Po.on st)))))).touch ((Touch.refl b4 _).setCell 3 (.slice vp vl vc)) (fun e => by have := own.out _ e; omega))
      go_upto_region 24 with (first | (refine wpList_store_blk rfl 48 (.tmp 1) (.tmp 64) rfl rfl w.heap.size 48 _ (rdArr L4 e (Po.boxesS T e (Po.want T e [61] (Po.takeSt T e 1 (Po.on st))))) (S9.out.rd) rfl rfl (by kernel_rfl) (rdArr_size_eq _ _ _ _ _ _) (rdArr_one P1'.out e _) ?_))
      clear e3 df dl Sq orow oord
      have orow := orow'
      clear orow'
      have PZ := P1'
      clear P1'
      clear S9
      have S10 := Sa
      clear Sa
      generalize World.setCell _ _ _ = wz5 at *
      have e9 := hid (show { Po.zeroDecl with kind := 3, name := Po.txt tk.text, boxes := bs, line := pl, col := pc } = Po.rdV T e st by rw [hv.out, hdv.out, hda.out, ← hbs'.out, ← htk'.out]; first | done | rfl)
      rw [e9.out] at S10
      clear e9
      obtain ⟨ss, hss⟩ : ∃ s : Po.St, (Po.boxesS T e (Po.want T e [61] (Po.takeSt T e 1 (Po.on st)))) = s := ⟨_, rfl⟩
      have hs9 := hid (show Po.want T e [59] ss = Po.rdS T e st by rw [hs.out, ← hss]; exact hst.out)
      rw [hss] at S10
      clear hss
      obtain ⟨dq, hdq⟩ : ∃ d : Po.Decl, Po.rdV T e st = d := ⟨_, rfl⟩
      obtain ⟨sq, hsq⟩ : ∃ s : Po.St, Po.rdS T e st = s := ⟨_, rfl⟩
      have hbx := hid (show dq.boxes = bs by rw [← hdq, hv.out]; exact hbe.out.trans hbs'.out)
      rw [hdq] at S10
      rw [hsq] at hs9
      have hdq' := hid hdq
      have hsq' := hid hsq
      clear hdq hsq
      obtain ⟨o1, o2⟩ := S10.out.ord
      have X := hid (Blk.drew S10.out.rd)
      have Y := hid (Blk.drew S10.out.dd)
      have A := hid (Blk.drew S10.out.r2)
      have F := hid (Blk.drew S10.out.r3)
      have bel := hid (S10.out.bel.drew)
      have PQ := hid S10.out.rr
      have geA : w.heap.size ≤ w.heap.size + 1 := by omega
      have geF : w.heap.size ≤ w.heap.size + 1 + 1 := by omega
      have O := hid (orow.out.ext (Below.refl _ wz5).drew)
      have hown := own.out
      clear orow
      clear S10
      refine wp_region_noPanic ?_
      refine wp_region_held_drew (S := (fun w' => w'.rangeAt w.heap.size 0 (rdArr L4 e ss).toList ∧ w'.rangeAt b4 0 (declCells dq (.slice vp vl vc)).toList)) (by kernel_rfl) (⟨X.out.rngr, Y.out.rngr⟩) (fun hHeld => ?_)
      generalize wz5.drew = W0 at *
      refine wpAnyH_take (i := 0) (oi := _) (v := .agg (rdArr L4 e ss)) rfl (by kernel_rfl) (by kernel_rfl) (by kernel_rfl) (fun _ _ _ h => h) (yieldsIf_load_mid (by rfl) 48 (.tmp 1) rfl w.heap.size 0 rfl (rdArr L4 e ss).toList _ (fun _ h => h.1) Tryz.underlying48 rfl (by kernel_rfl)) (by assumption) ?_
      try simp only [Array.reduceGetElem, Act.put, List.setIfInBounds_toArray, List.set_cons_zero, List.set_cons_succ]
      refine wpAnyH_take (i := 2) (oi := _) (v := .agg (declCells dq (.slice vp vl vc))) rfl (by kernel_rfl) (by kernel_rfl) (by kernel_rfl) (fun _ _ _ h => h) (yieldsIf_load_mid (by rfl) 39 (.tmp 4) rfl b4 0 rfl (declCells dq (.slice vp vl vc)).toList _ (fun _ h => h.2) Tryz.underlying39 rfl (by kernel_rfl)) (by assumption) ?_
      try simp only [Array.reduceGetElem, Act.put, List.setIfInBounds_toArray, List.set_cons_zero, List.set_cons_succ]
      refine wpAnyH_ready (rs := [1]) (by kernel_rfl) (by simp) ?_
      refine AllReadyH.cons (o := _) rfl (fun K hK => ?_) ?_
      · dsimp only [Array.reduceGetElem] at hK ⊢
        go_simp
        refine (rrwant_c e PQ.out (bthen hw0'.out bel.out) ⟨#[59]⟩ sq hs9.out.symm).mono ?_
        rintro en w9 ⟨⟨L9, rfl, P9⟩, hb⟩
        have P9' := hid P9
        clear P9
        have X' := hid (X.out.ext hb)
        have Y' := hid (Y.out.ext hb)
        have A' := hid (A.out.ext hb)
        have F' := hid (F.out.ext hb)
        have bel' := hid (bthen bel.out hb)
        have O' := hid (O.out.ext hb)
        clear O
        have O := O'
        clear O'
        clear X
        have X := X'
        clear X'
        clear Y
        have Y := Y'
        clear Y'
        clear A
        have A := A'
        clear A'
        clear F
        have F := F'
        clear F'
        clear bel hb
        have bel := bel'
        clear bel'
        go_wp2_with fail
        refine hK.out _ _ ?_ (fun hHeld => ?_)
        · exact ⟨X.out.rngr, Y.out.rngr⟩
        clear hK K
        try simp only [Array.reduceGetElem, Act.put, List.setIfInBounds_toArray, List.set_cons_zero, List.set_cons_succ]
        refine wpAnyH_ready (rs := [3]) (by kernel_rfl) (by simp) ?_
        refine AllReadyH.cons (o := _) rfl (fun K hK => ?_) ?_
        · dsimp only [Array.reduceGetElem] at hK ⊢
          rw [if_pos (by rfl)]
          refine wp_store_row 48 (.tmp 2) (.tmp 84) rfl (w.heap.size + 1) (rdArr L9 e sq) rfl rfl 48 _ A.out (by kernel_rfl) rfl (rdArr_one P9'.out e _) ?_
          have X' := hid (X.out.setRowOther (k := (w.heap.size + 1)) (cs' := rdArr L9 e sq) (by omega))
          have Y' := hid (Y.out.setRowOther (k := (w.heap.size + 1)) (cs' := rdArr L9 e sq) (by omega))
          have A' := hid (A.out.setRow (rdArr L9 e sq))
          have F' := hid (F.out.setRowOther (k := (w.heap.size + 1)) (cs' := rdArr L9 e sq) (by omega))
          have bel' := hid (below_setRow bel.out geA (rdArr L9 e sq))
          have O' := hid (O.out.setRow (k := (w.heap.size + 1)) (fun e => by have := hown _ e; omega) (rdArr L9 e sq))
          clear O
          have O := O'
          clear O'
          clear X
          have X := X'
          clear X'
          clear Y
          have Y := Y'
          clear Y'
          clear A
          have A := A'
          clear A'
          clear F
          have F := F'
          clear F'
          clear bel
          have bel := bel'
          clear bel'
          generalize W0.setRow (w.heap.size + 1) (rdArr L9 e sq) = W2 at *
          refine hK.out _ _ ?_ (fun hHeld => ?_)
          · exact ⟨X.out.rngr, Y.out.rngr⟩
          clear hK K
          try simp only [Act.put]
          refine wpAnyH_ready (rs := [4]) (by kernel_rfl) (by simp) ?_
          refine AllReadyH.cons (o := _) rfl (fun K hK => ?_) ?_
          · dsimp only [Array.reduceGetElem] at hK ⊢
            rw [if_pos (by rfl)]
            refine wp_store_row 39 (.tmp 3) (.tmp 85) rfl (w.heap.size + 1 + 1) (declCells dq (.slice vp vl vc)) rfl rfl 39 _ F.out (by kernel_rfl) rfl (declCells_one _ rfl) ?_
            have X' := hid (X.out.setRowOther (k := (w.heap.size + 1 + 1)) (cs' := declCells dq (.slice vp vl vc)) (by omega))
            have Y' := hid (Y.out.setRowOther (k := (w.heap.size + 1 + 1)) (cs' := declCells dq (.slice vp vl vc)) (by omega))
            have A' := hid (A.out.setRowOther (k := (w.heap.size + 1 + 1)) (cs' := declCells dq (.slice vp vl vc)) (by omega))
            have F' := hid (F.out.setRow (declCells dq (.slice vp vl vc)))
            have bel' := hid (below_setRow bel.out geF (declCells dq (.slice vp vl vc)))
            have O' := hid (O.out.setRow (k := (w.heap.size + 1 + 1)) (fun e => by have := hown _ e; omega) (declCells dq (.slice vp vl vc)))
            clear O
            have O := O'
            clear O'
            clear X
            have X := X'
            clear X'
            clear Y
            have Y := Y'
            clear Y'
            clear A
            have A := A'
            clear A'
            clear F
            have F := F'
            clear F'
            clear bel
            have bel := bel'
            clear bel'
            generalize W2.setRow (w.heap.size + 1 + 1) (declCells dq (.slice vp vl vc)) = W3 at *
            refine hK.out _ _ ?_ (fun hHeld => ?_)
            · exact ⟨X.out.rngr, Y.out.rngr⟩
            clear hK K
            try simp only [Act.put]
            refine wpAnyH_done (by kernel_rfl) ?_ _
            refine NoPanic.normal ?_
            go_wp2_with fail
            exact bodyPost_ret (v := .tuple #[.agg (rdArr L9 e sq), .agg (declCells dq (.slice vp vl vc))]) (results_blk2 (p := 2) (q := 3) (ty := 48) (tz := 39) rfl _ _ (w.heap.size + 1) 48 _ (w.heap.size + 1 + 1) 39 _ rfl rfl A.out F.out Tryz.underlying48 rfl (by kernel_rfl) Tryz.underlying39 rfl (by kernel_rfl)) rfl ⟨⟨L9, (.slice vp vl vc), by rw [hdq'.out, hsq'.out], by rw [hsq'.out]; exact P9'.out, by rw [hdq'.out, hbx.out]; exact O.out, fun k hk => by have := hown k hk; omega⟩, bel.out⟩
          exact AllReadyH.nil
        exact AllReadyH.nil
      exact AllReadyH.nil

end Go.Proofs.YtelphkhacadfaaaGreat
