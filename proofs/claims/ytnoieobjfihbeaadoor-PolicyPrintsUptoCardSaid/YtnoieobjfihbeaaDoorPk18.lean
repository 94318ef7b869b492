/-
  The walk of the document's own Right: what a declaration may be.
-/
import Derived.Test.YtnoieobjfihbeaaDoorPk16

namespace Go.Proofs.YtnoieobjfihbeaaDoor
open Go.RowKit Go.Sort
set_option maxRecDepth 100000 in
set_option maxHeartbeats 8000000 in
theorem rdright_45 (d : Po.Decl) (v : Value) (w : World) (hlo : 4 ≤ d.kind) (hhi : d.kind ≤ 5) (hs0 : d.name.size ≤ 140737488355328) (hs1 : d.role.name.size ≤ 140737488355328) (hs2 : d.label.name.size ≤ 140737488355328) (hs3 : d.place.name.size ≤ 140737488355328) (hr : BRow w v d.boxes) (hn : d.boxes.length ≤ 140737488355328) :
    Calls Tryd.prog 17 #[.agg (declCells d v)] w fun e w' => e = .returned (.bool (Ru.rRight d)) ∧ Below w.heap.size w w' := by
  obtain ⟨bp, bc, rfl⟩ := hr.shape
  have hPR : Hid (0 < d.boxes.length → ∃ g off, bp = some ⟨g, off, none⟩ ∧ SRow w g off bc 4 boxArr d.boxes) := by
    refine hid (fun hpos => ?_)
    rcases brow_of hr with ⟨_, _, _, h0⟩ | ⟨g, off, cap, hv, hr⟩
    · rw [h0] at hpos; simp at hpos
    · cases hv; exact ⟨g, off, rfl, hr⟩
  have B0 := hid (Blk.new w (declCells d (.slice bp d.boxes.length bc)) 44)
  have Q0 := hid (balloc w (.cells (declCells d (.slice bp d.boxes.length bc)) 44))
  have y0 : (declCells d (.slice bp d.boxes.length bc))[0]? = some (.int .i64 d.kind) := rfl
  have hS := hid (And.intro hs0 (And.intro hs1 (And.intro hs2 hs3)))
  clear hr hs0 hs1 hs2 hs3
  have hk1 : ¬ d.kind < 1 := by omega
  have hk2 : ¬ 6 < d.kind := by omega
  have e := hid (rRight_eq hk1 hk2)
  go_enter Tryd.func17, Tryd.ntmps17
  go_upto_region 3 with (fail)
  generalize w.alloc (.cells (declCells d (.slice bp d.boxes.length bc)) 44) = w0 at *
  clear y0
  skip
  go_cut [3] (fun s0 wx => s0 = .bool (Ru.rNamed d) ∧ Blk wx w.heap.size (declCells d (.slice bp d.boxes.length bc)) 44 ∧ Below w.heap.size w wx)
  case first =>
    as_aux_lemma =>
    have y0 := B0.out.cell 0 (v := .int .i64 d.kind) rfl
    have K1_0 := hid (show decide (d.kind ≤ 3) = false from decide_eq_false (by omega))
    have K1_1 := hid (show decide (3 < d.kind) = true from decide_eq_true (by omega))
    have hk3 : 3 < d.kind := by omega
    have y1 := B0.out.cell 1 (v := .string d.name) rfl
    by_cases h2 : d.name.toList = []
    · skip
      have K2_0 := hid (show (d.name.data.toList == []) = true from by rw [← ByteArray.toList_eq]; exact beq_iff_eq.2 h2)
      go_wp2_with fail
      go_meet
      case rel => exact ⟨congrArg Value.bool (show _ = Ru.rNamed d by unfold Ru.rNamed; simp only [K1_0.out, K1_1.out, K2_0.out, Bool.false_and, Bool.and_true, Bool.or_true]), B0.out, Q0.out⟩
    · skip
      have K2_0 := hid (show (d.name.data.toList == []) = false from by rw [← ByteArray.toList_eq]; exact beq_eq_false_iff_ne.2 h2)
      have he3 : (d.name.toList == []) = false := beq_eq_false_iff_ne.2 h2
      go_wp2_with fail
      go_meet
      case rel => exact ⟨congrArg Value.bool (show _ = Ru.rNamed d by unfold Ru.rNamed; simp only [K1_0.out, K1_1.out, K2_0.out, Bool.false_and, Bool.and_false, Bool.or_false]), B0.out, Q0.out⟩
  case rest =>
  as_aux_lemma =>
  obtain ⟨rfl, hBa, hQa⟩ := hcut
  have Ba := hid hBa
  have Qa := hid hQa
  clear hBa hQa B0 Q0
  go_upto_region 4 with (fail)
  go_cut [4] (fun s0 wx => s0 = .bool (Ru.rNumber d) ∧ Blk wx w.heap.size (declCells d (.slice bp d.boxes.length bc)) 44 ∧ Below w.heap.size w wx)
  case first =>
    as_aux_lemma =>
    have y0 := Ba.out.cell 0 (v := .int .i64 d.kind) rfl
    have K3_0 := hid (show decide (d.kind ≤ 2) = false from decide_eq_false (by omega))
    have K3_1 := hid (show decide (2 < d.kind) = true from decide_eq_true (by omega))
    have hk3 : 2 < d.kind := by omega
    have y2 := Ba.out.cell 2 (v := .int .i64 d.n) rfl
    by_cases h4 : d.n = 0
    · skip
      have K4_0 := hid (show (d.n == 0) = true from beq_iff_eq.2 h4)
      have k_h4 : (d.n == 0) = true := beq_iff_eq.2 h4
      go_wp2_with fail
      go_meet
      case rel => exact ⟨congrArg Value.bool (show _ = Ru.rNumber d by unfold Ru.rNumber; simp only [K3_0.out, K3_1.out, K4_0.out, Bool.false_and, Bool.and_true, Bool.or_true]), Ba.out, Qa.out⟩
    · skip
      have K4_0 := hid (show (d.n == 0) = false from beq_eq_false_iff_ne.2 h4)
      have k_h4 : (d.n == 0) = false := beq_eq_false_iff_ne.2 h4
      go_wp2_with fail
      go_meet
      case rel => exact ⟨congrArg Value.bool (show _ = Ru.rNumber d by unfold Ru.rNumber; simp only [K3_0.out, K3_1.out, K4_0.out, Bool.false_and, Bool.and_false, Bool.or_false]), Ba.out, Qa.out⟩
  case rest =>
  as_aux_lemma =>
  obtain ⟨rfl, hBb, hQb⟩ := hcut
  have Bb := hid hBb
  have Qb := hid hQb
  clear hBb hQb Ba Qa
  go_upto_region 5 with (fail)
  go_cut [5] (fun s0 wx => s0 = .bool (Ru.rBoxes0 d) ∧ Blk wx w.heap.size (declCells d (.slice bp d.boxes.length bc)) 44 ∧ Below w.heap.size w wx)
  case first =>
    as_aux_lemma =>
    have y0 := Bb.out.cell 0 (v := .int .i64 d.kind) rfl
    have y3 := Bb.out.cell 3 (v := .slice bp d.boxes.length bc) rfl
    have K5_0 := hid (show (d.kind == 3) = false from beq_eq_false_iff_ne.2 (by omega))
    have k3 : (d.kind == 3) = false := beq_eq_false_iff_ne.2 (by omega)
    by_cases h6 : 0 < d.boxes.length
    · skip
      have K6_0 := hid (show decide ((0 : Int) < d.boxes.length) = true from decide_eq_true (by omega))
      have kp : (0 : Int) < d.boxes.length := by omega
      go_wp2_with fail
      go_meet
      case rel => exact ⟨congrArg Value.bool (show _ = Ru.rBoxes0 d by unfold Ru.rBoxes0; simp only [K5_0.out, K6_0.out]; rfl), Bb.out, Qb.out⟩
    · skip
      have K6_0 := hid (show decide ((0 : Int) < d.boxes.length) = false from decide_eq_false (by omega))
      have kz : ¬ (0 : Int) < d.boxes.length := by omega
      go_wp2_with fail
      go_meet
      case rel => exact ⟨congrArg Value.bool (show _ = Ru.rBoxes0 d by unfold Ru.rBoxes0; simp only [K5_0.out, K6_0.out]; rfl), Bb.out, Qb.out⟩
  case rest =>
  as_aux_lemma =>
  obtain ⟨rfl, hBc, hQc⟩ := hcut
  have Bc := hid hBc
  have Qc := hid hQc
  clear hBc hQc Bb Qb
  go_upto_region 6 with (fail)
  go_wp2_with fail
  go_loopw [5, 6] (fun s5 u wr => ∃ (i : Nat) (c : Bool), u = .int .i64 i ∧ s5 = .bool c ∧ i ≤ d.boxes.length ∧ (d.boxes.take i).foldl (fun b x => b && Ru.boxN x) (Ru.rBoxes0 d) = c ∧ Blk wr w.heap.size (declCells d (.slice bp d.boxes.length bc)) 44 ∧ Below w.heap.size w wr) (fun _ u _ => d.boxes.length - (intOf u).toNat)
  case atStart => exact ⟨0, _, rfl, rfl, Nat.zero_le _, rfl, Bc.out, Qc.out⟩
  case round =>
    as_aux_lemma =>
    obtain ⟨i, c, rfl, rfl, hle, hf, hB, hQ⟩ := hrel
    have hf' := hid hf
    have B1 := hid hB
    have Q1 := hid hQ
    clear hf hB hQ Bc Qc
    have y3 := B1.out.cell 3 (v := .slice bp d.boxes.length bc) rfl
    by_cases hlt : i < d.boxes.length
    · obtain ⟨gg, off, rfl, hg⟩ := hPR.out (by omega)
      have hat := hid ((hg.ext Q1.out).get i hlt)
      have hst := hid (rBoxes_step hlt hf'.out)
      generalize d.boxes[i] = x at *
      have z := balloc wr (.cells (boxArr x) 73)
      have B2 := hid (B1.out.ext z)
      have Q2 := hid (bthen Q1.out z)
      have X2 := hid (Blk.new wr (boxArr x) 73)
      clear z hg
      have u0 : (boxArr x)[0]? = some (.int .i64 x.x0) := rfl
      cases c with
      | false =>
        go_wp2_with (first | (refine wpList_load_at rfl 73 (.tmp 72) rfl 73 rfl gg (off + i * 4) (boxArr x) (hat.out) rfl Tryd.underlying73 rfl (by kernel_rfl) ?_) | (refine wpList_store_new rfl 73 (.tmp 7) (.tmp 73) rfl rfl wr 73 _ (boxArr x) rfl rfl rfl (by kernel_rfl) rfl (boxArr_one x) ?_))
        go_roundw
        case rel => exact ⟨i + 1, false, by go_num, rfl, by omega, by rw [hst.out]; rfl, B2.out, Q2.out⟩
        case measure => simp [intOf]; omega
      | true =>
        go_wp2_with (first | (refine wpList_load_at rfl 73 (.tmp 72) rfl 73 rfl gg (off + i * 4) (boxArr x) (hat.out) rfl Tryd.underlying73 rfl (by kernel_rfl) ?_) | (refine wpList_store_new rfl 73 (.tmp 7) (.tmp 73) rfl rfl wr 73 _ (boxArr x) rfl rfl rfl (by kernel_rfl) rfl (boxArr_one x) ?_))
        refine (rsmall_any x.x0 _).mono ?_
        rintro en w7 ⟨rfl, hb7⟩
        have B7 := hid (B2.out.ext hb7)
        have Q7 := hid (bthen Q2.out hb7)
        have X7 := hid (X2.out.ext hb7)
        clear hb7 u0
        have u1 := X7.out.cell 1 (v := .int .i64 x.y0) rfl
        cases h7 : Ru.num x.x0 with
        | false =>
          have h7' := hid h7
          clear h7
          go_wp2_with fail
          go_roundw
          case rel => exact ⟨i + 1, false, by go_num, rfl, by omega, by rw [hst.out]; unfold Ru.boxN; simp only [h7'.out, Bool.false_and, Bool.and_false], B7.out, Q7.out⟩
          case measure => simp [intOf]; omega
        | true =>
          have h7' := hid h7
          clear h7
          go_wp2_with fail
          refine (rsmall_any x.y0 _).mono ?_
          rintro en w8 ⟨rfl, hb8⟩
          have B8 := hid (B7.out.ext hb8)
          have Q8 := hid (bthen Q7.out hb8)
          have X8 := hid (X7.out.ext hb8)
          clear hb8 u1
          have u2 := X8.out.cell 2 (v := .int .i64 x.x1) rfl
          cases h8 : Ru.num x.y0 with
          | false =>
            have h8' := hid h8
            clear h8
            go_wp2_with fail
            go_roundw
            case rel => exact ⟨i + 1, false, by go_num, rfl, by omega, by rw [hst.out]; unfold Ru.boxN; simp only [h7'.out, h8'.out, Bool.false_and, Bool.and_false], B8.out, Q8.out⟩
            case measure => simp [intOf]; omega
          | true =>
            have h8' := hid h8
            clear h8
            go_wp2_with fail
            refine (rsmall_any x.x1 _).mono ?_
            rintro en w9 ⟨rfl, hb9⟩
            have B9 := hid (B8.out.ext hb9)
            have Q9 := hid (bthen Q8.out hb9)
            have X9 := hid (X8.out.ext hb9)
            clear hb9 u2
            have u3 := X9.out.cell 3 (v := .int .i64 x.y1) rfl
            cases h9 : Ru.num x.x1 with
            | false =>
              have h9' := hid h9
              clear h9
              go_wp2_with fail
              go_roundw
              case rel => exact ⟨i + 1, false, by go_num, rfl, by omega, by rw [hst.out]; unfold Ru.boxN; simp only [h7'.out, h8'.out, h9'.out, Bool.false_and, Bool.and_true, Bool.and_false], B9.out, Q9.out⟩
              case measure => simp [intOf]; omega
            | true =>
              have h9' := hid h9
              clear h9
              go_wp2_with fail
              refine (rsmall_any x.y1 _).mono ?_
              rintro en w10 ⟨rfl, hb10⟩
              have B10 := hid (B9.out.ext hb10)
              have Q10 := hid (bthen Q9.out hb10)
              have X10 := hid (X9.out.ext hb10)
              clear hb10 u3
              cases h10 : Ru.num x.y1 with
              | false =>
                have h10' := hid h10
                clear h10
                go_wp2_with fail
                go_roundw
                case rel => exact ⟨i + 1, false, by go_num, rfl, by omega, by rw [hst.out]; unfold Ru.boxN; simp only [h7'.out, h8'.out, h9'.out, h10'.out, Bool.and_true, Bool.and_false], B10.out, Q10.out⟩
                case measure => simp [intOf]; omega
              | true =>
                have h10' := hid h10
                clear h10
                go_wp2_with fail
                go_roundw
                case rel => exact ⟨i + 1, true, by go_num, rfl, by omega, by rw [hst.out]; unfold Ru.boxN; simp only [h7'.out, h8'.out, h9'.out, h10'.out, Bool.and_true], B10.out, Q10.out⟩
                case measure => simp [intOf]; omega
    · obtain rfl : i = d.boxes.length := by omega
      have hbx := hid (show Ru.rBoxes d = c by have h := hf'.out; rw [List.take_length] at h; exact h)
      have hd0 : decide ((d.boxes.length : Int) < d.boxes.length) = false := decide_eq_false (by omega)
      go_upto_region 11 with (fail)
      clear y3 hd0 hf'
      skip
      go_cut [8] (fun s0 wx => s0 = .bool (Ru.rRole d) ∧ Blk wx w.heap.size (declCells d (.slice bp d.boxes.length bc)) 44 ∧ Below w.heap.size w wx)
      case first =>
        as_aux_lemma =>
        have y0 := B1.out.cell 0 (v := .int .i64 d.kind) rfl
        have K11_0 := hid (show decide (3 < d.kind) = true from decide_eq_true (by omega))
        have K11_1 := hid (show decide (d.kind ≤ 3) = false from decide_eq_false (by omega))
        go_wp2_with ((refine wpList_load_partG rfl 42 (.tmp 99) rfl 100 rfl w.heap.size (4) (whoArr d.role) (range_role B1.out) rfl Tryd.underlying42 rfl (by kernel_rfl) ?_))
        refine (rmay_any d.role _ hS.out.2.1).mono ?_
        rintro en w12 ⟨rfl, hb12⟩
        have B12 := hid (B1.out.ext hb12)
        have Q12 := hid (bthen Q1.out hb12)
        clear hb12 y0
        have y0 := B12.out.cell 0 (v := .int .i64 d.kind) rfl
        cases h12 : Ru.rMay d.role with
        | true =>
          have h12' := hid h12
          clear h12
          go_wp2_with fail
          go_meet
          case rel => exact ⟨congrArg Value.bool (show _ = Ru.rRole d by unfold Ru.rRole; simp only [K11_0.out, K11_1.out, h12'.out, Bool.false_and, Bool.and_true, Bool.or_false]), B12.out, Q12.out⟩
        | false =>
          have h12' := hid h12
          clear h12
          go_wp2_with fail
          go_meet
          case rel => exact ⟨congrArg Value.bool (show _ = Ru.rRole d by unfold Ru.rRole; simp only [K11_0.out, K11_1.out, h12'.out, Bool.false_and, Bool.and_false, Bool.or_false]), B12.out, Q12.out⟩
      case rest =>
      as_aux_lemma =>
      obtain ⟨rfl, hBd, hQd⟩ := hcut
      have Bd := hid hBd
      have Qd := hid hQd
      clear hBd hQd B1 Q1
      go_upto_region 12 with (fail)
      go_cut [9] (fun s0 wx => s0 = .bool (restA d) ∧ Blk wx w.heap.size (declCells d (.slice bp d.boxes.length bc)) 44 ∧ Below w.heap.size w wx)
      case first =>
        as_aux_lemma =>
        go_wp2_with ((refine wpList_load_at rfl 42 (.tmp 113) rfl 114 rfl w.heap.size (11) (whoArr d.label) (range_label Bd.out) rfl Tryd.underlying42 rfl (by kernel_rfl) ?_))
        refine (rnothing_any d.label _).mono ?_
        rintro en w13 ⟨rfl, hb13⟩
        have B13 := hid (Bd.out.ext hb13)
        have Q13 := hid (bthen Qd.out hb13)
        clear hb13
        cases h13 : Ru.zeroW d.label with
        | true =>
          have h13' := hid h13
          clear h13
          go_wp2_with ((refine wpList_load_partG rfl 42 (.tmp 117) rfl 118 rfl w.heap.size (16) (whoArr d.place) (range_place B13.out) rfl Tryd.underlying42 rfl (by kernel_rfl) ?_))
          refine (rnothing_any d.place _).mono ?_
          rintro en w14 ⟨rfl, hb14⟩
          have B14 := hid (B13.out.ext hb14)
          have Q14 := hid (bthen Q13.out hb14)
          clear hb14
          cases h14 : Ru.zeroW d.place with
          | true =>
            have h14' := hid h14
            clear h14
            have y9 := B14.out.cell 9 (v := .int .i64 d.lo) rfl
            have y10 := B14.out.cell 10 (v := .int .i64 d.hi) rfl
            have y21 := B14.out.cell 21 (v := .int .i64 d.zoom) rfl
            by_cases h15 : d.lo = 0
            · skip
              have K15_0 := hid (show (d.lo == 0) = true from beq_iff_eq.2 h15)
              have k_h15 : (d.lo == 0) = true := beq_iff_eq.2 h15
              by_cases h16 : d.hi = 0
              · skip
                have K16_0 := hid (show (d.hi == 0) = true from beq_iff_eq.2 h16)
                have k_h16 : (d.hi == 0) = true := beq_iff_eq.2 h16
                by_cases h17 : d.zoom = 0
                · skip
                  have K17_0 := hid (show (d.zoom == 0) = true from beq_iff_eq.2 h17)
                  have k_h17 : (d.zoom == 0) = true := beq_iff_eq.2 h17
                  go_wp2_with fail
                  go_meet
                  case rel => exact ⟨congrArg Value.bool (show _ = restA d by unfold restA; simp only [h13'.out, h14'.out, K15_0.out, K16_0.out, K17_0.out, Bool.and_true]), B14.out, Q14.out⟩
                · skip
                  have K17_0 := hid (show (d.zoom == 0) = false from beq_eq_false_iff_ne.2 h17)
                  have k_h17 : (d.zoom == 0) = false := beq_eq_false_iff_ne.2 h17
                  go_wp2_with fail
                  go_meet
                  case rel => exact ⟨congrArg Value.bool (show _ = restA d by unfold restA; simp only [h13'.out, h14'.out, K15_0.out, K16_0.out, K17_0.out, Bool.and_true, Bool.and_false]), B14.out, Q14.out⟩
              · skip
                have K16_0 := hid (show (d.hi == 0) = false from beq_eq_false_iff_ne.2 h16)
                have k_h16 : (d.hi == 0) = false := beq_eq_false_iff_ne.2 h16
                go_wp2_with fail
                go_meet
                case rel => exact ⟨congrArg Value.bool (show _ = restA d by unfold restA; simp only [h13'.out, h14'.out, K15_0.out, K16_0.out, Bool.false_and, Bool.and_true, Bool.and_false]), B14.out, Q14.out⟩
            · skip
              have K15_0 := hid (show (d.lo == 0) = false from beq_eq_false_iff_ne.2 h15)
              have k_h15 : (d.lo == 0) = false := beq_eq_false_iff_ne.2 h15
              go_wp2_with fail
              go_meet
              case rel => exact ⟨congrArg Value.bool (show _ = restA d by unfold restA; simp only [h13'.out, h14'.out, K15_0.out, Bool.false_and, Bool.and_true, Bool.and_false]), B14.out, Q14.out⟩
          | false =>
            have h14' := hid h14
            clear h14
            go_wp2_with fail
            go_meet
            case rel => exact ⟨congrArg Value.bool (show _ = restA d by unfold restA; simp only [h13'.out, h14'.out, Bool.false_and, Bool.and_false]), B14.out, Q14.out⟩
        | false =>
          have h13' := hid h13
          clear h13
          go_wp2_with fail
          go_meet
          case rel => exact ⟨congrArg Value.bool (show _ = restA d by unfold restA; simp only [h13'.out, Bool.false_and]), B13.out, Q13.out⟩
      case rest =>
      as_aux_lemma =>
      obtain ⟨rfl, hBe, hQe⟩ := hcut
      have Be := hid hBe
      have Qe := hid hQe
      clear hBe hQe Bd Qd
      go_upto_region 13 with (fail)
      go_cut [143] (fun s0 wx => s0 = .bool (decide (d.kind = 4 ∨ d.kind = 5)) ∧ Blk wx w.heap.size (declCells d (.slice bp d.boxes.length bc)) 44 ∧ Below w.heap.size w wx)
      case first =>
        as_aux_lemma =>
        have y0 := Be.out.cell 0 (v := .int .i64 d.kind) rfl
        by_cases h18 : d.kind = 4
        · skip
          have k4 : (d.kind == 4) = true := beq_iff_eq.2 h18
          go_wp2_with fail
          go_meet
          case rel => exact ⟨congrArg Value.bool (show _ = decide (d.kind = 4 ∨ d.kind = 5) by rw [eq_comm]; first | exact decide_eq_true (by omega) | exact decide_eq_false (by omega)), Be.out, Qe.out⟩
        · skip
          have k4 : (d.kind == 4) = false := beq_eq_false_iff_ne.2 h18
          have k5 : (d.kind == 5) = true := beq_iff_eq.2 (by omega)
          go_wp2_with fail
          go_meet
          case rel => exact ⟨congrArg Value.bool (show _ = decide (d.kind = 4 ∨ d.kind = 5) by rw [eq_comm]; first | exact decide_eq_true (by omega) | exact decide_eq_false (by omega)), Be.out, Qe.out⟩
      case rest =>
      as_aux_lemma =>
      obtain ⟨rfl, hBf, hQf⟩ := hcut
      have Bf := hid hBf
      have Qf := hid hQf
      clear hBf hQf Be Qe
      have h45' := hid (show d.kind = 4 ∨ d.kind = 5 by omega)
      go_upto_region 14 with (fail)
      go_cut [9] (fun s0 wx => s0 = .bool (restB d) ∧ Blk wx w.heap.size (declCells d (.slice bp d.boxes.length bc)) 44 ∧ Below w.heap.size w wx)
      case first =>
        as_aux_lemma =>
        go_wp2_with ((refine wpList_load_at rfl 42 (.tmp 144) rfl 145 rfl w.heap.size (11) (whoArr d.label) (range_label Bf.out) rfl Tryd.underlying42 rfl (by kernel_rfl) ?_))
        refine (rmay_any d.label _ hS.out.2.2.1).mono ?_
        rintro en w19 ⟨rfl, hb19⟩
        have B19 := hid (Bf.out.ext hb19)
        have Q19 := hid (bthen Qf.out hb19)
        clear hb19
        cases h19 : Ru.rMay d.label with
        | true =>
          have h19' := hid h19
          clear h19
          go_wp2_with ((refine wpList_load_partG rfl 42 (.tmp 148) rfl 149 rfl w.heap.size (16) (whoArr d.place) (range_place B19.out) rfl Tryd.underlying42 rfl (by kernel_rfl) ?_))
          refine (rmay_any d.place _ hS.out.2.2.2).mono ?_
          rintro en w20 ⟨rfl, hb20⟩
          have B20 := hid (B19.out.ext hb20)
          have Q20 := hid (bthen Q19.out hb20)
          clear hb20
          cases h20 : Ru.rMay d.place with
          | true =>
            have h20' := hid h20
            clear h20
            cases hA21 : d.place.any with
            | true =>
              have hA21' := hid hA21
              have y16 := B20.out.cell 16 (v := .bool d.place.any) rfl
              rw [hA21] at y16
              clear hA21
              have y9 := B20.out.cell 9 (v := .int .i64 d.lo) rfl
              go_wp2_with fail
              refine (rsmall_any d.lo _).mono ?_
              rintro en w22 ⟨rfl, hb22⟩
              have B22 := hid (B20.out.ext hb22)
              have Q22 := hid (bthen Q20.out hb22)
              clear hb22 y9 y16
              cases h22 : Ru.num d.lo with
              | true =>
                have h22' := hid h22
                clear h22
                have y10 := B22.out.cell 10 (v := .int .i64 d.hi) rfl
                go_wp2_with fail
                refine (rsmall_any d.hi _).mono ?_
                rintro en w23 ⟨rfl, hb23⟩
                have B23 := hid (B22.out.ext hb23)
                have Q23 := hid (bthen Q22.out hb23)
                clear hb23 y10
                cases h23 : Ru.num d.hi with
                | true =>
                  have h23' := hid h23
                  clear h23
                  have y21 := B23.out.cell 21 (v := .int .i64 d.zoom) rfl
                  go_wp2_with fail
                  refine (rsmall_any d.zoom _).mono ?_
                  rintro en w24 ⟨rfl, hb24⟩
                  have B24 := hid (B23.out.ext hb24)
                  have Q24 := hid (bthen Q23.out hb24)
                  clear hb24 y21
                  cases h24 : Ru.num d.zoom with
                  | true =>
                    have h24' := hid h24
                    clear h24
                    go_wp2_with fail
                    go_meet
                    case rel => exact ⟨congrArg Value.bool (show _ = restB d by unfold restB; simp only [h19'.out, h20'.out, hA21'.out, h22'.out, h23'.out, h24'.out, Bool.and_true, Bool.true_or]), B24.out, Q24.out⟩
                  | false =>
                    have h24' := hid h24
                    clear h24
                    go_wp2_with fail
                    go_meet
                    case rel => exact ⟨congrArg Value.bool (show _ = restB d by unfold restB; simp only [h19'.out, h20'.out, hA21'.out, h22'.out, h23'.out, h24'.out, Bool.and_true, Bool.and_false, Bool.true_or]), B24.out, Q24.out⟩
                | false =>
                  have h23' := hid h23
                  clear h23
                  go_wp2_with fail
                  go_meet
                  case rel => exact ⟨congrArg Value.bool (show _ = restB d by unfold restB; simp only [h19'.out, h20'.out, hA21'.out, h22'.out, h23'.out, Bool.false_and, Bool.and_true, Bool.and_false, Bool.true_or]), B23.out, Q23.out⟩
              | false =>
                have h22' := hid h22
                clear h22
                go_wp2_with fail
                go_meet
                case rel => exact ⟨congrArg Value.bool (show _ = restB d by unfold restB; simp only [h19'.out, h20'.out, hA21'.out, h22'.out, Bool.false_and, Bool.and_true, Bool.and_false, Bool.true_or]), B22.out, Q22.out⟩
            | false =>
              have hA21' := hid hA21
              have y16 := B20.out.cell 16 (v := .bool d.place.any) rfl
              rw [hA21] at y16
              clear hA21
              have y17 := B20.out.cell 17 (v := .string d.place.name) rfl
              have y17b := B20.out.cell (16 + 1) (v := .string d.place.name) rfl
              by_cases hm21 : d.place.name.toList = []
              · have hm21' := hid (show (d.place.name.data.toList != []) = false by rw [← ByteArray.toList_eq, hm21]; rfl)
                go_wp2_with fail
                go_meet
                case rel => exact ⟨congrArg Value.bool (show _ = restB d by unfold restB; simp only [h19'.out, h20'.out, hA21'.out, hm21'.out, Bool.false_and, Bool.and_true, Bool.and_false, Bool.or_false]), B20.out, Q20.out⟩
              · have hm21' := hid (show (d.place.name.data.toList != []) = true by rw [← ByteArray.toList_eq]; exact bne_iff_ne.2 hm21)
                have hq21 : (d.place.name.toList == []) = false := beq_eq_false_iff_ne.2 hm21
                have y9 := B20.out.cell 9 (v := .int .i64 d.lo) rfl
                go_wp2_with fail
                refine (rsmall_any d.lo _).mono ?_
                rintro en w25 ⟨rfl, hb25⟩
                have B25 := hid (B20.out.ext hb25)
                have Q25 := hid (bthen Q20.out hb25)
                clear hb25 y9 y16 y17 y17b
                cases h25 : Ru.num d.lo with
                | true =>
                  have h25' := hid h25
                  clear h25
                  have y10 := B25.out.cell 10 (v := .int .i64 d.hi) rfl
                  go_wp2_with fail
                  refine (rsmall_any d.hi _).mono ?_
                  rintro en w26 ⟨rfl, hb26⟩
                  have B26 := hid (B25.out.ext hb26)
                  have Q26 := hid (bthen Q25.out hb26)
                  clear hb26 y10
                  cases h26 : Ru.num d.hi with
                  | true =>
                    have h26' := hid h26
                    clear h26
                    have y21 := B26.out.cell 21 (v := .int .i64 d.zoom) rfl
                    go_wp2_with fail
                    refine (rsmall_any d.zoom _).mono ?_
                    rintro en w27 ⟨rfl, hb27⟩
                    have B27 := hid (B26.out.ext hb27)
                    have Q27 := hid (bthen Q26.out hb27)
                    clear hb27 y21
                    cases h27 : Ru.num d.zoom with
                    | true =>
                      have h27' := hid h27
                      clear h27
                      go_wp2_with fail
                      go_meet
                      case rel => exact ⟨congrArg Value.bool (show _ = restB d by unfold restB; simp only [h19'.out, h20'.out, hA21'.out, hm21'.out, h25'.out, h26'.out, h27'.out, Bool.and_true, Bool.or_true]), B27.out, Q27.out⟩
                    | false =>
                      have h27' := hid h27
                      clear h27
                      go_wp2_with fail
                      go_meet
                      case rel => exact ⟨congrArg Value.bool (show _ = restB d by unfold restB; simp only [h19'.out, h20'.out, hA21'.out, hm21'.out, h25'.out, h26'.out, h27'.out, Bool.and_true, Bool.and_false, Bool.or_true]), B27.out, Q27.out⟩
                  | false =>
                    have h26' := hid h26
                    clear h26
                    go_wp2_with fail
                    go_meet
                    case rel => exact ⟨congrArg Value.bool (show _ = restB d by unfold restB; simp only [h19'.out, h20'.out, hA21'.out, hm21'.out, h25'.out, h26'.out, Bool.false_and, Bool.and_true, Bool.and_false, Bool.or_true]), B26.out, Q26.out⟩
                | false =>
                  have h25' := hid h25
                  clear h25
                  go_wp2_with fail
                  go_meet
                  case rel => exact ⟨congrArg Value.bool (show _ = restB d by unfold restB; simp only [h19'.out, h20'.out, hA21'.out, hm21'.out, h25'.out, Bool.false_and, Bool.and_true, Bool.and_false, Bool.or_true]), B25.out, Q25.out⟩
          | false =>
            have h20' := hid h20
            clear h20
            go_wp2_with fail
            go_meet
            case rel => exact ⟨congrArg Value.bool (show _ = restB d by unfold restB; simp only [h19'.out, h20'.out, Bool.false_and, Bool.and_false]), B20.out, Q20.out⟩
        | false =>
          have h19' := hid h19
          clear h19
          go_wp2_with fail
          go_meet
          case rel => exact ⟨congrArg Value.bool (show _ = restB d by unfold restB; simp only [h19'.out, Bool.false_and]), B19.out, Q19.out⟩
      case rest =>
      as_aux_lemma =>
      obtain ⟨rfl, hBg, hQg⟩ := hcut
      have Bg := hid hBg
      have Qg := hid hQg
      clear hBg hQg Bf Qf
      have e2 := hid (show Ru.rRight d = (Ru.rNamed d && Ru.rNumber d && c && Ru.rRole d && restB d) by rw [e.out, hbx.out, if_pos h45'.out])
      generalize Ru.rNamed d = n1 at *
      generalize Ru.rNumber d = n2 at *
      generalize Ru.rRole d = n4 at *
      generalize restB d = n5 at *
      cases n1 with
      | false =>
        go_wp2_with fail
        go_ret
        exact ⟨ret_bool (by rw [e2.out]; simp), Qg.out⟩
      | true =>
        cases n2 with
        | false =>
          go_wp2_with fail
          go_ret
          exact ⟨ret_bool (by rw [e2.out]; simp), Qg.out⟩
        | true =>
          cases c with
          | false =>
            go_wp2_with fail
            go_ret
            exact ⟨ret_bool (by rw [e2.out]; simp), Qg.out⟩
          | true =>
            cases n4 with
            | false =>
              go_wp2_with fail
              go_ret
              exact ⟨ret_bool (by rw [e2.out]; simp), Qg.out⟩
            | true =>
              cases n5 with
              | false =>
                go_wp2_with fail
                go_ret
                exact ⟨ret_bool (by rw [e2.out]; simp), Qg.out⟩
              | true =>
                go_wp2_with fail
                go_ret
                exact ⟨ret_bool (by rw [e2.out]; simp), Qg.out⟩
end Go.Proofs.YtnoieobjfihbeaaDoor
