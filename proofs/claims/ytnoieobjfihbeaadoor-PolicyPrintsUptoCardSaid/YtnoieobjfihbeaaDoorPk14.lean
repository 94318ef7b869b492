/-
  The document's own printer of policies: a line of the kind 5.
  The document's own printer of policies: a line of the kind 3.
-/
import Derived.Test.YtnoieobjfihbeaaDoorPk13
import Derived.Test.YtnoieobjfihbeaaDoorPk10

namespace Go.Proofs.YtnoieobjfihbeaaDoor
open Go.RowKit Go.Sort

set_option maxRecDepth 100000 in
set_option maxHeartbeats 8000000 in
theorem rline_5 {d : Po.Decl} {v : Value} {w : World} (hk : d.kind = 5) (hm : Ru.may d = true) (hn1 : d.role.name.size ≤ 140737488355328) (hn2 : d.label.name.size ≤ 140737488355328) (hn3 : d.place.name.size ≤ 140737488355328) :
    Calls Tryd.prog 18 #[.agg (declCells d v)] w fun e w' => e = .returned (.string ⟨(Pt.lineB d).toArray⟩) ∧ Below w.heap.size w w' := by
  have hb : Ru.ruleD d = true := by
    unfold Ru.may at hm
    rw [if_neg (by omega), if_neg (by omega), if_pos (by omega)] at hm
    simp only [Bool.and_eq_true] at hm
    exact hm.2
  unfold Ru.ruleD at hb
  simp only [Bool.and_eq_true] at hb
  obtain ⟨⟨⟨r1, ⟨⟨l1, h1⟩, z1⟩⟩, b1⟩, p1⟩ := hb
  have p2 : Ru.rightW d.place = true := Pt.place_right p1
  have cR := hid (rwho_text r1 ⟨#[97, 110, 121]⟩)
  have cL := hid (rwho_text b1 ⟨#[97, 110, 121]⟩)
  have cP := hid (rwho_text p2 ⟨#[97, 108, 108]⟩)
  have cZ := hid (rtext_i (num_bounds z1).1 (num_bounds z1).2)
  have cLo := hid (rtext_i (num_bounds l1).1 (num_bounds l1).2)
  have cHi := hid (rtext_i (num_bounds h1).1 (num_bounds h1).2)
  obtain ⟨tR, eR⟩ : ∃ t : ByteArray, (⟨(Pt.whoB (⟨#[97, 110, 121]⟩ : ByteArray).data.toList d.role).toArray⟩ : ByteArray) = t := ⟨_, rfl⟩
  obtain ⟨tL, eL⟩ : ∃ t : ByteArray, (⟨(Pt.whoB (⟨#[97, 110, 121]⟩ : ByteArray).data.toList d.label).toArray⟩ : ByteArray) = t := ⟨_, rfl⟩
  obtain ⟨tP, eP⟩ : ∃ t : ByteArray, (⟨(Pt.whoB (⟨#[97, 108, 108]⟩ : ByteArray).data.toList d.place).toArray⟩ : ByteArray) = t := ⟨_, rfl⟩
  obtain ⟨tZ, eZ⟩ : ∃ t : ByteArray, (⟨(Go.Lib.itoa d.zoom).toArray⟩ : ByteArray) = t := ⟨_, rfl⟩
  obtain ⟨tA, eA⟩ : ∃ t : ByteArray, (⟨(Go.Lib.itoa d.lo).toArray⟩ : ByteArray) = t := ⟨_, rfl⟩
  obtain ⟨tB, eB⟩ : ∃ t : ByteArray, (⟨(Go.Lib.itoa d.hi).toArray⟩ : ByteArray) = t := ⟨_, rfl⟩
  obtain ⟨tT, eT⟩ : ∃ t : ByteArray, (⟨(Pt.tiersB d.lo d.hi).toArray⟩ : ByteArray) = t := ⟨_, rfl⟩
  have sR : tR.size ≤ 140737488355328 := eR ▸ who_short r1 hn1 (by decide)
  have sL : tL.size ≤ 140737488355328 := eL ▸ who_short b1 hn2 (by decide)
  have sP : tP.size ≤ 140737488355328 := eP ▸ who_short p2 hn3 (by decide)
  have sT : tT.size ≤ 100 := eT ▸ tiers_short l1 h1
  have sZ : tZ.size ≤ 21 := eZ ▸ num_short z1
  have sA : tA.size ≤ 21 := eA ▸ num_short l1
  have sB : tB.size ≤ 21 := eB ▸ num_short h1
  have hl := hid (show Pt.lineB d = [99, 97, 112] ++ [32, 114, 111, 108, 101, 32] ++ tR.data.toList ++ [32, 116, 105, 101, 114, 32] ++ tT.data.toList ++ [32, 108, 97, 98, 101, 108, 32] ++ tL.data.toList ++ [32, 105, 110, 32] ++ tP.data.toList ++ [32, 122, 111, 111, 109, 32] ++ tZ.data.toList ++ [59, 10] by
    rw [← eR, ← eL, ← eP, ← eZ, ← eT]
    unfold Pt.lineB Pt.firstB Pt.restB
    rw [hk]
    simp [Pt.put, Po.wRole, Po.wCap, Po.wTier, Po.wLabel, Po.wIn, Po.wZoom, Po.wAny, Po.wAll])
  rw [eR] at cR
  rw [eL] at cL
  rw [eP] at cP
  rw [eZ] at cZ
  rw [eA] at cLo
  rw [eB] at cHi
  have hT : Hid (tT = if d.lo = 0 ∧ d.hi = 7 then ⟨#[97, 110, 121]⟩ else if d.lo = d.hi then tA else tA ++ ⟨#[46, 46]⟩ ++ tB) := hid (by
    rw [← eT, ← eA, ← eB]
    unfold Pt.tiersB
    split
    · rfl
    · split
      · rfl
      · apply ByteArray.ext
        simp)
  have cL2 := hid (show ∀ w, Calls Tryd.prog 35 #[.agg #[.bool d.label.any, .string d.label.name, .int .i64 d.label.n, .int .i64 d.label.line, .int .i64 d.label.col], .string ⟨#[97, 110, 121]⟩] w fun e w' => e = .returned (.string tL) ∧ Below w.heap.size w w' from cL.out)
  have cP2 := hid (show ∀ w, Calls Tryd.prog 35 #[.agg #[.bool d.place.any, .string d.place.name, .int .i64 d.place.n, .int .i64 d.place.line, .int .i64 d.place.col], .string ⟨#[97, 108, 108]⟩] w fun e w' => e = .returned (.string tP) ∧ Below w.heap.size w w' from cP.out)
  clear cL cP
  clear eR eL eP eZ eA eB eT hm r1 l1 h1 z1 b1 p1 p2
  have Q0 := hid (balloc w (.cells (declCells d v) 44))
  have B0 := hid (Blk.new w (declCells d v) 44)
  have k0 := B0.out.cell 0 (v := .int .i64 d.kind) rfl
  rw [hk] at k0
  go_enter Tryd.func18, Tryd.ntmps18
  go_upto_region 1 with (fail)
  generalize hW : w.alloc _ = wx at *
  clear hW
  have S0 : wx.drew.cell? ⟨w.heap.size, 0, none⟩ = some (.int .i64 5) := k0
  go_region_with (first
    | ((go_at_call 33
        with_reducible refine (lwords_any _).mono ?_
        rintro en w3 ⟨⟨rfl, X3⟩, hb⟩
        have Q3 := hid (bthen Q0.out.drew hb)
        have B3 := hid ((Blk.drew B0.out).ext hb)
        have S3 : w3.cell? ⟨w.heap.size, 0, none⟩ = some (.int .i64 5) := B3.out.cell 0 (by show some (Value.int .i64 d.kind) = _; rw [hk])
        have x1 : w3.cell? ⟨wx.heap.size, 5, none⟩ = some (.string ⟨#[99, 97, 112]⟩) := X3.cell 5 rfl
        clear X3 hb)))
  all_goals
    have c4 : w3.cell? ⟨w.heap.size, 4, none⟩ = some (.bool d.role.any) := B3.out.cell 4 rfl
    have c5 : w3.cell? ⟨w.heap.size, 4 + 1, none⟩ = some (.string d.role.name) := B3.out.cell 5 rfl
    have c6 : w3.cell? ⟨w.heap.size, 4 + 1 + 1, none⟩ = some (.int .i64 d.role.n) := B3.out.cell 6 rfl
    have c7 : w3.cell? ⟨w.heap.size, 4 + 1 + 1 + 1, none⟩ = some (.int .i64 d.role.line) := B3.out.cell 7 rfl
    have c8 : w3.cell? ⟨w.heap.size, 4 + 1 + 1 + 1 + 1, none⟩ = some (.int .i64 d.role.col) := B3.out.cell 8 rfl
    clear x1 k0
    go_upto_region 15 with (fail)
    go_wp2_with fail
    refine (cR.out _).mono ?_
    rintro e w5 ⟨rfl, hb5⟩
    have Q5 := hid (bthen Q3.out hb5)
    have B5 := hid (B3.out.ext hb5)
    have S5 : w5.cell? ⟨w.heap.size, 0, none⟩ = some (.int .i64 5) := B5.out.cell 0 (by show some (Value.int .i64 d.kind) = _; rw [hk])
    clear hb5 c4 c5 c6 c7 c8 S3 B3 Q3
    go_upto_region 18 with (fail)
    clear S5
    have q1 : ¬ (9223372036854775807 < tA.size + 2) := by omega
    have q2 : ¬ (9223372036854775807 < tA.size + 2 + tB.size) := by omega
    have F5 : w5.drew.cell? ⟨w.heap.size, 9, none⟩ = some (.int .i64 d.lo) ∧ w5.drew.cell? ⟨w.heap.size, 10, none⟩ = some (.int .i64 d.hi) := ⟨B5.out.cell 9 rfl, B5.out.cell 10 rfl⟩
    go_region_held3 (fun w' => w'.cell? ⟨w.heap.size, 9, none⟩ = some (.int .i64 d.lo) ∧ w'.cell? ⟨w.heap.size, 10, none⟩ = some (.int .i64 d.hi)) (first | with_reducible assumption | go_keep) (first
      | ((go_at_call 34
          with_reducible refine (cLo.out _).mono ?_
          rintro en w6 ⟨rfl, hb⟩
          have B6 := hid ((Blk.drew B5.out).ext hb)
          have Q6 := hid (bthen Q5.out.drew hb)
          have F6 : w6.cell? ⟨w.heap.size, 9, none⟩ = some (.int .i64 d.lo) ∧ w6.cell? ⟨w.heap.size, 10, none⟩ = some (.int .i64 d.hi) := ⟨B6.out.cell 9 rfl, B6.out.cell 10 rfl⟩
          clear hb F5))
      | ((go_at_call 34
          with_reducible refine (cHi.out _).mono ?_
          rintro en w7 ⟨rfl, hb⟩
          have B7 := hid (B6.out.ext hb)
          have Q7 := hid (bthen Q6.out hb)
          have F7 : w7.cell? ⟨w.heap.size, 9, none⟩ = some (.int .i64 d.lo) ∧ w7.cell? ⟨w.heap.size, 10, none⟩ = some (.int .i64 d.hi) := ⟨B7.out.cell 9 rfl, B7.out.cell 10 rfl⟩
          clear hb F6)))
    clear B5 B6 Q5 Q6 F7 cR cHi q1 q2
    obtain ⟨tS, hS⟩ : ∃ t : ByteArray, t = ⟨#[99, 97, 112]⟩ ++ ⟨#[32, 114, 111, 108, 101, 32]⟩ ++ tR := ⟨_, rfl⟩
    have sS : tS.size ≤ 140737488355328 + 100 := by
      have e1 : (⟨#[99, 97, 112]⟩ : ByteArray).size ≤ 5 := by decide
      have e2 : (⟨#[32, 114, 111, 108, 101, 32]⟩ : ByteArray).size = 6 := rfl
      rw [hS, ByteArray.size_append, ByteArray.size_append]
      omega
    have hS' := hid hS
    clear hS
    obtain ⟨tM, hM⟩ : ∃ t : ByteArray, t = (if d.lo = d.hi then tA else tA ++ ⟨#[46, 46]⟩ ++ tB) := ⟨_, rfl⟩
    have hM' := hid hM
    rw [← hM] at hT
    clear hM
    have c9 : w7.cell? ⟨w.heap.size, 9, none⟩ = some (.int .i64 d.lo) := B7.out.cell 9 rfl
    have c10 : w7.cell? ⟨w.heap.size, 10, none⟩ = some (.int .i64 d.hi) := B7.out.cell 10 rfl
    go_upto_if 96 with (fail)
    clear sR
    go_cut [3, 6] (fun s3 s6 wx => s3 = .string tS ∧ s6 = .string tM ∧ Blk wx w.heap.size (declCells d v) 44 ∧ Below w.heap.size w wx)
    case first =>
      by_cases he : d.lo = d.hi
      · obtain rfl : tM = tA := by rw [hM'.out, if_pos he]
        have heq : (d.lo == d.hi) = true := beq_iff_eq.2 he
        clear he hT hM'
        go_wp2_with fail
        refine (cLo.out _).mono ?_
        rintro e w8 ⟨rfl, hb8⟩
        have Q8 := hid (bthen Q7.out hb8)
        have B8 := hid (B7.out.ext hb8)
        clear hb8
        go_wp2_with fail
        go_meet
        case rel => exact ⟨congrArg Value.string hS'.out.symm, rfl, B8.out, Q8.out⟩
      · have heq : (d.lo == d.hi) = false := beq_eq_false_iff_ne.2 he
        obtain rfl : tM = tA ++ ⟨#[46, 46]⟩ ++ tB := by rw [hM'.out, if_neg he]
        clear he hT hM'
        go_wp2_with fail
        go_meet
        case rel => exact ⟨congrArg Value.string hS'.out.symm, rfl, B7.out, Q7.out⟩
    case rest =>
    obtain ⟨rfl, rfl, hB, hQ⟩ := hcut
    have B8 := hid hB
    have Q8 := hid hQ
    clear hB hQ B7 Q7 c9 c10 hM' cLo
    go_upto_region 21 with (fail)
    have c9 : wc.cell? ⟨w.heap.size, 9, none⟩ = some (.int .i64 d.lo) := B8.out.cell 9 rfl
    have c10 : wc.cell? ⟨w.heap.size, 10, none⟩ = some (.int .i64 d.hi) := B8.out.cell 10 rfl
    go_cut [107] (fun u wx => u = .bool (decide (d.lo = 0 ∧ d.hi = 7)) ∧ wx = wc)
    case first =>
      by_cases h0 : d.lo = 0
      · rw [h0] at c9
        by_cases h7 : d.hi = 7
        · rw [h7] at c10
          have hb := hid (show true = decide (d.lo = 0 ∧ d.hi = 7) from (decide_eq_true ⟨h0, h7⟩).symm)
          clear h0 h7 hT
          go_wp2_with fail
          go_meet
          case rel => exact ⟨congrArg Value.bool hb.out, rfl⟩
        · have heq : (d.hi == 7) = false := beq_eq_false_iff_ne.2 h7
          have hb := hid (show false = decide (d.lo = 0 ∧ d.hi = 7) from (decide_eq_false (fun h => h7 h.2)).symm)
          clear h0 h7 hT
          go_wp2_with fail
          go_meet
          case rel => exact ⟨congrArg Value.bool hb.out, rfl⟩
      · have heq : (d.lo == 0) = false := beq_eq_false_iff_ne.2 h0
        have hb := hid (show false = decide (d.lo = 0 ∧ d.hi = 7) from (decide_eq_false (fun h => h0 h.1)).symm)
        clear h0 hT
        go_wp2_with fail
        go_meet
        case rel => exact ⟨congrArg Value.bool hb.out, rfl⟩
    case rest =>
    obtain ⟨rfl, rfl⟩ := hcut
    clear c9 c10
    obtain ⟨tb, htb⟩ : ∃ b : Bool, b = decide (d.lo = 0 ∧ d.hi = 7) := ⟨_, rfl⟩
    have hT2 : Hid (tT = if tb then ⟨#[97, 110, 121]⟩ else tM) := hid (by
      rw [hT.out, htb]
      by_cases h : d.lo = 0 ∧ d.hi = 7 <;> simp [h])
    rw [← htb]
    clear htb hT
    go_upto_if 107 with (fail)
    go_cut [6] (fun s6 wx => s6 = .string tT ∧ wx = wc)
    case first =>
      cases tb with
      | true =>
        obtain rfl : tT = ⟨#[97, 110, 121]⟩ := hT2.out
        clear hT2
        go_wp2_with fail
        go_meet
        case rel => exact ⟨rfl, rfl⟩
      | false =>
        obtain rfl : tT = tM := hT2.out
        clear hT2
        go_wp2_with fail
        go_meet
        case rel => exact ⟨rfl, rfl⟩
    case rest =>
    obtain ⟨rfl, rfl⟩ := hcut
    clear hT2
    go_upto_region 23 with (fail)
    have q1 : ¬ (9223372036854775807 < tS.size + 6) := by omega
    have q2 : ¬ (9223372036854775807 < tS.size + 6 + tT.size) := by omega
    have q3 : ¬ (9223372036854775807 < tS.size + 6 + tT.size + 7) := by omega
    have q4 : ¬ (9223372036854775807 < tS.size + 6 + tT.size + 7 + tL.size) := by omega
    have q5 : ¬ (9223372036854775807 < tS.size + 6 + tT.size + 7 + tL.size + 4) := by omega
    have q6 : ¬ (9223372036854775807 < tS.size + 6 + tT.size + 7 + tL.size + 4 + tP.size) := by omega
    have q7 : ¬ (9223372036854775807 < tS.size + 6 + tT.size + 7 + tL.size + 4 + tP.size + 6) := by omega
    have q8 : ¬ (9223372036854775807 < tS.size + 6 + tT.size + 7 + tL.size + 4 + tP.size + 6 + tZ.size) := by omega
    have q9 : ¬ (9223372036854775807 < tS.size + 6 + tT.size + 7 + tL.size + 4 + tP.size + 6 + tZ.size + 2) := by omega
    have F8 : wc.drew.cell? ⟨w.heap.size, 11, none⟩ = some (.bool d.label.any) ∧ wc.drew.cell? ⟨w.heap.size, 11 + 1, none⟩ = some (.string d.label.name) ∧ wc.drew.cell? ⟨w.heap.size, 11 + 1 + 1, none⟩ = some (.int .i64 d.label.n) ∧ wc.drew.cell? ⟨w.heap.size, 11 + 1 + 1 + 1, none⟩ = some (.int .i64 d.label.line) ∧ wc.drew.cell? ⟨w.heap.size, 11 + 1 + 1 + 1 + 1, none⟩ = some (.int .i64 d.label.col) ∧ wc.drew.cell? ⟨w.heap.size, 16, none⟩ = some (.bool d.place.any) ∧ wc.drew.cell? ⟨w.heap.size, 16 + 1, none⟩ = some (.string d.place.name) ∧ wc.drew.cell? ⟨w.heap.size, 16 + 1 + 1, none⟩ = some (.int .i64 d.place.n) ∧ wc.drew.cell? ⟨w.heap.size, 16 + 1 + 1 + 1, none⟩ = some (.int .i64 d.place.line) ∧ wc.drew.cell? ⟨w.heap.size, 16 + 1 + 1 + 1 + 1, none⟩ = some (.int .i64 d.place.col) ∧ wc.drew.cell? ⟨w.heap.size, 21, none⟩ = some (.int .i64 d.zoom) := ⟨(Blk.drew B8.out).cell 11 rfl, (Blk.drew B8.out).cell 12 rfl, (Blk.drew B8.out).cell 13 rfl, (Blk.drew B8.out).cell 14 rfl, (Blk.drew B8.out).cell 15 rfl, (Blk.drew B8.out).cell 16 rfl, (Blk.drew B8.out).cell 17 rfl, (Blk.drew B8.out).cell 18 rfl, (Blk.drew B8.out).cell 19 rfl, (Blk.drew B8.out).cell 20 rfl, (Blk.drew B8.out).cell 21 rfl⟩
    go_region_held3 (fun w' => w'.cell? ⟨w.heap.size, 11, none⟩ = some (.bool d.label.any) ∧ w'.cell? ⟨w.heap.size, 11 + 1, none⟩ = some (.string d.label.name) ∧ w'.cell? ⟨w.heap.size, 11 + 1 + 1, none⟩ = some (.int .i64 d.label.n) ∧ w'.cell? ⟨w.heap.size, 11 + 1 + 1 + 1, none⟩ = some (.int .i64 d.label.line) ∧ w'.cell? ⟨w.heap.size, 11 + 1 + 1 + 1 + 1, none⟩ = some (.int .i64 d.label.col) ∧ w'.cell? ⟨w.heap.size, 16, none⟩ = some (.bool d.place.any) ∧ w'.cell? ⟨w.heap.size, 16 + 1, none⟩ = some (.string d.place.name) ∧ w'.cell? ⟨w.heap.size, 16 + 1 + 1, none⟩ = some (.int .i64 d.place.n) ∧ w'.cell? ⟨w.heap.size, 16 + 1 + 1 + 1, none⟩ = some (.int .i64 d.place.line) ∧ w'.cell? ⟨w.heap.size, 16 + 1 + 1 + 1 + 1, none⟩ = some (.int .i64 d.place.col) ∧ w'.cell? ⟨w.heap.size, 21, none⟩ = some (.int .i64 d.zoom)) (first | with_reducible assumption | go_keep) (first
      | ((go_at_call 35
          with_reducible refine (cL2.out _).mono ?_
          rintro en w9 ⟨rfl, hb⟩
          have B9 := hid ((Blk.drew B8.out).ext hb)
          have Q9 := hid (bthen Q8.out.drew hb)
          have F9 : w9.cell? ⟨w.heap.size, 11, none⟩ = some (.bool d.label.any) ∧ w9.cell? ⟨w.heap.size, 11 + 1, none⟩ = some (.string d.label.name) ∧ w9.cell? ⟨w.heap.size, 11 + 1 + 1, none⟩ = some (.int .i64 d.label.n) ∧ w9.cell? ⟨w.heap.size, 11 + 1 + 1 + 1, none⟩ = some (.int .i64 d.label.line) ∧ w9.cell? ⟨w.heap.size, 11 + 1 + 1 + 1 + 1, none⟩ = some (.int .i64 d.label.col) ∧ w9.cell? ⟨w.heap.size, 16, none⟩ = some (.bool d.place.any) ∧ w9.cell? ⟨w.heap.size, 16 + 1, none⟩ = some (.string d.place.name) ∧ w9.cell? ⟨w.heap.size, 16 + 1 + 1, none⟩ = some (.int .i64 d.place.n) ∧ w9.cell? ⟨w.heap.size, 16 + 1 + 1 + 1, none⟩ = some (.int .i64 d.place.line) ∧ w9.cell? ⟨w.heap.size, 16 + 1 + 1 + 1 + 1, none⟩ = some (.int .i64 d.place.col) ∧ w9.cell? ⟨w.heap.size, 21, none⟩ = some (.int .i64 d.zoom) := ⟨B9.out.cell 11 rfl, B9.out.cell 12 rfl, B9.out.cell 13 rfl, B9.out.cell 14 rfl, B9.out.cell 15 rfl, B9.out.cell 16 rfl, B9.out.cell 17 rfl, B9.out.cell 18 rfl, B9.out.cell 19 rfl, B9.out.cell 20 rfl, B9.out.cell 21 rfl⟩
          clear hb F8))
      | ((go_at_call 35
          with_reducible refine (cP2.out _).mono ?_
          rintro en w10 ⟨rfl, hb⟩
          have B10 := hid (B9.out.ext hb)
          have Q10 := hid (bthen Q9.out hb)
          have F10 : w10.cell? ⟨w.heap.size, 11, none⟩ = some (.bool d.label.any) ∧ w10.cell? ⟨w.heap.size, 11 + 1, none⟩ = some (.string d.label.name) ∧ w10.cell? ⟨w.heap.size, 11 + 1 + 1, none⟩ = some (.int .i64 d.label.n) ∧ w10.cell? ⟨w.heap.size, 11 + 1 + 1 + 1, none⟩ = some (.int .i64 d.label.line) ∧ w10.cell? ⟨w.heap.size, 11 + 1 + 1 + 1 + 1, none⟩ = some (.int .i64 d.label.col) ∧ w10.cell? ⟨w.heap.size, 16, none⟩ = some (.bool d.place.any) ∧ w10.cell? ⟨w.heap.size, 16 + 1, none⟩ = some (.string d.place.name) ∧ w10.cell? ⟨w.heap.size, 16 + 1 + 1, none⟩ = some (.int .i64 d.place.n) ∧ w10.cell? ⟨w.heap.size, 16 + 1 + 1 + 1, none⟩ = some (.int .i64 d.place.line) ∧ w10.cell? ⟨w.heap.size, 16 + 1 + 1 + 1 + 1, none⟩ = some (.int .i64 d.place.col) ∧ w10.cell? ⟨w.heap.size, 21, none⟩ = some (.int .i64 d.zoom) := ⟨B10.out.cell 11 rfl, B10.out.cell 12 rfl, B10.out.cell 13 rfl, B10.out.cell 14 rfl, B10.out.cell 15 rfl, B10.out.cell 16 rfl, B10.out.cell 17 rfl, B10.out.cell 18 rfl, B10.out.cell 19 rfl, B10.out.cell 20 rfl, B10.out.cell 21 rfl⟩
          clear hb F9))
      | ((go_at_call 34
          with_reducible refine (cZ.out _).mono ?_
          rintro en w11 ⟨rfl, hb⟩
          have B11 := hid (B10.out.ext hb)
          have Q11 := hid (bthen Q10.out hb)
          have F11 : w11.cell? ⟨w.heap.size, 11, none⟩ = some (.bool d.label.any) ∧ w11.cell? ⟨w.heap.size, 11 + 1, none⟩ = some (.string d.label.name) ∧ w11.cell? ⟨w.heap.size, 11 + 1 + 1, none⟩ = some (.int .i64 d.label.n) ∧ w11.cell? ⟨w.heap.size, 11 + 1 + 1 + 1, none⟩ = some (.int .i64 d.label.line) ∧ w11.cell? ⟨w.heap.size, 11 + 1 + 1 + 1 + 1, none⟩ = some (.int .i64 d.label.col) ∧ w11.cell? ⟨w.heap.size, 16, none⟩ = some (.bool d.place.any) ∧ w11.cell? ⟨w.heap.size, 16 + 1, none⟩ = some (.string d.place.name) ∧ w11.cell? ⟨w.heap.size, 16 + 1 + 1, none⟩ = some (.int .i64 d.place.n) ∧ w11.cell? ⟨w.heap.size, 16 + 1 + 1 + 1, none⟩ = some (.int .i64 d.place.line) ∧ w11.cell? ⟨w.heap.size, 16 + 1 + 1 + 1 + 1, none⟩ = some (.int .i64 d.place.col) ∧ w11.cell? ⟨w.heap.size, 21, none⟩ = some (.int .i64 d.zoom) := ⟨B11.out.cell 11 rfl, B11.out.cell 12 rfl, B11.out.cell 13 rfl, B11.out.cell 14 rfl, B11.out.cell 15 rfl, B11.out.cell 16 rfl, B11.out.cell 17 rfl, B11.out.cell 18 rfl, B11.out.cell 19 rfl, B11.out.cell 20 rfl, B11.out.cell 21 rfl⟩
          clear hb F10)))
    clear B8 B9 B10 B11 Q8 Q9 Q10 F11
    go_wp2_with fail
    go_ret
    refine ⟨ret_str ?_, Q11.out⟩
    rw [hl.out, hS'.out]
    apply ByteArray.ext
    simp

end Go.Proofs.YtnoieobjfihbeaaDoor

namespace Go.Proofs.YtnoieobjfihbeaaDoor
open Go.RowKit Go.Sort

theorem boxesB_cons (b : Po.Box) (l : List Po.Box) : Pt.boxesB (b :: l) = Pt.boxB b ++ l.flatMap Pt.plusB := rfl
theorem boxesB_step {l : List Po.Box} {i : Nat} (hi : i < l.length) : Pt.boxesB (l.take (i + 1)) = Pt.boxesB (l.take i) ++ (if i = 0 then Pt.boxB l[i] else Pt.plusB l[i]) := by
  cases l with
  | nil => simp at hi
  | cons b l =>
    cases i with
    | zero => simp [Pt.boxesB]
    | succ i =>
      have h : i < l.length := by simpa using hi
      rw [List.take_succ_cons, List.take_succ_cons]
      rw [boxesB_cons, boxesB_cons, List.take_succ_eq_append_getElem h, List.flatMap_append]
      simp
/-- a region's line, so far -/
def regB (d : Po.Decl) (i : Nat) : ByteArray := ⟨([114, 101, 103, 105, 111, 110] ++ [32] ++ d.name.data.toList ++ [32, 61] ++ Pt.boxesB (d.boxes.take i)).toArray⟩
def regP (d : Po.Decl) (i : Nat) : ByteArray := if i = 0 then regB d i else regB d i ++ ⟨#[32, 43]⟩
theorem regB_line {d : Po.Decl} (hk : d.kind = 3) : (⟨(Pt.lineB d).toArray⟩ : ByteArray) = regB d d.boxes.length ++ ⟨#[59, 10]⟩ := by
  apply ByteArray.ext
  unfold regB Pt.lineB Pt.firstB Pt.restB
  rw [hk, List.take_length]
  simp [Pt.put, Po.wRegion]
theorem regB_step {d : Po.Decl} {i : Nat} (hi : i < d.boxes.length) : regB d (i + 1) = regP d i ++ ⟨#[32]⟩ ++ ⟨(Go.Lib.itoa d.boxes[i].x0).toArray⟩ ++ ⟨#[32]⟩ ++ ⟨(Go.Lib.itoa d.boxes[i].y0).toArray⟩ ++ ⟨#[32]⟩ ++ ⟨(Go.Lib.itoa d.boxes[i].x1).toArray⟩ ++ ⟨#[32]⟩ ++ ⟨(Go.Lib.itoa d.boxes[i].y1).toArray⟩ := by
  apply ByteArray.ext
  unfold regP regB
  rw [boxesB_step hi]
  by_cases h : i = 0
  · rw [if_pos h, if_pos h]
    simp [Pt.boxB, Pt.put]
  · rw [if_neg h, if_neg h]
    simp [Pt.plusB, Pt.boxB, Pt.put]
theorem boxesB_le2 (l : List Po.Box) (i : Nat) : (Pt.boxesB (l.take i)).length ≤ (Pt.boxesB l).length := by
  cases l with
  | nil => simp
  | cons b l =>
    cases i with
    | zero => simp [Pt.boxesB]
    | succ i =>
      rw [List.take_succ_cons]
      unfold Pt.boxesB
      rw [List.length_append, List.length_append]
      have : (l.flatMap Pt.plusB).length = ((l.take i).flatMap Pt.plusB).length + ((l.drop i).flatMap Pt.plusB).length := by
        rw [← List.length_append, ← List.flatMap_append, List.take_append_drop]
      omega
theorem regB_size {d : Po.Decl} (hk : d.kind = 3) (i : Nat) : (regB d i).size ≤ (Pt.lineB d).length := by
  have h1 : (regB d i).size = (([114, 101, 103, 105, 111, 110] ++ [32] ++ d.name.data.toList ++ [32, 61] ++ Pt.boxesB (d.boxes.take i)) : List UInt8).length := by
    unfold regB
    show Array.size _ = _
    rw [List.size_toArray]
  have h2 : Pt.lineB d = [114, 101, 103, 105, 111, 110] ++ [32] ++ d.name.data.toList ++ [32, 61] ++ Pt.boxesB d.boxes ++ [59, 10] := by
    unfold Pt.lineB Pt.firstB Pt.restB
    rw [hk]
    simp [Pt.put, Po.wRegion]
  have h3 := boxesB_le2 d.boxes i
  rw [h1, h2]
  simp only [List.length_append, List.length_cons, List.length_nil]
  omega
set_option maxRecDepth 100000 in
set_option maxHeartbeats 8000000 in
theorem rline_3 {d : Po.Decl} {v : Value} {w : World} (hk : d.kind = 3) (hm : Ru.may d = true) (hn : d.name.size ≤ 140737488355328) (hr : BRow w v d.boxes) (hbn : d.boxes.length ≤ 140737488355328) (hlen : (Pt.lineB d).length ≤ 140737488355328) :
    Calls Tryd.prog 18 #[.agg (declCells d v)] w fun e w' => e = .returned (.string ⟨(Pt.lineB d).toArray⟩) ∧ Below w.heap.size w w' := by
  have hbx : ∀ b ∈ d.boxes, Ru.boxN b = true := by
    have h := Pt.may_cases hm
    cases h with
    | region h3 _ _ hb _ _ _ => exact hb
    | named h3 => omega
    | rule h3 => omega
    | cloak h3 => omega
  have hbx' := hid hbx
  have hl := hid (regB_line hk)
  have hsz := hid (fun i => Nat.le_trans (regB_size hk i) hlen)
  have h00 := hid (show (regB d 0) = ⟨#[114, 101, 103, 105, 111, 110]⟩ ++ ⟨#[32]⟩ ++ d.name ++ ⟨#[32, 61]⟩ by
    apply ByteArray.ext
    unfold regB
    simp [Pt.boxesB])
  obtain ⟨bp, bc, rfl⟩ := hr.shape
  have hPR : Hid (0 < d.boxes.length → ∃ g off, bp = some ⟨g, off, none⟩ ∧ SRow w g off bc 4 boxArr d.boxes) := by
    refine hid (fun hpos => ?_)
    rcases brow_of hr with ⟨_, _, _, h0⟩ | ⟨g, off, cap, hv, hr⟩
    · rw [h0] at hpos; simp at hpos
    · cases hv; exact ⟨g, off, rfl, hr⟩
  have Q0 := hid (balloc w (.cells (declCells d (.slice bp d.boxes.length bc)) 44))
  have B0 := hid (Blk.new w (declCells d (.slice bp d.boxes.length bc)) 44)
  have k0 := B0.out.cell 0 (v := .int .i64 d.kind) rfl
  rw [hk] at k0
  clear hr hm hbx hlen
  go_enter Tryd.func18, Tryd.ntmps18
  go_upto_region 1 with (fail)
  generalize hW : w.alloc _ = wx at *
  clear hW
  have S0 : wx.drew.cell? ⟨w.heap.size, 0, none⟩ = some (.int .i64 3) := k0
  go_region_with (first
    | ((go_at_call 33
        with_reducible refine (lwords_any _).mono ?_
        rintro en w3 ⟨⟨rfl, X3⟩, hb⟩
        have Q3 := hid (bthen Q0.out.drew hb)
        have B3 := hid ((Blk.drew B0.out).ext hb)
        have S3 : w3.cell? ⟨w.heap.size, 0, none⟩ = some (.int .i64 3) := B3.out.cell 0 (by show some (Value.int .i64 d.kind) = _; rw [hk])
        have x1 : w3.cell? ⟨wx.heap.size, 3, none⟩ = some (.string ⟨#[114, 101, 103, 105, 111, 110]⟩) := X3.cell 3 rfl
        clear X3 hb)))
  all_goals
    have c1 : w3.cell? ⟨w.heap.size, 1, none⟩ = some (.string d.name) := B3.out.cell 1 rfl
    have c3 : w3.cell? ⟨w.heap.size, 3, none⟩ = some (.slice bp d.boxes.length bc) := B3.out.cell 3 rfl
    clear x1 k0
    have hn2 : ((d.name.size : Nat) : Int) ≤ 140737488355328 := by omega
    go_upto_region 7 with (fail)
    go_wp2_with fail
    clear c1 c3 S3
    go_loopw [3, 4] (fun u3 u4 wr => ∃ i : Nat, u4 = .int .i64 i ∧ u3 = .string (regB d i) ∧ i ≤ d.boxes.length ∧ Blk wr w.heap.size (declCells d (.slice bp d.boxes.length bc)) 44 ∧ Below w.heap.size w wr) (fun _ u4 _ => d.boxes.length - (intOf u4).toNat)
    case atStart => exact ⟨0, rfl, congrArg Value.string h00.out.symm, Nat.zero_le _, B3.out, Q3.out⟩
    case round =>
      obtain ⟨i, rfl, rfl, hle, hB, hQ⟩ := hrel
      have B4 := hid hB
      have Q4 := hid hQ
      clear hB hQ B3 Q3
      have hs4 := hsz.out i
      have y3 := B4.out.cell 3 (v := .slice bp d.boxes.length bc) rfl
      by_cases hlt : i < d.boxes.length
      · obtain ⟨gg, off, rfl, hg⟩ := hPR.out (by omega)
        have hat := hid ((hg.ext Q4.out).get i hlt)
        have hst := hid (regB_step hlt)
        have hxn := hbx'.out _ (List.getElem_mem hlt)
        generalize d.boxes[i] = x at *
        unfold Ru.boxN at hxn
        simp only [Bool.and_eq_true] at hxn
        obtain ⟨⟨⟨n0, n1⟩, n2⟩, n3⟩ := hxn
        have g0 := hid (rtext_i (num_bounds n0).1 (num_bounds n0).2)
        have g1 := hid (rtext_i (num_bounds n1).1 (num_bounds n1).2)
        have g2 := hid (rtext_i (num_bounds n2).1 (num_bounds n2).2)
        have g3 := hid (rtext_i (num_bounds n3).1 (num_bounds n3).2)
        have s0 := num_short n0
        have s1 := num_short n1
        have s2 := num_short n2
        have s3 := num_short n3
        generalize (⟨(Go.Lib.itoa x.x0).toArray⟩ : ByteArray) = t0 at *
        generalize (⟨(Go.Lib.itoa x.y0).toArray⟩ : ByteArray) = t1 at *
        generalize (⟨(Go.Lib.itoa x.x1).toArray⟩ : ByteArray) = t2 at *
        generalize (⟨(Go.Lib.itoa x.y1).toArray⟩ : ByteArray) = t3 at *
        have z := balloc wr (.cells (boxArr x) 73)
        have B5 := hid (B4.out.ext z)
        have Q5 := hid (bthen Q4.out z)
        have X5 := hid (Blk.new wr (boxArr x) 73)
        clear z hg n0 n1 n2 n3
        obtain ⟨sp, hsp⟩ : ∃ t, t = regP d i := ⟨_, rfl⟩
        rw [← hsp] at hst
        have hss : sp.size ≤ 140737488355328 + 2 := by
          rw [hsp]; unfold regP
          split
          · omega
          · rw [ByteArray.size_append]; have e : (⟨#[32, 43]⟩ : ByteArray).size = 2 := rfl; omega
        have hsp' := hid hsp
        clear hsp
        go_upto_if 42 with (fail)
        go_cut [3] from 34 to 70 (fun u3 wx => u3 = .string sp ∧ wx = wr)
        case first =>
          by_cases h0 : i = 0
          · obtain rfl : sp = regB d i := by rw [hsp'.out]; unfold regP; rw [if_pos h0]
            have hi0 : decide ((0 : Int) < (i : Int)) = false := decide_eq_false (by omega)
            have hi1 : ¬ 0 < i := by omega
            clear hsp' hst h0
            go_wp2_with fail
            go_meet
            case rel => exact ⟨rfl, rfl⟩
          · obtain rfl : sp = regB d i ++ ⟨#[32, 43]⟩ := by rw [hsp'.out]; unfold regP; rw [if_neg h0]
            have hi0 : decide ((0 : Int) < (i : Int)) = true := decide_eq_true (by omega)
            have hi1 : 0 < i := by omega
            clear hsp' hst h0
            go_wp2_with fail
            go_meet
            case rel => exact ⟨rfl, rfl⟩
        case rest =>
        obtain ⟨rfl, rfl⟩ := hcut
        clear hsp'
        go_upto_region 13 with (first | (refine wpList_load_at rfl 73 (.tmp 48) rfl 49 rfl gg (off + i * 4) (boxArr x) (hat.out) rfl Tryd.underlying73 rfl (by kernel_rfl) ?_) | (refine wpList_store_new rfl 73 (.tmp 5) (.tmp 49) rfl rfl wc 73 _ (boxArr x) rfl rfl rfl (by kernel_rfl) rfl (boxArr_one x) ?_))
        clear hat y3 B4 Q4
        have q1 : ¬ (9223372036854775807 < sp.size + 1) := by omega
        have q2 : ¬ (9223372036854775807 < sp.size + 1 + t0.size) := by omega
        have q3 : ¬ (9223372036854775807 < sp.size + 1 + t0.size + 1) := by omega
        have q4 : ¬ (9223372036854775807 < sp.size + 1 + t0.size + 1 + t1.size) := by omega
        have q5 : ¬ (9223372036854775807 < sp.size + 1 + t0.size + 1 + t1.size + 1) := by omega
        have q6 : ¬ (9223372036854775807 < sp.size + 1 + t0.size + 1 + t1.size + 1 + t2.size) := by omega
        have q7 : ¬ (9223372036854775807 < sp.size + 1 + t0.size + 1 + t1.size + 1 + t2.size + 1) := by omega
        have q8 : ¬ (9223372036854775807 < sp.size + 1 + t0.size + 1 + t1.size + 1 + t2.size + 1 + t3.size) := by omega
        generalize hwa : wc.alloc (.cells (boxArr x) 73) = wa at *
        clear hwa
        generalize wc.heap.size = kb at *
        have F5 : wa.drew.cell? ⟨kb, 0, none⟩ = some (.int .i64 x.x0) ∧ wa.drew.cell? ⟨kb, 1, none⟩ = some (.int .i64 x.y0) ∧ wa.drew.cell? ⟨kb, 2, none⟩ = some (.int .i64 x.x1) ∧ wa.drew.cell? ⟨kb, 3, none⟩ = some (.int .i64 x.y1) := ⟨(Blk.drew X5.out).cell 0 rfl, (Blk.drew X5.out).cell 1 rfl, (Blk.drew X5.out).cell 2 rfl, (Blk.drew X5.out).cell 3 rfl⟩
        go_region_held3 (fun w' => w'.cell? ⟨kb, 0, none⟩ = some (.int .i64 x.x0) ∧ w'.cell? ⟨kb, 1, none⟩ = some (.int .i64 x.y0) ∧ w'.cell? ⟨kb, 2, none⟩ = some (.int .i64 x.x1) ∧ w'.cell? ⟨kb, 3, none⟩ = some (.int .i64 x.y1)) (first | with_reducible assumption | go_keep) (first
          | ((go_at_call 34
              with_reducible refine (g0.out _).mono ?_
              rintro en w6 ⟨rfl, hb⟩
              have X6 := hid ((Blk.drew X5.out).ext hb)
              have B6 := hid ((Blk.drew B5.out).ext hb)
              have Q6 := hid (bthen Q5.out.drew hb)
              have F6 : w6.cell? ⟨kb, 0, none⟩ = some (.int .i64 x.x0) ∧ w6.cell? ⟨kb, 1, none⟩ = some (.int .i64 x.y0) ∧ w6.cell? ⟨kb, 2, none⟩ = some (.int .i64 x.x1) ∧ w6.cell? ⟨kb, 3, none⟩ = some (.int .i64 x.y1) := ⟨X6.out.cell 0 rfl, X6.out.cell 1 rfl, X6.out.cell 2 rfl, X6.out.cell 3 rfl⟩
              clear hb F5))
          | ((go_at_call 34
              with_reducible refine (g1.out _).mono ?_
              rintro en w7 ⟨rfl, hb⟩
              have X7 := hid (X6.out.ext hb)
              have B7 := hid (B6.out.ext hb)
              have Q7 := hid (bthen Q6.out hb)
              have F7 : w7.cell? ⟨kb, 0, none⟩ = some (.int .i64 x.x0) ∧ w7.cell? ⟨kb, 1, none⟩ = some (.int .i64 x.y0) ∧ w7.cell? ⟨kb, 2, none⟩ = some (.int .i64 x.x1) ∧ w7.cell? ⟨kb, 3, none⟩ = some (.int .i64 x.y1) := ⟨X7.out.cell 0 rfl, X7.out.cell 1 rfl, X7.out.cell 2 rfl, X7.out.cell 3 rfl⟩
              clear hb F6))
          | ((go_at_call 34
              with_reducible refine (g2.out _).mono ?_
              rintro en w8 ⟨rfl, hb⟩
              have X8 := hid (X7.out.ext hb)
              have B8 := hid (B7.out.ext hb)
              have Q8 := hid (bthen Q7.out hb)
              have F8 : w8.cell? ⟨kb, 0, none⟩ = some (.int .i64 x.x0) ∧ w8.cell? ⟨kb, 1, none⟩ = some (.int .i64 x.y0) ∧ w8.cell? ⟨kb, 2, none⟩ = some (.int .i64 x.x1) ∧ w8.cell? ⟨kb, 3, none⟩ = some (.int .i64 x.y1) := ⟨X8.out.cell 0 rfl, X8.out.cell 1 rfl, X8.out.cell 2 rfl, X8.out.cell 3 rfl⟩
              clear hb F7))
          | ((go_at_call 34
              with_reducible refine (g3.out _).mono ?_
              rintro en w9 ⟨rfl, hb⟩
              have X9 := hid (X8.out.ext hb)
              have B9 := hid (B8.out.ext hb)
              have Q9 := hid (bthen Q8.out hb)
              have F9 : w9.cell? ⟨kb, 0, none⟩ = some (.int .i64 x.x0) ∧ w9.cell? ⟨kb, 1, none⟩ = some (.int .i64 x.y0) ∧ w9.cell? ⟨kb, 2, none⟩ = some (.int .i64 x.x1) ∧ w9.cell? ⟨kb, 3, none⟩ = some (.int .i64 x.y1) := ⟨X9.out.cell 0 rfl, X9.out.cell 1 rfl, X9.out.cell 2 rfl, X9.out.cell 3 rfl⟩
              clear hb F8)))
        clear X5 X6 X7 X8 X9 B5 B6 B7 B8 Q5 Q6 Q7 Q8 F9
        go_wp2_with fail
        go_roundw
        case rel => exact ⟨i + 1, by go_num, by rw [hst.out], by omega, B9.out, Q9.out⟩
        case measure => simp [intOf]; omega
      · obtain rfl : i = d.boxes.length := by omega
        go_wp2_with fail
        go_ret
        exact ⟨ret_str hl.out.symm, Q4.out⟩

end Go.Proofs.YtnoieobjfihbeaaDoor
