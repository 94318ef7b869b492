/-
  The walks of policy: noName, noRule, rule, boxes, may, Right.
-/
import Derived.Test.YteddkgpnklfppaaGreatDoorPk14

namespace Go.Proofs.YteddkgpnklfppaaGreatDoor
open Go.RowKit Go.Sort

theorem range_role {w : World} {b : Nat} {D : Po.Decl} {V : Value} {t : TypeId} (h : Blk w b (declCells D V) t) : w.rangeAt b 4 (whoArr D.role).toList := by
  intro j v hv
  have hj : j < 5 := by have := (List.getElem?_eq_some_iff.1 hv).1; exact this
  have : j = 0 ∨ j = 1 ∨ j = 2 ∨ j = 3 ∨ j = 4 := by omega
  rcases this with rfl | rfl | rfl | rfl | rfl
  · exact h.cell 4 hv
  · exact h.cell 5 hv
  · exact h.cell 6 hv
  · exact h.cell 7 hv
  · exact h.cell 8 hv
theorem range_label {w : World} {b : Nat} {D : Po.Decl} {V : Value} {t : TypeId} (h : Blk w b (declCells D V) t) : w.rangeAt b 11 (whoArr D.label).toList := by
  intro j v hv
  have hj : j < 5 := by have := (List.getElem?_eq_some_iff.1 hv).1; exact this
  have : j = 0 ∨ j = 1 ∨ j = 2 ∨ j = 3 ∨ j = 4 := by omega
  rcases this with rfl | rfl | rfl | rfl | rfl
  · exact h.cell 11 hv
  · exact h.cell 12 hv
  · exact h.cell 13 hv
  · exact h.cell 14 hv
  · exact h.cell 15 hv
theorem range_place {w : World} {b : Nat} {D : Po.Decl} {V : Value} {t : TypeId} (h : Blk w b (declCells D V) t) : w.rangeAt b 16 (whoArr D.place).toList := by
  intro j v hv
  have hj : j < 5 := by have := (List.getElem?_eq_some_iff.1 hv).1; exact this
  have : j = 0 ∨ j = 1 ∨ j = 2 ∨ j = 3 ∨ j = 4 := by omega
  rcases this with rfl | rfl | rfl | rfl | rfl
  · exact h.cell 16 hv
  · exact h.cell 17 hv
  · exact h.cell 18 hv
  · exact h.cell 19 hv
  · exact h.cell 20 hv

set_option maxHeartbeats 1000000 in
theorem pboxesN_any {w : World} {v : Value} {l : List Po.Box} (h : BRow w v l) (hn : l.length ≤ 140737488355328) :
    Calls Tryz.prog 99 #[v] w fun e w' => e = .returned (.bool (Ru.boxesN l)) ∧ Below w.heap.size w w' := by
  rcases brow_of h with ⟨p0, c0, rfl, rfl⟩ | ⟨g, off, cap, rfl, hr⟩
  · clear h
    go_enter Tryz.func99, Tryz.ntmps99
    go_wp2_with fail
    go_loop [7] (fun u => u = .int .i64 0) (fun _ => 0)
    case atStart => rfl
    case round =>
      subst hrel
      go_wp2_with fail
      go_ret
      exact ⟨rfl, Below.refl _ _⟩
  · have hr' := hid hr
    clear h hr
    go_enter Tryz.func99, Tryz.ntmps99
    go_wp2_with fail
    go_loopw [7] (fun u wr => ∃ i : Nat, u = .int .i64 i ∧ i ≤ l.length ∧ Below w.heap.size w wr ∧ (l.take i).all Ru.boxN = true) (fun u _ => l.length - (intOf u).toNat)
    case atStart => exact ⟨0, rfl, Nat.zero_le _, Below.refl _ _, rfl⟩
    case round =>
      obtain ⟨i, rfl, hle, hQ, hall⟩ := hrel
      have hQ' := hid hQ
      have hall' := hid hall
      clear hQ hall
      by_cases hlt : i < l.length
      · have hs := hid ((hr'.out.ext hQ'.out).get i hlt)
        have hyes := hid (fun h => all_take hlt hall'.out h)
        have hno := hid (fun h => show Ru.boxesN l = false by unfold Ru.boxesN; rw [all_no (p := Ru.boxN) hlt h]; rfl)
        generalize l[i] = x at *
        obtain ⟨c0, c1, c2, c3, cf, cz⟩ := (Blk.new wr #[.int .i64 x.x0, .int .i64 x.y0, .int .i64 x.x1, .int .i64 x.y1] 27).four
        go_wp2_with (first | (refine wpList_load_at rfl 27 (.tmp 9) rfl 10 rfl g (off + i * 4) (#[.int .i64 x.x0, .int .i64 x.y0, .int .i64 x.x1, .int .i64 x.y1]) (hs.out) rfl Tryz.underlying27 rfl (by kernel_rfl) ?_) | (refine wpList_store_new rfl 27 (.tmp 4) (.tmp 10) rfl rfl wr 27 _ (#[.int .i64 x.x0, .int .i64 x.y0, .int .i64 x.x1, .int .i64 x.y1]) rfl rfl rfl (by kernel_rfl) rfl (boxArr_one x) ?_))
        refine (numbers4v_any x _ (by simp)).mono ?_
        rintro e w1 ⟨rfl, hb1⟩
        have Q1 := hid (bthen hQ'.out (bthen (balloc wr _) hb1))
        generalize Ru.boxN x = r at *
        cases r with
        | true =>
          have hy := hid (hyes.out rfl)
          go_wp2_with fail
          go_roundw
          case rel => exact ⟨i + 1, by go_num, by omega, Q1.out, hy.out⟩
          case measure => simp [intOf]; omega
        | false =>
          have hy := hid (hno.out rfl)
          go_wp2_with fail
          go_ret
          exact ⟨ret_bool hy.out.symm, Q1.out⟩
      · obtain rfl : i = l.length := by omega
        have hf := hid (show Ru.boxesN l = decide ((0 : Int) < l.length) by have h := hall'.out; rw [List.take_of_length_le (Nat.le_refl _)] at h; unfold Ru.boxesN; rw [h]; rfl)
        go_wp2_with fail
        go_ret
        exact ⟨ret_bool (by rw [hf.out]; first | rfl | (rw [Bool.eq_iff_iff]; simp only [decide_eq_true_eq]; omega)), hQ'.out⟩

set_option maxRecDepth 100000 in
set_option maxHeartbeats 4000000 in
theorem noName_any (D : Po.Decl) (bp : Option Addr) (bc : Nat) (w : World) : Calls Tryz.prog 100 #[.agg (declCells D (.slice bp D.boxes.length bc))] w fun e w' => e = .returned (.bool (Ru.noName D)) ∧ Below w.heap.size w w' := by
  have B0 := hid (Blk.new w (declCells D (.slice bp D.boxes.length bc)) 83)
  have Q0 := hid (balloc w (.cells (declCells D (.slice bp D.boxes.length bc)) 83))
  go_enter Tryz.func100, Tryz.ntmps100
  have y1 : (declCells D (.slice bp D.boxes.length bc))[1]? = some (.string D.name) := rfl
  cases k0 : (D.name.data.toList == []) with
  | false =>
    have e := hid (show Ru.noName D = false by unfold Ru.noName; simp only [k0]; simp)
    have z0 : ¬ D.name.toList = [] := by have h := k0; rw [← empty_eq] at h; simpa using h
    go_wp2_with fail
    go_ret
    exact ⟨ret_bool e.out.symm, Q0.out⟩
  | true =>
    have K0 := hid k0
    have z0 : D.name.toList = [] := by have h := k0; rw [← empty_eq] at h; simpa using h
    have y2 : (declCells D (.slice bp D.boxes.length bc))[2]? = some (.int .i64 D.n) := rfl
    cases k1 : (D.n == 0) with
    | false =>
      have e := hid (show Ru.noName D = false by unfold Ru.noName; simp only [K0.out, k1]; simp)
      go_wp2_with fail
      go_ret
      exact ⟨ret_bool e.out.symm, Q0.out⟩
    | true =>
      have K1 := hid k1
      have y3 : (declCells D (.slice bp D.boxes.length bc))[3]? = some (.slice bp D.boxes.length bc) := rfl
      have e := hid (show Ru.noName D = ((D.boxes.length : Int) == 0) by unfold Ru.noName; simp only [K0.out, K1.out, Bool.true_and])
      go_wp2_with fail
      go_ret
      exact ⟨ret_bool e.out.symm, Q0.out⟩

set_option maxRecDepth 100000 in
set_option maxHeartbeats 4000000 in
theorem noRule_any (D : Po.Decl) (bp : Option Addr) (bc : Nat) (w : World) : Calls Tryz.prog 98 #[.agg (declCells D (.slice bp D.boxes.length bc))] w fun e w' => e = .returned (.bool (Ru.noRule D)) ∧ Below w.heap.size w w' := by
  have B0 := hid (Blk.new w (declCells D (.slice bp D.boxes.length bc)) 83)
  have Q0 := hid (balloc w (.cells (declCells D (.slice bp D.boxes.length bc)) 83))
  go_enter Tryz.func98, Tryz.ntmps98
  have y9 : (declCells D (.slice bp D.boxes.length bc))[9]? = some (.int .i64 D.lo) := rfl
  cases k0 : (D.lo == 0) with
  | false =>
    have e := hid (show Ru.noRule D = false by unfold Ru.noRule; simp only [k0]; simp)
    go_wp2_with fail
    go_ret
    exact ⟨ret_bool e.out.symm, Q0.out⟩
  | true =>
    have K0 := hid k0
    have y10 : (declCells D (.slice bp D.boxes.length bc))[10]? = some (.int .i64 D.hi) := rfl
    cases k1 : (D.hi == 0) with
    | false =>
      have e := hid (show Ru.noRule D = false by unfold Ru.noRule; simp only [K0.out, k1]; simp)
      go_wp2_with fail
      go_ret
      exact ⟨ret_bool e.out.symm, Q0.out⟩
    | true =>
      have K1 := hid k1
      have y21 : (declCells D (.slice bp D.boxes.length bc))[21]? = some (.int .i64 D.zoom) := rfl
      cases k2 : (D.zoom == 0) with
      | false =>
        have e := hid (show Ru.noRule D = false by unfold Ru.noRule; simp only [K0.out, K1.out, k2]; simp)
        go_wp2_with fail
        go_ret
        exact ⟨ret_bool e.out.symm, Q0.out⟩
      | true =>
        have K2 := hid k2
        go_wp2_with (first | (refine wpList_load_partG rfl 81 (.tmp 17) rfl 18 rfl w.heap.size (11) (whoArr D.label) (range_label B0.out) rfl Tryz.underlying81 rfl (by kernel_rfl) ?_))
        refine (zero_any _ _).mono ?_
        rintro en w1 ⟨rfl, hb1⟩
        have B1 := hid (B0.out.ext hb1)
        have Q1 := hid (bthen Q0.out hb1)
        clear hb1 y9 y10 y21
        cases k3 : Ru.zeroW D.label with
        | false =>
          have e := hid (show Ru.noRule D = false by unfold Ru.noRule; simp only [K0.out, K1.out, K2.out, k3]; simp)
          clear k3
          go_wp2_with fail
          go_ret
          exact ⟨ret_bool e.out.symm, Q1.out⟩
        | true =>
          have K3 := hid k3
          clear k3
          go_wp2_with (first | (refine wpList_load_partG rfl 81 (.tmp 22) rfl 23 rfl w.heap.size (16) (whoArr D.place) (range_place B1.out) rfl Tryz.underlying81 rfl (by kernel_rfl) ?_))
          refine (zero_any _ _).mono ?_
          rintro en w2 ⟨rfl, hb2⟩
          have B2 := hid (B1.out.ext hb2)
          have Q2 := hid (bthen Q1.out hb2)
          clear hb2
          have e := hid (show Ru.noRule D = Ru.zeroW D.place by unfold Ru.noRule; simp only [K0.out, K1.out, K2.out, K3.out, Bool.true_and])
          go_wp2_with fail
          go_ret
          exact ⟨ret_bool e.out.symm, Q2.out⟩

set_option maxRecDepth 100000 in
set_option maxHeartbeats 4000000 in
theorem ruleD_any (D : Po.Decl) (bp : Option Addr) (bc : Nat) (w : World) (h1 : D.role.name.size ≤ 140737488355328) (h2 : D.label.name.size ≤ 140737488355328) (h3 : D.place.name.size ≤ 140737488355328) : Calls Tryz.prog 101 #[.agg (declCells D (.slice bp D.boxes.length bc))] w fun e w' => e = .returned (.bool (Ru.ruleD D)) ∧ Below w.heap.size w w' := by
  have B0 := hid (Blk.new w (declCells D (.slice bp D.boxes.length bc)) 83)
  have Q0 := hid (balloc w (.cells (declCells D (.slice bp D.boxes.length bc)) 83))
  go_enter Tryz.func101, Tryz.ntmps101
  go_wp2_with (first | (refine wpList_load_at rfl 81 (.tmp 3) rfl 4 rfl w.heap.size (4) (whoArr D.role) (range_role B0.out) rfl Tryz.underlying81 rfl (by kernel_rfl) ?_))
  refine (wright_any _ _ h1).mono ?_
  rintro en w1 ⟨rfl, hb1⟩
  have B1 := hid (B0.out.ext hb1)
  have Q1 := hid (bthen Q0.out hb1)
  clear hb1
  cases k0 : Ru.rightW D.role with
  | false =>
    have e := hid (show Ru.ruleD D = false by unfold Ru.ruleD; simp only [k0]; simp)
    clear k0
    go_wp2_with fail
    go_ret
    exact ⟨ret_bool e.out.symm, Q1.out⟩
  | true =>
    have K0 := hid k0
    clear k0
    have y9 := Blk.cell B1.out 9 (v := .int .i64 D.lo) rfl
    have y10 := Blk.cell B1.out 10 (v := .int .i64 D.hi) rfl
    have y21 := Blk.cell B1.out 21 (v := .int .i64 D.zoom) rfl
    go_wp2_with fail
    refine (numbers3v_any _ _ _ _ rfl).mono ?_
    rintro en w2 ⟨rfl, hb2⟩
    have B2 := hid (B1.out.ext hb2)
    have Q2 := hid (bthen Q1.out hb2)
    clear hb2 y9 y10 y21
    cases k1 : (Ru.num D.lo && Ru.num D.hi && Ru.num D.zoom) with
    | false =>
      have e := hid (show Ru.ruleD D = false by unfold Ru.ruleD; simp only [K0.out, k1]; simp)
      clear k1
      go_wp2_with fail
      go_ret
      exact ⟨ret_bool e.out.symm, Q2.out⟩
    | true =>
      have K1 := hid k1
      clear k1
      go_wp2_with (first | (refine wpList_load_partG rfl 81 (.tmp 17) rfl 18 rfl w.heap.size (11) (whoArr D.label) (range_label B2.out) rfl Tryz.underlying81 rfl (by kernel_rfl) ?_))
      refine (wright_any _ _ h2).mono ?_
      rintro en w3 ⟨rfl, hb3⟩
      have B3 := hid (B2.out.ext hb3)
      have Q3 := hid (bthen Q2.out hb3)
      clear hb3
      cases k2 : Ru.rightW D.label with
      | false =>
        have e := hid (show Ru.ruleD D = false by unfold Ru.ruleD; simp only [K0.out, K1.out, k2]; simp)
        clear k2
        go_wp2_with fail
        go_ret
        exact ⟨ret_bool e.out.symm, Q3.out⟩
      | true =>
        have K2 := hid k2
        clear k2
        go_wp2_with (first | (refine wpList_load_partG rfl 81 (.tmp 22) rfl 23 rfl w.heap.size (16) (whoArr D.place) (range_place B3.out) rfl Tryz.underlying81 rfl (by kernel_rfl) ?_))
        refine (wplace_any _ _ h3).mono ?_
        rintro en w4 ⟨rfl, hb4⟩
        have B4 := hid (B3.out.ext hb4)
        have Q4 := hid (bthen Q3.out hb4)
        clear hb4
        have e := hid (show Ru.ruleD D = Ru.placeW D.place by unfold Ru.ruleD; simp only [K0.out, K1.out, K2.out, Bool.true_and])
        go_wp2_with fail
        go_ret
        exact ⟨ret_bool e.out.symm, Q4.out⟩

set_option maxRecDepth 100000 in
set_option maxHeartbeats 4000000 in
theorem may_1 (D : Po.Decl) (bp : Option Addr) (bc : Nat) (w : World) (h0 : D.name.size ≤ 140737488355328) (_h1 : D.role.name.size ≤ 140737488355328) (_h2 : D.label.name.size ≤ 140737488355328) (_h3 : D.place.name.size ≤ 140737488355328) (_hr : BRow w (.slice bp D.boxes.length bc) D.boxes) (_hn : D.boxes.length ≤ 140737488355328) (hk : D.kind = 1) : Calls Tryz.prog 59 #[.agg (declCells D (.slice bp D.boxes.length bc))] w fun e w' => e = .returned (.bool (Ru.may D)) ∧ Below w.heap.size w w' := by
  have B0 := hid (Blk.new w (declCells D (.slice bp D.boxes.length bc)) 83)
  have Q0 := hid (balloc w (.cells (declCells D (.slice bp D.boxes.length bc)) 83))
  have hF := hid (show Ru.may D = (Lx.isName D.name.data.toList && Ru.num D.n && ((D.boxes.length : Int) == 0) && Ru.zeroW D.role && Ru.noRule D) by unfold Ru.may; rw [if_pos (by omega)])
  have q1 : (D.kind == 1) = true := beq_iff_eq.2 (by omega)
  have yk : (declCells D (.slice bp D.boxes.length bc))[0]? = some (.int .i64 D.kind) := rfl
  clear hk
  go_enter Tryz.func59, Tryz.ntmps59
  have y1 : (declCells D (.slice bp D.boxes.length bc))[1]? = some (.string D.name) := rfl
  go_wp2_with fail
  refine (name_any _ _ h0).mono ?_
  rintro en w1 ⟨rfl, hb1⟩
  have B1 := hid (B0.out.ext hb1)
  have Q1 := hid (bthen Q0.out hb1)
  clear hb1 y1
  cases k0 : Lx.isName D.name.data.toList with
  | false =>
    have e := hid (show Ru.may D = false by rw [hF.out]; simp only [k0]; simp)
    clear k0
    go_wp2_with fail
    go_ret
    exact ⟨ret_bool e.out.symm, Q1.out⟩
  | true =>
    have K0 := hid k0
    clear k0
    have y2 := Blk.cell B1.out 2 (v := .int .i64 D.n) rfl
    go_wp2_with fail
    refine (numbers1_any _ _ rfl).mono ?_
    rintro en w2 ⟨rfl, hb2⟩
    have B2 := hid (B1.out.ext hb2)
    have Q2 := hid (bthen Q1.out hb2)
    clear hb2 y2
    cases k1 : Ru.num D.n with
    | false =>
      have e := hid (show Ru.may D = false by rw [hF.out]; simp only [K0.out, k1]; simp)
      clear k1
      go_wp2_with fail
      go_ret
      exact ⟨ret_bool e.out.symm, Q2.out⟩
    | true =>
      have K1 := hid k1
      clear k1
      have y3 := Blk.cell B2.out 3 (v := .slice bp D.boxes.length bc) rfl
      cases k2 : ((D.boxes.length : Int) == 0) with
      | false =>
        have e := hid (show Ru.may D = false by rw [hF.out]; simp only [K0.out, K1.out, k2]; simp)
        go_wp2_with fail
        go_ret
        exact ⟨ret_bool e.out.symm, Q2.out⟩
      | true =>
        have K2 := hid k2
        go_wp2_with (first | (refine wpList_load_partG rfl 81 (.tmp 24) rfl 25 rfl w.heap.size (4) (whoArr D.role) (range_role B2.out) rfl Tryz.underlying81 rfl (by kernel_rfl) ?_))
        refine (zero_any _ _).mono ?_
        rintro en w3 ⟨rfl, hb3⟩
        have B3 := hid (B2.out.ext hb3)
        have Q3 := hid (bthen Q2.out hb3)
        clear hb3 y3
        cases k3 : Ru.zeroW D.role with
        | false =>
          have e := hid (show Ru.may D = false by rw [hF.out]; simp only [K0.out, K1.out, K2.out, k3]; simp)
          clear k3
          go_wp2_with fail
          go_ret
          exact ⟨ret_bool e.out.symm, Q3.out⟩
        | true =>
          have K3 := hid k3
          clear k3
          go_wp2_with (first | (refine wpList_load_blkG rfl 83 (.tmp 1) rfl 29 rfl w.heap.size 83 (declCells D (.slice bp D.boxes.length bc)) (B3.out) rfl Tryz.underlying83 rfl (by kernel_rfl) ?_))
          refine (noRule_any D bp bc _).mono ?_
          rintro en w4 ⟨rfl, hb4⟩
          have B4 := hid (B3.out.ext hb4)
          have Q4 := hid (bthen Q3.out hb4)
          clear hb4
          have e := hid (show Ru.may D = Ru.noRule D by rw [hF.out]; simp only [K0.out, K1.out, K2.out, K3.out, Bool.true_and])
          go_wp2_with fail
          go_ret
          exact ⟨ret_bool e.out.symm, Q4.out⟩

set_option maxRecDepth 100000 in
set_option maxHeartbeats 4000000 in
theorem may_2 (D : Po.Decl) (bp : Option Addr) (bc : Nat) (w : World) (h0 : D.name.size ≤ 140737488355328) (_h1 : D.role.name.size ≤ 140737488355328) (_h2 : D.label.name.size ≤ 140737488355328) (_h3 : D.place.name.size ≤ 140737488355328) (_hr : BRow w (.slice bp D.boxes.length bc) D.boxes) (_hn : D.boxes.length ≤ 140737488355328) (hk : D.kind = 2) : Calls Tryz.prog 59 #[.agg (declCells D (.slice bp D.boxes.length bc))] w fun e w' => e = .returned (.bool (Ru.may D)) ∧ Below w.heap.size w w' := by
  have B0 := hid (Blk.new w (declCells D (.slice bp D.boxes.length bc)) 83)
  have Q0 := hid (balloc w (.cells (declCells D (.slice bp D.boxes.length bc)) 83))
  have hF := hid (show Ru.may D = (Lx.isName D.name.data.toList && Ru.num D.n && ((D.boxes.length : Int) == 0) && Ru.zeroW D.role && Ru.noRule D) by unfold Ru.may; rw [if_pos (by omega)])
  have q1 : (D.kind == 1) = false := beq_eq_false_iff_ne.2 (by omega)
  have q2 : (D.kind == 2) = true := beq_iff_eq.2 (by omega)
  have yk : (declCells D (.slice bp D.boxes.length bc))[0]? = some (.int .i64 D.kind) := rfl
  clear hk
  go_enter Tryz.func59, Tryz.ntmps59
  have y1 : (declCells D (.slice bp D.boxes.length bc))[1]? = some (.string D.name) := rfl
  go_wp2_with fail
  refine (name_any _ _ h0).mono ?_
  rintro en w1 ⟨rfl, hb1⟩
  have B1 := hid (B0.out.ext hb1)
  have Q1 := hid (bthen Q0.out hb1)
  clear hb1 y1
  cases k0 : Lx.isName D.name.data.toList with
  | false =>
    have e := hid (show Ru.may D = false by rw [hF.out]; simp only [k0]; simp)
    clear k0
    go_wp2_with fail
    go_ret
    exact ⟨ret_bool e.out.symm, Q1.out⟩
  | true =>
    have K0 := hid k0
    clear k0
    have y2 := Blk.cell B1.out 2 (v := .int .i64 D.n) rfl
    go_wp2_with fail
    refine (numbers1_any _ _ rfl).mono ?_
    rintro en w2 ⟨rfl, hb2⟩
    have B2 := hid (B1.out.ext hb2)
    have Q2 := hid (bthen Q1.out hb2)
    clear hb2 y2
    cases k1 : Ru.num D.n with
    | false =>
      have e := hid (show Ru.may D = false by rw [hF.out]; simp only [K0.out, k1]; simp)
      clear k1
      go_wp2_with fail
      go_ret
      exact ⟨ret_bool e.out.symm, Q2.out⟩
    | true =>
      have K1 := hid k1
      clear k1
      have y3 := Blk.cell B2.out 3 (v := .slice bp D.boxes.length bc) rfl
      cases k2 : ((D.boxes.length : Int) == 0) with
      | false =>
        have e := hid (show Ru.may D = false by rw [hF.out]; simp only [K0.out, K1.out, k2]; simp)
        go_wp2_with fail
        go_ret
        exact ⟨ret_bool e.out.symm, Q2.out⟩
      | true =>
        have K2 := hid k2
        go_wp2_with (first | (refine wpList_load_partG rfl 81 (.tmp 24) rfl 25 rfl w.heap.size (4) (whoArr D.role) (range_role B2.out) rfl Tryz.underlying81 rfl (by kernel_rfl) ?_))
        refine (zero_any _ _).mono ?_
        rintro en w3 ⟨rfl, hb3⟩
        have B3 := hid (B2.out.ext hb3)
        have Q3 := hid (bthen Q2.out hb3)
        clear hb3 y3
        cases k3 : Ru.zeroW D.role with
        | false =>
          have e := hid (show Ru.may D = false by rw [hF.out]; simp only [K0.out, K1.out, K2.out, k3]; simp)
          clear k3
          go_wp2_with fail
          go_ret
          exact ⟨ret_bool e.out.symm, Q3.out⟩
        | true =>
          have K3 := hid k3
          clear k3
          go_wp2_with (first | (refine wpList_load_blkG rfl 83 (.tmp 1) rfl 29 rfl w.heap.size 83 (declCells D (.slice bp D.boxes.length bc)) (B3.out) rfl Tryz.underlying83 rfl (by kernel_rfl) ?_))
          refine (noRule_any D bp bc _).mono ?_
          rintro en w4 ⟨rfl, hb4⟩
          have B4 := hid (B3.out.ext hb4)
          have Q4 := hid (bthen Q3.out hb4)
          clear hb4
          have e := hid (show Ru.may D = Ru.noRule D by rw [hF.out]; simp only [K0.out, K1.out, K2.out, K3.out, Bool.true_and])
          go_wp2_with fail
          go_ret
          exact ⟨ret_bool e.out.symm, Q4.out⟩

set_option maxRecDepth 100000 in
set_option maxHeartbeats 4000000 in
theorem may_3 (D : Po.Decl) (bp : Option Addr) (bc : Nat) (w : World) (h0 : D.name.size ≤ 140737488355328) (_h1 : D.role.name.size ≤ 140737488355328) (_h2 : D.label.name.size ≤ 140737488355328) (_h3 : D.place.name.size ≤ 140737488355328) (hr : BRow w (.slice bp D.boxes.length bc) D.boxes) (hn : D.boxes.length ≤ 140737488355328) (hk : D.kind = 3) : Calls Tryz.prog 59 #[.agg (declCells D (.slice bp D.boxes.length bc))] w fun e w' => e = .returned (.bool (Ru.may D)) ∧ Below w.heap.size w w' := by
  have B0 := hid (Blk.new w (declCells D (.slice bp D.boxes.length bc)) 83)
  have Q0 := hid (balloc w (.cells (declCells D (.slice bp D.boxes.length bc)) 83))
  have hF := hid (show Ru.may D = (Lx.isName D.name.data.toList && D.n == 0 && Ru.boxesN D.boxes && Ru.zeroW D.role && Ru.noRule D) by unfold Ru.may; rw [if_neg (by omega), if_pos (by omega)])
  have q1 : (D.kind == 1) = false := beq_eq_false_iff_ne.2 (by omega)
  have q2 : (D.kind == 2) = false := beq_eq_false_iff_ne.2 (by omega)
  have q3 : (D.kind == 3) = true := beq_iff_eq.2 (by omega)
  have yk : (declCells D (.slice bp D.boxes.length bc))[0]? = some (.int .i64 D.kind) := rfl
  clear hk
  go_enter Tryz.func59, Tryz.ntmps59
  have y1 : (declCells D (.slice bp D.boxes.length bc))[1]? = some (.string D.name) := rfl
  go_wp2_with fail
  refine (name_any _ _ h0).mono ?_
  rintro en w1 ⟨rfl, hb1⟩
  have B1 := hid (B0.out.ext hb1)
  have Q1 := hid (bthen Q0.out hb1)
  clear hb1 y1
  cases k0 : Lx.isName D.name.data.toList with
  | false =>
    have e := hid (show Ru.may D = false by rw [hF.out]; simp only [k0]; simp)
    clear k0
    go_wp2_with fail
    go_ret
    exact ⟨ret_bool e.out.symm, Q1.out⟩
  | true =>
    have K0 := hid k0
    clear k0
    have y2 := Blk.cell B1.out 2 (v := .int .i64 D.n) rfl
    cases k1 : (D.n == 0) with
    | false =>
      have e := hid (show Ru.may D = false by rw [hF.out]; simp only [K0.out, k1]; simp)
      go_wp2_with fail
      go_ret
      exact ⟨ret_bool e.out.symm, Q1.out⟩
    | true =>
      have K1 := hid k1
      have y3 := Blk.cell B1.out 3 (v := .slice bp D.boxes.length bc) rfl
      go_wp2_with fail
      refine (pboxesN_any (hr.ext Q1.out) hn).mono ?_
      rintro en w2 ⟨rfl, hb2⟩
      have B2 := hid (B1.out.ext hb2)
      have Q2 := hid (bthen Q1.out hb2)
      clear hb2 y2 y3
      cases k2 : Ru.boxesN D.boxes with
      | false =>
        have e := hid (show Ru.may D = false by rw [hF.out]; simp only [K0.out, K1.out, k2]; simp)
        clear k2
        go_wp2_with fail
        go_ret
        exact ⟨ret_bool e.out.symm, Q2.out⟩
      | true =>
        have K2 := hid k2
        clear k2
        go_wp2_with (first | (refine wpList_load_partG rfl 81 (.tmp 48) rfl 49 rfl w.heap.size (4) (whoArr D.role) (range_role B2.out) rfl Tryz.underlying81 rfl (by kernel_rfl) ?_))
        refine (zero_any _ _).mono ?_
        rintro en w3 ⟨rfl, hb3⟩
        have B3 := hid (B2.out.ext hb3)
        have Q3 := hid (bthen Q2.out hb3)
        clear hb3
        cases k3 : Ru.zeroW D.role with
        | false =>
          have e := hid (show Ru.may D = false by rw [hF.out]; simp only [K0.out, K1.out, K2.out, k3]; simp)
          clear k3
          go_wp2_with fail
          go_ret
          exact ⟨ret_bool e.out.symm, Q3.out⟩
        | true =>
          have K3 := hid k3
          clear k3
          go_wp2_with (first | (refine wpList_load_blkG rfl 83 (.tmp 1) rfl 53 rfl w.heap.size 83 (declCells D (.slice bp D.boxes.length bc)) (B3.out) rfl Tryz.underlying83 rfl (by kernel_rfl) ?_))
          refine (noRule_any D bp bc _).mono ?_
          rintro en w4 ⟨rfl, hb4⟩
          have B4 := hid (B3.out.ext hb4)
          have Q4 := hid (bthen Q3.out hb4)
          clear hb4
          have e := hid (show Ru.may D = Ru.noRule D by rw [hF.out]; simp only [K0.out, K1.out, K2.out, K3.out, Bool.true_and])
          go_wp2_with fail
          go_ret
          exact ⟨ret_bool e.out.symm, Q4.out⟩

set_option maxRecDepth 100000 in
set_option maxHeartbeats 4000000 in
theorem may_4 (D : Po.Decl) (bp : Option Addr) (bc : Nat) (w : World) (_h0 : D.name.size ≤ 140737488355328) (h1 : D.role.name.size ≤ 140737488355328) (h2 : D.label.name.size ≤ 140737488355328) (h3 : D.place.name.size ≤ 140737488355328) (_hr : BRow w (.slice bp D.boxes.length bc) D.boxes) (_hn : D.boxes.length ≤ 140737488355328) (hk : D.kind = 4) : Calls Tryz.prog 59 #[.agg (declCells D (.slice bp D.boxes.length bc))] w fun e w' => e = .returned (.bool (Ru.may D)) ∧ Below w.heap.size w w' := by
  have B0 := hid (Blk.new w (declCells D (.slice bp D.boxes.length bc)) 83)
  have Q0 := hid (balloc w (.cells (declCells D (.slice bp D.boxes.length bc)) 83))
  have hF := hid (show Ru.may D = (Ru.noName D && Ru.ruleD D) by unfold Ru.may; rw [if_neg (by omega), if_neg (by omega), if_pos (by omega)])
  have q1 : (D.kind == 1) = false := beq_eq_false_iff_ne.2 (by omega)
  have q2 : (D.kind == 2) = false := beq_eq_false_iff_ne.2 (by omega)
  have q3 : (D.kind == 3) = false := beq_eq_false_iff_ne.2 (by omega)
  have q4 : (D.kind == 4) = true := beq_iff_eq.2 (by omega)
  have yk : (declCells D (.slice bp D.boxes.length bc))[0]? = some (.int .i64 D.kind) := rfl
  clear hk
  go_enter Tryz.func59, Tryz.ntmps59
  go_wp2_with (first | (refine wpList_load_blk rfl 83 (.tmp 1) rfl 59 rfl w.heap.size 83 (declCells D (.slice bp D.boxes.length bc)) (B0.out) rfl Tryz.underlying83 rfl (by kernel_rfl) ?_))
  refine (noName_any D bp bc _).mono ?_
  rintro en w1 ⟨rfl, hb1⟩
  have B1 := hid (B0.out.ext hb1)
  have Q1 := hid (bthen Q0.out hb1)
  clear hb1
  cases k0 : Ru.noName D with
  | false =>
    have e := hid (show Ru.may D = false by rw [hF.out]; simp only [k0]; simp)
    clear k0
    go_wp2_with fail
    go_ret
    exact ⟨ret_bool e.out.symm, Q1.out⟩
  | true =>
    have K0 := hid k0
    clear k0
    go_wp2_with (first | (refine wpList_load_blkG rfl 83 (.tmp 1) rfl 62 rfl w.heap.size 83 (declCells D (.slice bp D.boxes.length bc)) (B1.out) rfl Tryz.underlying83 rfl (by kernel_rfl) ?_))
    refine (ruleD_any D bp bc _ h1 h2 h3).mono ?_
    rintro en w2 ⟨rfl, hb2⟩
    have B2 := hid (B1.out.ext hb2)
    have Q2 := hid (bthen Q1.out hb2)
    clear hb2
    have e := hid (show Ru.may D = Ru.ruleD D by rw [hF.out]; simp only [K0.out, Bool.true_and])
    go_wp2_with fail
    go_ret
    exact ⟨ret_bool e.out.symm, Q2.out⟩

set_option maxRecDepth 100000 in
set_option maxHeartbeats 4000000 in
theorem may_5 (D : Po.Decl) (bp : Option Addr) (bc : Nat) (w : World) (_h0 : D.name.size ≤ 140737488355328) (h1 : D.role.name.size ≤ 140737488355328) (h2 : D.label.name.size ≤ 140737488355328) (h3 : D.place.name.size ≤ 140737488355328) (_hr : BRow w (.slice bp D.boxes.length bc) D.boxes) (_hn : D.boxes.length ≤ 140737488355328) (hk : D.kind = 5) : Calls Tryz.prog 59 #[.agg (declCells D (.slice bp D.boxes.length bc))] w fun e w' => e = .returned (.bool (Ru.may D)) ∧ Below w.heap.size w w' := by
  have B0 := hid (Blk.new w (declCells D (.slice bp D.boxes.length bc)) 83)
  have Q0 := hid (balloc w (.cells (declCells D (.slice bp D.boxes.length bc)) 83))
  have hF := hid (show Ru.may D = (Ru.noName D && Ru.ruleD D) by unfold Ru.may; rw [if_neg (by omega), if_neg (by omega), if_pos (by omega)])
  have q1 : (D.kind == 1) = false := beq_eq_false_iff_ne.2 (by omega)
  have q2 : (D.kind == 2) = false := beq_eq_false_iff_ne.2 (by omega)
  have q3 : (D.kind == 3) = false := beq_eq_false_iff_ne.2 (by omega)
  have q4 : (D.kind == 4) = false := beq_eq_false_iff_ne.2 (by omega)
  have q5 : (D.kind == 5) = true := beq_iff_eq.2 (by omega)
  have yk : (declCells D (.slice bp D.boxes.length bc))[0]? = some (.int .i64 D.kind) := rfl
  clear hk
  go_enter Tryz.func59, Tryz.ntmps59
  go_wp2_with (first | (refine wpList_load_blk rfl 83 (.tmp 1) rfl 59 rfl w.heap.size 83 (declCells D (.slice bp D.boxes.length bc)) (B0.out) rfl Tryz.underlying83 rfl (by kernel_rfl) ?_))
  refine (noName_any D bp bc _).mono ?_
  rintro en w1 ⟨rfl, hb1⟩
  have B1 := hid (B0.out.ext hb1)
  have Q1 := hid (bthen Q0.out hb1)
  clear hb1
  cases k0 : Ru.noName D with
  | false =>
    have e := hid (show Ru.may D = false by rw [hF.out]; simp only [k0]; simp)
    clear k0
    go_wp2_with fail
    go_ret
    exact ⟨ret_bool e.out.symm, Q1.out⟩
  | true =>
    have K0 := hid k0
    clear k0
    go_wp2_with (first | (refine wpList_load_blkG rfl 83 (.tmp 1) rfl 62 rfl w.heap.size 83 (declCells D (.slice bp D.boxes.length bc)) (B1.out) rfl Tryz.underlying83 rfl (by kernel_rfl) ?_))
    refine (ruleD_any D bp bc _ h1 h2 h3).mono ?_
    rintro en w2 ⟨rfl, hb2⟩
    have B2 := hid (B1.out.ext hb2)
    have Q2 := hid (bthen Q1.out hb2)
    clear hb2
    have e := hid (show Ru.may D = Ru.ruleD D by rw [hF.out]; simp only [K0.out, Bool.true_and])
    go_wp2_with fail
    go_ret
    exact ⟨ret_bool e.out.symm, Q2.out⟩

set_option maxRecDepth 100000 in
set_option maxHeartbeats 4000000 in
theorem may_6 (D : Po.Decl) (bp : Option Addr) (bc : Nat) (w : World) (_h0 : D.name.size ≤ 140737488355328) (h1 : D.role.name.size ≤ 140737488355328) (_h2 : D.label.name.size ≤ 140737488355328) (_h3 : D.place.name.size ≤ 140737488355328) (_hr : BRow w (.slice bp D.boxes.length bc) D.boxes) (_hn : D.boxes.length ≤ 140737488355328) (hk : D.kind = 6) : Calls Tryz.prog 59 #[.agg (declCells D (.slice bp D.boxes.length bc))] w fun e w' => e = .returned (.bool (Ru.may D)) ∧ Below w.heap.size w w' := by
  have B0 := hid (Blk.new w (declCells D (.slice bp D.boxes.length bc)) 83)
  have Q0 := hid (balloc w (.cells (declCells D (.slice bp D.boxes.length bc)) 83))
  have hF := hid (show Ru.may D = (Ru.noName D && Ru.rightW D.role && Ru.noRule D) by unfold Ru.may; rw [if_neg (by omega), if_neg (by omega), if_neg (by omega), if_pos (by omega)])
  have q1 : (D.kind == 1) = false := beq_eq_false_iff_ne.2 (by omega)
  have q2 : (D.kind == 2) = false := beq_eq_false_iff_ne.2 (by omega)
  have q3 : (D.kind == 3) = false := beq_eq_false_iff_ne.2 (by omega)
  have q4 : (D.kind == 4) = false := beq_eq_false_iff_ne.2 (by omega)
  have q5 : (D.kind == 5) = false := beq_eq_false_iff_ne.2 (by omega)
  have q6 : (D.kind == 6) = true := beq_iff_eq.2 (by omega)
  have yk : (declCells D (.slice bp D.boxes.length bc))[0]? = some (.int .i64 D.kind) := rfl
  clear hk
  go_enter Tryz.func59, Tryz.ntmps59
  go_wp2_with (first | (refine wpList_load_blk rfl 83 (.tmp 1) rfl 67 rfl w.heap.size 83 (declCells D (.slice bp D.boxes.length bc)) (B0.out) rfl Tryz.underlying83 rfl (by kernel_rfl) ?_))
  refine (noName_any D bp bc _).mono ?_
  rintro en w1 ⟨rfl, hb1⟩
  have B1 := hid (B0.out.ext hb1)
  have Q1 := hid (bthen Q0.out hb1)
  clear hb1
  cases k0 : Ru.noName D with
  | false =>
    have e := hid (show Ru.may D = false by rw [hF.out]; simp only [k0]; simp)
    clear k0
    go_wp2_with fail
    go_ret
    exact ⟨ret_bool e.out.symm, Q1.out⟩
  | true =>
    have K0 := hid k0
    clear k0
    go_wp2_with (first | (refine wpList_load_partG rfl 81 (.tmp 70) rfl 71 rfl w.heap.size (4) (whoArr D.role) (range_role B1.out) rfl Tryz.underlying81 rfl (by kernel_rfl) ?_))
    refine (wright_any _ _ h1).mono ?_
    rintro en w2 ⟨rfl, hb2⟩
    have B2 := hid (B1.out.ext hb2)
    have Q2 := hid (bthen Q1.out hb2)
    clear hb2
    cases k1 : Ru.rightW D.role with
    | false =>
      have e := hid (show Ru.may D = false by rw [hF.out]; simp only [K0.out, k1]; simp)
      clear k1
      go_wp2_with fail
      go_ret
      exact ⟨ret_bool e.out.symm, Q2.out⟩
    | true =>
      have K1 := hid k1
      clear k1
      go_wp2_with (first | (refine wpList_load_blkG rfl 83 (.tmp 1) rfl 75 rfl w.heap.size 83 (declCells D (.slice bp D.boxes.length bc)) (B2.out) rfl Tryz.underlying83 rfl (by kernel_rfl) ?_))
      refine (noRule_any D bp bc _).mono ?_
      rintro en w3 ⟨rfl, hb3⟩
      have B3 := hid (B2.out.ext hb3)
      have Q3 := hid (bthen Q2.out hb3)
      clear hb3
      have e := hid (show Ru.may D = Ru.noRule D by rw [hF.out]; simp only [K0.out, K1.out, Bool.true_and])
      go_wp2_with fail
      go_ret
      exact ⟨ret_bool e.out.symm, Q3.out⟩

set_option maxRecDepth 100000 in
set_option maxHeartbeats 4000000 in
theorem may_0 (D : Po.Decl) (bp : Option Addr) (bc : Nat) (w : World) (_h0 : D.name.size ≤ 140737488355328) (_h1 : D.role.name.size ≤ 140737488355328) (_h2 : D.label.name.size ≤ 140737488355328) (_h3 : D.place.name.size ≤ 140737488355328) (_hr : BRow w (.slice bp D.boxes.length bc) D.boxes) (_hn : D.boxes.length ≤ 140737488355328) (hk : D.kind < 1 ∨ 6 < D.kind) : Calls Tryz.prog 59 #[.agg (declCells D (.slice bp D.boxes.length bc))] w fun e w' => e = .returned (.bool (Ru.may D)) ∧ Below w.heap.size w w' := by
  have B0 := hid (Blk.new w (declCells D (.slice bp D.boxes.length bc)) 83)
  have Q0 := hid (balloc w (.cells (declCells D (.slice bp D.boxes.length bc)) 83))
  have hF := hid (show Ru.may D = false by unfold Ru.may; rw [if_neg (by omega), if_neg (by omega), if_neg (by omega), if_neg (by omega)])
  have q1 : (D.kind == 1) = false := beq_eq_false_iff_ne.2 (by omega)
  have q2 : (D.kind == 2) = false := beq_eq_false_iff_ne.2 (by omega)
  have q3 : (D.kind == 3) = false := beq_eq_false_iff_ne.2 (by omega)
  have q4 : (D.kind == 4) = false := beq_eq_false_iff_ne.2 (by omega)
  have q5 : (D.kind == 5) = false := beq_eq_false_iff_ne.2 (by omega)
  have q6 : (D.kind == 6) = false := beq_eq_false_iff_ne.2 (by omega)
  have yk : (declCells D (.slice bp D.boxes.length bc))[0]? = some (.int .i64 D.kind) := rfl
  clear hk
  go_enter Tryz.func59, Tryz.ntmps59
  go_wp2_with fail
  go_ret
  exact ⟨ret_bool hF.out.symm, Q0.out⟩

theorem may_any (D : Po.Decl) (v : Value) (w : World) (h0 : D.name.size ≤ 140737488355328) (h1 : D.role.name.size ≤ 140737488355328) (h2 : D.label.name.size ≤ 140737488355328) (h3 : D.place.name.size ≤ 140737488355328)
    (hr : BRow w v D.boxes) (hn : D.boxes.length ≤ 140737488355328) :
    Calls Tryz.prog 59 #[.agg (declCells D v)] w fun e w' => e = .returned (.bool (Ru.may D)) ∧ Below w.heap.size w w' := by
  obtain ⟨bp, bc, rfl⟩ := hr.shape
  have hk : (D.kind < 1 ∨ 6 < D.kind) ∨ D.kind = 1 ∨ D.kind = 2 ∨ D.kind = 3 ∨ D.kind = 4 ∨ D.kind = 5 ∨ D.kind = 6 := by omega
  rcases hk with hk | hk | hk | hk | hk | hk | hk
  · exact may_0 D bp bc w h0 h1 h2 h3 hr hn hk
  · exact may_1 D bp bc w h0 h1 h2 h3 hr hn hk
  · exact may_2 D bp bc w h0 h1 h2 h3 hr hn hk
  · exact may_3 D bp bc w h0 h1 h2 h3 hr hn hk
  · exact may_4 D bp bc w h0 h1 h2 h3 hr hn hk
  · exact may_5 D bp bc w h0 h1 h2 h3 hr hn hk
  · exact may_6 D bp bc w h0 h1 h2 h3 hr hn hk

end Go.Proofs.YteddkgpnklfppaaGreatDoor
