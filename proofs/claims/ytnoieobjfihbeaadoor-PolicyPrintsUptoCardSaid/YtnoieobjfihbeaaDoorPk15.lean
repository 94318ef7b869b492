/-
  The walks of policy: noName, noRule, rule, boxes, may, Right.
  Rows of declarations in memory; the walk of policy.Right.
-/
import Derived.Test.YtnoieobjfihbeaaDoorPk12

namespace Go.Proofs.YtnoieobjfihbeaaDoor
open Go.RowKit Go.Sort

theorem range_role {w : World} {b : Nat} {D : Po.Decl} {V : Value} {t : TypeId} (h : Blk w b (declCells D V) t) : w.rangeAt b 4 (whoArr D.role).toList := by
  intro j v hv
  have hj : j < 5 := by have := (List.getElem?_eq_some_iff.1 hv).1; exact this
  have : j = 0 ∨ j = 1 ∨ j = 2 ∨ j = 3 ∨ j = 4 := by omega
  rcases this with rfl | rfl | rfl | rfl | rfl
  · exact h.cell 4 hv
  · exact h.cell 5 hv
  · exact h.cell 6 hv
  · exact h.cell 7 hv
  · exact h.cell 8 hv
theorem range_label {w : World} {b : Nat} {D : Po.Decl} {V : Value} {t : TypeId} (h : Blk w b (declCells D V) t) : w.rangeAt b 11 (whoArr D.label).toList := by
  intro j v hv
  have hj : j < 5 := by have := (List.getElem?_eq_some_iff.1 hv).1; exact this
  have : j = 0 ∨ j = 1 ∨ j = 2 ∨ j = 3 ∨ j = 4 := by omega
  rcases this with rfl | rfl | rfl | rfl | rfl
  · exact h.cell 11 hv
  · exact h.cell 12 hv
  · exact h.cell 13 hv
  · exact h.cell 14 hv
  · exact h.cell 15 hv
theorem range_place {w : World} {b : Nat} {D : Po.Decl} {V : Value} {t : TypeId} (h : Blk w b (declCells D V) t) : w.rangeAt b 16 (whoArr D.place).toList := by
  intro j v hv
  have hj : j < 5 := by have := (List.getElem?_eq_some_iff.1 hv).1; exact this
  have : j = 0 ∨ j = 1 ∨ j = 2 ∨ j = 3 ∨ j = 4 := by omega
  rcases this with rfl | rfl | rfl | rfl | rfl
  · exact h.cell 16 hv
  · exact h.cell 17 hv
  · exact h.cell 18 hv
  · exact h.cell 19 hv
  · exact h.cell 20 hv

set_option maxHeartbeats 1000000 in
theorem pboxesN_any {w : World} {v : Value} {l : List Po.Box} (h : BRow w v l) (hn : l.length ≤ 140737488355328) :
    Calls Tryd.prog 40 #[v] w fun e w' => e = .returned (.bool (Ru.boxesN l)) ∧ Below w.heap.size w w' := by
  rcases brow_of h with ⟨p0, c0, rfl, rfl⟩ | ⟨g, off, cap, rfl, hr⟩
  · clear h
    go_enter Tryd.func40, Tryd.ntmps40
    go_wp2_with fail
    go_loop [7] (fun u => u = .int .i64 0) (fun _ => 0)
    case atStart => rfl
    case round =>
      subst hrel
      go_wp2_with fail
      go_ret
      exact ⟨rfl, Below.refl _ _⟩
  · have hr' := hid hr
    clear h hr
    go_enter Tryd.func40, Tryd.ntmps40
    go_wp2_with fail
    go_loopw [7] (fun u wr => ∃ i : Nat, u = .int .i64 i ∧ i ≤ l.length ∧ Below w.heap.size w wr ∧ (l.take i).all Ru.boxN = true) (fun u _ => l.length - (intOf u).toNat)
    case atStart => exact ⟨0, rfl, Nat.zero_le _, Below.refl _ _, rfl⟩
    case round =>
      obtain ⟨i, rfl, hle, hQ, hall⟩ := hrel
      have hQ' := hid hQ
      have hall' := hid hall
      clear hQ hall
      by_cases hlt : i < l.length
      · have hs := hid ((hr'.out.ext hQ'.out).get i hlt)
        have hyes := hid (fun h => all_take hlt hall'.out h)
        have hno := hid (fun h => show Ru.boxesN l = false by unfold Ru.boxesN; rw [all_no (p := Ru.boxN) hlt h]; rfl)
        generalize l[i] = x at *
        obtain ⟨c0, c1, c2, c3, cf, cz⟩ := (Blk.new wr #[.int .i64 x.x0, .int .i64 x.y0, .int .i64 x.x1, .int .i64 x.y1] 73).four
        go_wp2_with (first | (refine wpList_load_at rfl 73 (.tmp 9) rfl 10 rfl g (off + i * 4) (#[.int .i64 x.x0, .int .i64 x.y0, .int .i64 x.x1, .int .i64 x.y1]) (hs.out) rfl Tryd.underlying73 rfl (by kernel_rfl) ?_) | (refine wpList_store_new rfl 73 (.tmp 4) (.tmp 10) rfl rfl wr 73 _ (#[.int .i64 x.x0, .int .i64 x.y0, .int .i64 x.x1, .int .i64 x.y1]) rfl rfl rfl (by kernel_rfl) rfl (boxArr_one x) ?_))
        refine (numbers4v_any x _ (by simp)).mono ?_
        rintro e w1 ⟨rfl, hb1⟩
        have Q1 := hid (bthen hQ'.out (bthen (balloc wr _) hb1))
        generalize Ru.boxN x = r at *
        cases r with
        | true =>
          have hy := hid (hyes.out rfl)
          go_wp2_with fail
          go_roundw
          case rel => exact ⟨i + 1, by go_num, by omega, Q1.out, hy.out⟩
          case measure => simp [intOf]; omega
        | false =>
          have hy := hid (hno.out rfl)
          go_wp2_with fail
          go_ret
          exact ⟨ret_bool hy.out.symm, Q1.out⟩
      · obtain rfl : i = l.length := by omega
        have hf := hid (show Ru.boxesN l = decide ((0 : Int) < l.length) by have h := hall'.out; rw [List.take_of_length_le (Nat.le_refl _)] at h; unfold Ru.boxesN; rw [h]; rfl)
        go_wp2_with fail
        go_ret
        exact ⟨ret_bool (by rw [hf.out]; first | rfl | (rw [Bool.eq_iff_iff]; simp only [decide_eq_true_eq]; omega)), hQ'.out⟩

set_option maxRecDepth 100000 in
set_option maxHeartbeats 4000000 in
theorem noName_any (D : Po.Decl) (bp : Option Addr) (bc : Nat) (w : World) : Calls Tryd.prog 41 #[.agg (declCells D (.slice bp D.boxes.length bc))] w fun e w' => e = .returned (.bool (Ru.noName D)) ∧ Below w.heap.size w w' := by
  have B0 := hid (Blk.new w (declCells D (.slice bp D.boxes.length bc)) 44)
  have Q0 := hid (balloc w (.cells (declCells D (.slice bp D.boxes.length bc)) 44))
  go_enter Tryd.func41, Tryd.ntmps41
  have y1 : (declCells D (.slice bp D.boxes.length bc))[1]? = some (.string D.name) := rfl
  cases k0 : (D.name.data.toList == []) with
  | false =>
    have e := hid (show Ru.noName D = false by unfold Ru.noName; simp only [k0]; simp)
    have z0 : ¬ D.name.toList = [] := by have h := k0; rw [← empty_eq] at h; simpa using h
    go_wp2_with fail
    go_ret
    exact ⟨ret_bool e.out.symm, Q0.out⟩
  | true =>
    have K0 := hid k0
    have z0 : D.name.toList = [] := by have h := k0; rw [← empty_eq] at h; simpa using h
    have y2 : (declCells D (.slice bp D.boxes.length bc))[2]? = some (.int .i64 D.n) := rfl
    cases k1 : (D.n == 0) with
    | false =>
      have e := hid (show Ru.noName D = false by unfold Ru.noName; simp only [K0.out, k1]; simp)
      go_wp2_with fail
      go_ret
      exact ⟨ret_bool e.out.symm, Q0.out⟩
    | true =>
      have K1 := hid k1
      have y3 : (declCells D (.slice bp D.boxes.length bc))[3]? = some (.slice bp D.boxes.length bc) := rfl
      have e := hid (show Ru.noName D = ((D.boxes.length : Int) == 0) by unfold Ru.noName; simp only [K0.out, K1.out, Bool.true_and])
      go_wp2_with fail
      go_ret
      exact ⟨ret_bool e.out.symm, Q0.out⟩

set_option maxRecDepth 100000 in
set_option maxHeartbeats 4000000 in
theorem noRule_any (D : Po.Decl) (bp : Option Addr) (bc : Nat) (w : World) : Calls Tryd.prog 39 #[.agg (declCells D (.slice bp D.boxes.length bc))] w fun e w' => e = .returned (.bool (Ru.noRule D)) ∧ Below w.heap.size w w' := by
  have B0 := hid (Blk.new w (declCells D (.slice bp D.boxes.length bc)) 44)
  have Q0 := hid (balloc w (.cells (declCells D (.slice bp D.boxes.length bc)) 44))
  go_enter Tryd.func39, Tryd.ntmps39
  have y9 : (declCells D (.slice bp D.boxes.length bc))[9]? = some (.int .i64 D.lo) := rfl
  cases k0 : (D.lo == 0) with
  | false =>
    have e := hid (show Ru.noRule D = false by unfold Ru.noRule; simp only [k0]; simp)
    go_wp2_with fail
    go_ret
    exact ⟨ret_bool e.out.symm, Q0.out⟩
  | true =>
    have K0 := hid k0
    have y10 : (declCells D (.slice bp D.boxes.length bc))[10]? = some (.int .i64 D.hi) := rfl
    cases k1 : (D.hi == 0) with
    | false =>
      have e := hid (show Ru.noRule D = false by unfold Ru.noRule; simp only [K0.out, k1]; simp)
      go_wp2_with fail
      go_ret
      exact ⟨ret_bool e.out.symm, Q0.out⟩
    | true =>
      have K1 := hid k1
      have y21 : (declCells D (.slice bp D.boxes.length bc))[21]? = some (.int .i64 D.zoom) := rfl
      cases k2 : (D.zoom == 0) with
      | false =>
        have e := hid (show Ru.noRule D = false by unfold Ru.noRule; simp only [K0.out, K1.out, k2]; simp)
        go_wp2_with fail
        go_ret
        exact ⟨ret_bool e.out.symm, Q0.out⟩
      | true =>
        have K2 := hid k2
        go_wp2_with (first | (refine wpList_load_partG rfl 42 (.tmp 17) rfl 18 rfl w.heap.size (11) (whoArr D.label) (range_label B0.out) rfl Tryd.underlying42 rfl (by kernel_rfl) ?_))
        refine (zero_any _ _).mono ?_
        rintro en w1 ⟨rfl, hb1⟩
        have B1 := hid (B0.out.ext hb1)
        have Q1 := hid (bthen Q0.out hb1)
        clear hb1 y9 y10 y21
        cases k3 : Ru.zeroW D.label with
        | false =>
          have e := hid (show Ru.noRule D = false by unfold Ru.noRule; simp only [K0.out, K1.out, K2.out, k3]; simp)
          clear k3
          go_wp2_with fail
          go_ret
          exact ⟨ret_bool e.out.symm, Q1.out⟩
        | true =>
          have K3 := hid k3
          clear k3
          go_wp2_with (first | (refine wpList_load_partG rfl 42 (.tmp 22) rfl 23 rfl w.heap.size (16) (whoArr D.place) (range_place B1.out) rfl Tryd.underlying42 rfl (by kernel_rfl) ?_))
          refine (zero_any _ _).mono ?_
          rintro en w2 ⟨rfl, hb2⟩
          have B2 := hid (B1.out.ext hb2)
          have Q2 := hid (bthen Q1.out hb2)
          clear hb2
          have e := hid (show Ru.noRule D = Ru.zeroW D.place by unfold Ru.noRule; simp only [K0.out, K1.out, K2.out, K3.out, Bool.true_and])
          go_wp2_with fail
          go_ret
          exact ⟨ret_bool e.out.symm, Q2.out⟩

set_option maxRecDepth 100000 in
set_option maxHeartbeats 4000000 in
theorem ruleD_any (D : Po.Decl) (bp : Option Addr) (bc : Nat) (w : World) (h1 : D.role.name.size ≤ 140737488355328) (h2 : D.label.name.size ≤ 140737488355328) (h3 : D.place.name.size ≤ 140737488355328) : Calls Tryd.prog 42 #[.agg (declCells D (.slice bp D.boxes.length bc))] w fun e w' => e = .returned (.bool (Ru.ruleD D)) ∧ Below w.heap.size w w' := by
  have B0 := hid (Blk.new w (declCells D (.slice bp D.boxes.length bc)) 44)
  have Q0 := hid (balloc w (.cells (declCells D (.slice bp D.boxes.length bc)) 44))
  go_enter Tryd.func42, Tryd.ntmps42
  go_wp2_with (first | (refine wpList_load_at rfl 42 (.tmp 3) rfl 4 rfl w.heap.size (4) (whoArr D.role) (range_role B0.out) rfl Tryd.underlying42 rfl (by kernel_rfl) ?_))
  refine (wright_any _ _ h1).mono ?_
  rintro en w1 ⟨rfl, hb1⟩
  have B1 := hid (B0.out.ext hb1)
  have Q1 := hid (bthen Q0.out hb1)
  clear hb1
  cases k0 : Ru.rightW D.role with
  | false =>
    have e := hid (show Ru.ruleD D = false by unfold Ru.ruleD; simp only [k0]; simp)
    clear k0
    go_wp2_with fail
    go_ret
    exact ⟨ret_bool e.out.symm, Q1.out⟩
  | true =>
    have K0 := hid k0
    clear k0
    have y9 := Blk.cell B1.out 9 (v := .int .i64 D.lo) rfl
    have y10 := Blk.cell B1.out 10 (v := .int .i64 D.hi) rfl
    have y21 := Blk.cell B1.out 21 (v := .int .i64 D.zoom) rfl
    go_wp2_with fail
    refine (numbers3v_any _ _ _ _ rfl).mono ?_
    rintro en w2 ⟨rfl, hb2⟩
    have B2 := hid (B1.out.ext hb2)
    have Q2 := hid (bthen Q1.out hb2)
    clear hb2 y9 y10 y21
    cases k1 : (Ru.num D.lo && Ru.num D.hi && Ru.num D.zoom) with
    | false =>
      have e := hid (show Ru.ruleD D = false by unfold Ru.ruleD; simp only [K0.out, k1]; simp)
      clear k1
      go_wp2_with fail
      go_ret
      exact ⟨ret_bool e.out.symm, Q2.out⟩
    | true =>
      have K1 := hid k1
      clear k1
      go_wp2_with (first | (refine wpList_load_partG rfl 42 (.tmp 17) rfl 18 rfl w.heap.size (11) (whoArr D.label) (range_label B2.out) rfl Tryd.underlying42 rfl (by kernel_rfl) ?_))
      refine (wright_any _ _ h2).mono ?_
      rintro en w3 ⟨rfl, hb3⟩
      have B3 := hid (B2.out.ext hb3)
      have Q3 := hid (bthen Q2.out hb3)
      clear hb3
      cases k2 : Ru.rightW D.label with
      | false =>
        have e := hid (show Ru.ruleD D = false by unfold Ru.ruleD; simp only [K0.out, K1.out, k2]; simp)
        clear k2
        go_wp2_with fail
        go_ret
        exact ⟨ret_bool e.out.symm, Q3.out⟩
      | true =>
        have K2 := hid k2
        clear k2
        go_wp2_with (first | (refine wpList_load_partG rfl 42 (.tmp 22) rfl 23 rfl w.heap.size (16) (whoArr D.place) (range_place B3.out) rfl Tryd.underlying42 rfl (by kernel_rfl) ?_))
        refine (wplace_any _ _ h3).mono ?_
        rintro en w4 ⟨rfl, hb4⟩
        have B4 := hid (B3.out.ext hb4)
        have Q4 := hid (bthen Q3.out hb4)
        clear hb4
        have e := hid (show Ru.ruleD D = Ru.placeW D.place by unfold Ru.ruleD; simp only [K0.out, K1.out, K2.out, Bool.true_and])
        go_wp2_with fail
        go_ret
        exact ⟨ret_bool e.out.symm, Q4.out⟩

set_option maxRecDepth 100000 in
set_option maxHeartbeats 4000000 in
theorem may_1 (D : Po.Decl) (bp : Option Addr) (bc : Nat) (w : World) (h0 : D.name.size ≤ 140737488355328) (_h1 : D.role.name.size ≤ 140737488355328) (_h2 : D.label.name.size ≤ 140737488355328) (_h3 : D.place.name.size ≤ 140737488355328) (_hr : BRow w (.slice bp D.boxes.length bc) D.boxes) (_hn : D.boxes.length ≤ 140737488355328) (hk : D.kind = 1) : Calls Tryd.prog 19 #[.agg (declCells D (.slice bp D.boxes.length bc))] w fun e w' => e = .returned (.bool (Ru.may D)) ∧ Below w.heap.size w w' := by
  have B0 := hid (Blk.new w (declCells D (.slice bp D.boxes.length bc)) 44)
  have Q0 := hid (balloc w (.cells (declCells D (.slice bp D.boxes.length bc)) 44))
  have hF := hid (show Ru.may D = (Lx.isName D.name.data.toList && Ru.num D.n && ((D.boxes.length : Int) == 0) && Ru.zeroW D.role && Ru.noRule D) by unfold Ru.may; rw [if_pos (by omega)])
  have q1 : (D.kind == 1) = true := beq_iff_eq.2 (by omega)
  have yk : (declCells D (.slice bp D.boxes.length bc))[0]? = some (.int .i64 D.kind) := rfl
  clear hk
  go_enter Tryd.func19, Tryd.ntmps19
  have y1 : (declCells D (.slice bp D.boxes.length bc))[1]? = some (.string D.name) := rfl
  go_wp2_with fail
  refine (name_any _ _ h0).mono ?_
  rintro en w1 ⟨rfl, hb1⟩
  have B1 := hid (B0.out.ext hb1)
  have Q1 := hid (bthen Q0.out hb1)
  clear hb1 y1
  cases k0 : Lx.isName D.name.data.toList with
  | false =>
    have e := hid (show Ru.may D = false by rw [hF.out]; simp only [k0]; simp)
    clear k0
    go_wp2_with fail
    go_ret
    exact ⟨ret_bool e.out.symm, Q1.out⟩
  | true =>
    have K0 := hid k0
    clear k0
    have y2 := Blk.cell B1.out 2 (v := .int .i64 D.n) rfl
    go_wp2_with fail
    refine (numbers1_any _ _ rfl).mono ?_
    rintro en w2 ⟨rfl, hb2⟩
    have B2 := hid (B1.out.ext hb2)
    have Q2 := hid (bthen Q1.out hb2)
    clear hb2 y2
    cases k1 : Ru.num D.n with
    | false =>
      have e := hid (show Ru.may D = false by rw [hF.out]; simp only [K0.out, k1]; simp)
      clear k1
      go_wp2_with fail
      go_ret
      exact ⟨ret_bool e.out.symm, Q2.out⟩
    | true =>
      have K1 := hid k1
      clear k1
      have y3 := Blk.cell B2.out 3 (v := .slice bp D.boxes.length bc) rfl
      cases k2 : ((D.boxes.length : Int) == 0) with
      | false =>
        have e := hid (show Ru.may D = false by rw [hF.out]; simp only [K0.out, K1.out, k2]; simp)
        go_wp2_with fail
        go_ret
        exact ⟨ret_bool e.out.symm, Q2.out⟩
      | true =>
        have K2 := hid k2
        go_wp2_with (first | (refine wpList_load_partG rfl 42 (.tmp 24) rfl 25 rfl w.heap.size (4) (whoArr D.role) (range_role B2.out) rfl Tryd.underlying42 rfl (by kernel_rfl) ?_))
        refine (zero_any _ _).mono ?_
        rintro en w3 ⟨rfl, hb3⟩
        have B3 := hid (B2.out.ext hb3)
        have Q3 := hid (bthen Q2.out hb3)
        clear hb3 y3
        cases k3 : Ru.zeroW D.role with
        | false =>
          have e := hid (show Ru.may D = false by rw [hF.out]; simp only [K0.out, K1.out, K2.out, k3]; simp)
          clear k3
          go_wp2_with fail
          go_ret
          exact ⟨ret_bool e.out.symm, Q3.out⟩
        | true =>
          have K3 := hid k3
          clear k3
          go_wp2_with (first | (refine wpList_load_blkG rfl 44 (.tmp 1) rfl 29 rfl w.heap.size 44 (declCells D (.slice bp D.boxes.length bc)) (B3.out) rfl Tryd.underlying44 rfl (by kernel_rfl) ?_))
          refine (noRule_any D bp bc _).mono ?_
          rintro en w4 ⟨rfl, hb4⟩
          have B4 := hid (B3.out.ext hb4)
          have Q4 := hid (bthen Q3.out hb4)
          clear hb4
          have e := hid (show Ru.may D = Ru.noRule D by rw [hF.out]; simp only [K0.out, K1.out, K2.out, K3.out, Bool.true_and])
          go_wp2_with fail
          go_ret
          exact ⟨ret_bool e.out.symm, Q4.out⟩

set_option maxRecDepth 100000 in
set_option maxHeartbeats 4000000 in
theorem may_2 (D : Po.Decl) (bp : Option Addr) (bc : Nat) (w : World) (h0 : D.name.size ≤ 140737488355328) (_h1 : D.role.name.size ≤ 140737488355328) (_h2 : D.label.name.size ≤ 140737488355328) (_h3 : D.place.name.size ≤ 140737488355328) (_hr : BRow w (.slice bp D.boxes.length bc) D.boxes) (_hn : D.boxes.length ≤ 140737488355328) (hk : D.kind = 2) : Calls Tryd.prog 19 #[.agg (declCells D (.slice bp D.boxes.length bc))] w fun e w' => e = .returned (.bool (Ru.may D)) ∧ Below w.heap.size w w' := by
  have B0 := hid (Blk.new w (declCells D (.slice bp D.boxes.length bc)) 44)
  have Q0 := hid (balloc w (.cells (declCells D (.slice bp D.boxes.length bc)) 44))
  have hF := hid (show Ru.may D = (Lx.isName D.name.data.toList && Ru.num D.n && ((D.boxes.length : Int) == 0) && Ru.zeroW D.role && Ru.noRule D) by unfold Ru.may; rw [if_pos (by omega)])
  have q1 : (D.kind == 1) = false := beq_eq_false_iff_ne.2 (by omega)
  have q2 : (D.kind == 2) = true := beq_iff_eq.2 (by omega)
  have yk : (declCells D (.slice bp D.boxes.length bc))[0]? = some (.int .i64 D.kind) := rfl
  clear hk
  go_enter Tryd.func19, Tryd.ntmps19
  have y1 : (declCells D (.slice bp D.boxes.length bc))[1]? = some (.string D.name) := rfl
  go_wp2_with fail
  refine (name_any _ _ h0).mono ?_
  rintro en w1 ⟨rfl, hb1⟩
  have B1 := hid (B0.out.ext hb1)
  have Q1 := hid (bthen Q0.out hb1)
  clear hb1 y1
  cases k0 : Lx.isName D.name.data.toList with
  | false =>
    have e := hid (show Ru.may D = false by rw [hF.out]; simp only [k0]; simp)
    clear k0
    go_wp2_with fail
    go_ret
    exact ⟨ret_bool e.out.symm, Q1.out⟩
  | true =>
    have K0 := hid k0
    clear k0
    have y2 := Blk.cell B1.out 2 (v := .int .i64 D.n) rfl
    go_wp2_with fail
    refine (numbers1_any _ _ rfl).mono ?_
    rintro en w2 ⟨rfl, hb2⟩
    have B2 := hid (B1.out.ext hb2)
    have Q2 := hid (bthen Q1.out hb2)
    clear hb2 y2
    cases k1 : Ru.num D.n with
    | false =>
      have e := hid (show Ru.may D = false by rw [hF.out]; simp only [K0.out, k1]; simp)
      clear k1
      go_wp2_with fail
      go_ret
      exact ⟨ret_bool e.out.symm, Q2.out⟩
    | true =>
      have K1 := hid k1
      clear k1
      have y3 := Blk.cell B2.out 3 (v := .slice bp D.boxes.length bc) rfl
      cases k2 : ((D.boxes.length : Int) == 0) with
      | false =>
        have e := hid (show Ru.may D = false by rw [hF.out]; simp only [K0.out, K1.out, k2]; simp)
        go_wp2_with fail
        go_ret
        exact ⟨ret_bool e.out.symm, Q2.out⟩
      | true =>
        have K2 := hid k2
        go_wp2_with (first | (refine wpList_load_partG rfl 42 (.tmp 24) rfl 25 rfl w.heap.size (4) (whoArr D.role) (range_role B2.out) rfl Tryd.underlying42 rfl (by kernel_rfl) ?_))
        refine (zero_any _ _).mono ?_
        rintro en w3 ⟨rfl, hb3⟩
        have B3 := hid (B2.out.ext hb3)
        have Q3 := hid (bthen Q2.out hb3)
        clear hb3 y3
        cases k3 : Ru.zeroW D.role with
        | false =>
          have e := hid (show Ru.may D = false by rw [hF.out]; simp only [K0.out, K1.out, K2.out, k3]; simp)
          clear k3
          go_wp2_with fail
          go_ret
          exact ⟨ret_bool e.out.symm, Q3.out⟩
        | true =>
          have K3 := hid k3
          clear k3
          go_wp2_with (first | (refine wpList_load_blkG rfl 44 (.tmp 1) rfl 29 rfl w.heap.size 44 (declCells D (.slice bp D.boxes.length bc)) (B3.out) rfl Tryd.underlying44 rfl (by kernel_rfl) ?_))
          refine (noRule_any D bp bc _).mono ?_
          rintro en w4 ⟨rfl, hb4⟩
          have B4 := hid (B3.out.ext hb4)
          have Q4 := hid (bthen Q3.out hb4)
          clear hb4
          have e := hid (show Ru.may D = Ru.noRule D by rw [hF.out]; simp only [K0.out, K1.out, K2.out, K3.out, Bool.true_and])
          go_wp2_with fail
          go_ret
          exact ⟨ret_bool e.out.symm, Q4.out⟩

set_option maxRecDepth 100000 in
set_option maxHeartbeats 4000000 in
theorem may_3 (D : Po.Decl) (bp : Option Addr) (bc : Nat) (w : World) (h0 : D.name.size ≤ 140737488355328) (_h1 : D.role.name.size ≤ 140737488355328) (_h2 : D.label.name.size ≤ 140737488355328) (_h3 : D.place.name.size ≤ 140737488355328) (hr : BRow w (.slice bp D.boxes.length bc) D.boxes) (hn : D.boxes.length ≤ 140737488355328) (hk : D.kind = 3) : Calls Tryd.prog 19 #[.agg (declCells D (.slice bp D.boxes.length bc))] w fun e w' => e = .returned (.bool (Ru.may D)) ∧ Below w.heap.size w w' := by
  have B0 := hid (Blk.new w (declCells D (.slice bp D.boxes.length bc)) 44)
  have Q0 := hid (balloc w (.cells (declCells D (.slice bp D.boxes.length bc)) 44))
  have hF := hid (show Ru.may D = (Lx.isName D.name.data.toList && D.n == 0 && Ru.boxesN D.boxes && Ru.zeroW D.role && Ru.noRule D) by unfold Ru.may; rw [if_neg (by omega), if_pos (by omega)])
  have q1 : (D.kind == 1) = false := beq_eq_false_iff_ne.2 (by omega)
  have q2 : (D.kind == 2) = false := beq_eq_false_iff_ne.2 (by omega)
  have q3 : (D.kind == 3) = true := beq_iff_eq.2 (by omega)
  have yk : (declCells D (.slice bp D.boxes.length bc))[0]? = some (.int .i64 D.kind) := rfl
  clear hk
  go_enter Tryd.func19, Tryd.ntmps19
  have y1 : (declCells D (.slice bp D.boxes.length bc))[1]? = some (.string D.name) := rfl
  go_wp2_with fail
  refine (name_any _ _ h0).mono ?_
  rintro en w1 ⟨rfl, hb1⟩
  have B1 := hid (B0.out.ext hb1)
  have Q1 := hid (bthen Q0.out hb1)
  clear hb1 y1
  cases k0 : Lx.isName D.name.data.toList with
  | false =>
    have e := hid (show Ru.may D = false by rw [hF.out]; simp only [k0]; simp)
    clear k0
    go_wp2_with fail
    go_ret
    exact ⟨ret_bool e.out.symm, Q1.out⟩
  | true =>
    have K0 := hid k0
    clear k0
    have y2 := Blk.cell B1.out 2 (v := .int .i64 D.n) rfl
    cases k1 : (D.n == 0) with
    | false =>
      have e := hid (show Ru.may D = false by rw [hF.out]; simp only [K0.out, k1]; simp)
      go_wp2_with fail
      go_ret
      exact ⟨ret_bool e.out.symm, Q1.out⟩
    | true =>
      have K1 := hid k1
      have y3 := Blk.cell B1.out 3 (v := .slice bp D.boxes.length bc) rfl
      go_wp2_with fail
      refine (pboxesN_any (hr.ext Q1.out) hn).mono ?_
      rintro en w2 ⟨rfl, hb2⟩
      have B2 := hid (B1.out.ext hb2)
      have Q2 := hid (bthen Q1.out hb2)
      clear hb2 y2 y3
      cases k2 : Ru.boxesN D.boxes with
      | false =>
        have e := hid (show Ru.may D = false by rw [hF.out]; simp only [K0.out, K1.out, k2]; simp)
        clear k2
        go_wp2_with fail
        go_ret
        exact ⟨ret_bool e.out.symm, Q2.out⟩
      | true =>
        have K2 := hid k2
        clear k2
        go_wp2_with (first | (refine wpList_load_partG rfl 42 (.tmp 48) rfl 49 rfl w.heap.size (4) (whoArr D.role) (range_role B2.out) rfl Tryd.underlying42 rfl (by kernel_rfl) ?_))
        refine (zero_any _ _).mono ?_
        rintro en w3 ⟨rfl, hb3⟩
        have B3 := hid (B2.out.ext hb3)
        have Q3 := hid (bthen Q2.out hb3)
        clear hb3
        cases k3 : Ru.zeroW D.role with
        | false =>
          have e := hid (show Ru.may D = false by rw [hF.out]; simp only [K0.out, K1.out, K2.out, k3]; simp)
          clear k3
          go_wp2_with fail
          go_ret
          exact ⟨ret_bool e.out.symm, Q3.out⟩
        | true =>
          have K3 := hid k3
          clear k3
          go_wp2_with (first | (refine wpList_load_blkG rfl 44 (.tmp 1) rfl 53 rfl w.heap.size 44 (declCells D (.slice bp D.boxes.length bc)) (B3.out) rfl Tryd.underlying44 rfl (by kernel_rfl) ?_))
          refine (noRule_any D bp bc _).mono ?_
          rintro en w4 ⟨rfl, hb4⟩
          have B4 := hid (B3.out.ext hb4)
          have Q4 := hid (bthen Q3.out hb4)
          clear hb4
          have e := hid (show Ru.may D = Ru.noRule D by rw [hF.out]; simp only [K0.out, K1.out, K2.out, K3.out, Bool.true_and])
          go_wp2_with fail
          go_ret
          exact ⟨ret_bool e.out.symm, Q4.out⟩

set_option maxRecDepth 100000 in
set_option maxHeartbeats 4000000 in
theorem may_4 (D : Po.Decl) (bp : Option Addr) (bc : Nat) (w : World) (_h0 : D.name.size ≤ 140737488355328) (h1 : D.role.name.size ≤ 140737488355328) (h2 : D.label.name.size ≤ 140737488355328) (h3 : D.place.name.size ≤ 140737488355328) (_hr : BRow w (.slice bp D.boxes.length bc) D.boxes) (_hn : D.boxes.length ≤ 140737488355328) (hk : D.kind = 4) : Calls Tryd.prog 19 #[.agg (declCells D (.slice bp D.boxes.length bc))] w fun e w' => e = .returned (.bool (Ru.may D)) ∧ Below w.heap.size w w' := by
  have B0 := hid (Blk.new w (declCells D (.slice bp D.boxes.length bc)) 44)
  have Q0 := hid (balloc w (.cells (declCells D (.slice bp D.boxes.length bc)) 44))
  have hF := hid (show Ru.may D = (Ru.noName D && Ru.ruleD D) by unfold Ru.may; rw [if_neg (by omega), if_neg (by omega), if_pos (by omega)])
  have q1 : (D.kind == 1) = false := beq_eq_false_iff_ne.2 (by omega)
  have q2 : (D.kind == 2) = false := beq_eq_false_iff_ne.2 (by omega)
  have q3 : (D.kind == 3) = false := beq_eq_false_iff_ne.2 (by omega)
  have q4 : (D.kind == 4) = true := beq_iff_eq.2 (by omega)
  have yk : (declCells D (.slice bp D.boxes.length bc))[0]? = some (.int .i64 D.kind) := rfl
  clear hk
  go_enter Tryd.func19, Tryd.ntmps19
  go_wp2_with (first | (refine wpList_load_blk rfl 44 (.tmp 1) rfl 59 rfl w.heap.size 44 (declCells D (.slice bp D.boxes.length bc)) (B0.out) rfl Tryd.underlying44 rfl (by kernel_rfl) ?_))
  refine (noName_any D bp bc _).mono ?_
  rintro en w1 ⟨rfl, hb1⟩
  have B1 := hid (B0.out.ext hb1)
  have Q1 := hid (bthen Q0.out hb1)
  clear hb1
  cases k0 : Ru.noName D with
  | false =>
    have e := hid (show Ru.may D = false by rw [hF.out]; simp only [k0]; simp)
    clear k0
    go_wp2_with fail
    go_ret
    exact ⟨ret_bool e.out.symm, Q1.out⟩
  | true =>
    have K0 := hid k0
    clear k0
    go_wp2_with (first | (refine wpList_load_blkG rfl 44 (.tmp 1) rfl 62 rfl w.heap.size 44 (declCells D (.slice bp D.boxes.length bc)) (B1.out) rfl Tryd.underlying44 rfl (by kernel_rfl) ?_))
    refine (ruleD_any D bp bc _ h1 h2 h3).mono ?_
    rintro en w2 ⟨rfl, hb2⟩
    have B2 := hid (B1.out.ext hb2)
    have Q2 := hid (bthen Q1.out hb2)
    clear hb2
    have e := hid (show Ru.may D = Ru.ruleD D by rw [hF.out]; simp only [K0.out, Bool.true_and])
    go_wp2_with fail
    go_ret
    exact ⟨ret_bool e.out.symm, Q2.out⟩

set_option maxRecDepth 100000 in
set_option maxHeartbeats 4000000 in
theorem may_5 (D : Po.Decl) (bp : Option Addr) (bc : Nat) (w : World) (_h0 : D.name.size ≤ 140737488355328) (h1 : D.role.name.size ≤ 140737488355328) (h2 : D.label.name.size ≤ 140737488355328) (h3 : D.place.name.size ≤ 140737488355328) (_hr : BRow w (.slice bp D.boxes.length bc) D.boxes) (_hn : D.boxes.length ≤ 140737488355328) (hk : D.kind = 5) : Calls Tryd.prog 19 #[.agg (declCells D (.slice bp D.boxes.length bc))] w fun e w' => e = .returned (.bool (Ru.may D)) ∧ Below w.heap.size w w' := by
  have B0 := hid (Blk.new w (declCells D (.slice bp D.boxes.length bc)) 44)
  have Q0 := hid (balloc w (.cells (declCells D (.slice bp D.boxes.length bc)) 44))
  have hF := hid (show Ru.may D = (Ru.noName D && Ru.ruleD D) by unfold Ru.may; rw [if_neg (by omega), if_neg (by omega), if_pos (by omega)])
  have q1 : (D.kind == 1) = false := beq_eq_false_iff_ne.2 (by omega)
  have q2 : (D.kind == 2) = false := beq_eq_false_iff_ne.2 (by omega)
  have q3 : (D.kind == 3) = false := beq_eq_false_iff_ne.2 (by omega)
  have q4 : (D.kind == 4) = false := beq_eq_false_iff_ne.2 (by omega)
  have q5 : (D.kind == 5) = true := beq_iff_eq.2 (by omega)
  have yk : (declCells D (.slice bp D.boxes.length bc))[0]? = some (.int .i64 D.kind) := rfl
  clear hk
  go_enter Tryd.func19, Tryd.ntmps19
  go_wp2_with (first | (refine wpList_load_blk rfl 44 (.tmp 1) rfl 59 rfl w.heap.size 44 (declCells D (.slice bp D.boxes.length bc)) (B0.out) rfl Tryd.underlying44 rfl (by kernel_rfl) ?_))
  refine (noName_any D bp bc _).mono ?_
  rintro en w1 ⟨rfl, hb1⟩
  have B1 := hid (B0.out.ext hb1)
  have Q1 := hid (bthen Q0.out hb1)
  clear hb1
  cases k0 : Ru.noName D with
  | false =>
    have e := hid (show Ru.may D = false by rw [hF.out]; simp only [k0]; simp)
    clear k0
    go_wp2_with fail
    go_ret
    exact ⟨ret_bool e.out.symm, Q1.out⟩
  | true =>
    have K0 := hid k0
    clear k0
    go_wp2_with (first | (refine wpList_load_blkG rfl 44 (.tmp 1) rfl 62 rfl w.heap.size 44 (declCells D (.slice bp D.boxes.length bc)) (B1.out) rfl Tryd.underlying44 rfl (by kernel_rfl) ?_))
    refine (ruleD_any D bp bc _ h1 h2 h3).mono ?_
    rintro en w2 ⟨rfl, hb2⟩
    have B2 := hid (B1.out.ext hb2)
    have Q2 := hid (bthen Q1.out hb2)
    clear hb2
    have e := hid (show Ru.may D = Ru.ruleD D by rw [hF.out]; simp only [K0.out, Bool.true_and])
    go_wp2_with fail
    go_ret
    exact ⟨ret_bool e.out.symm, Q2.out⟩

set_option maxRecDepth 100000 in
set_option maxHeartbeats 4000000 in
theorem may_6 (D : Po.Decl) (bp : Option Addr) (bc : Nat) (w : World) (_h0 : D.name.size ≤ 140737488355328) (h1 : D.role.name.size ≤ 140737488355328) (_h2 : D.label.name.size ≤ 140737488355328) (_h3 : D.place.name.size ≤ 140737488355328) (_hr : BRow w (.slice bp D.boxes.length bc) D.boxes) (_hn : D.boxes.length ≤ 140737488355328) (hk : D.kind = 6) : Calls Tryd.prog 19 #[.agg (declCells D (.slice bp D.boxes.length bc))] w fun e w' => e = .returned (.bool (Ru.may D)) ∧ Below w.heap.size w w' := by
  have B0 := hid (Blk.new w (declCells D (.slice bp D.boxes.length bc)) 44)
  have Q0 := hid (balloc w (.cells (declCells D (.slice bp D.boxes.length bc)) 44))
  have hF := hid (show Ru.may D = (Ru.noName D && Ru.rightW D.role && Ru.noRule D) by unfold Ru.may; rw [if_neg (by omega), if_neg (by omega), if_neg (by omega), if_pos (by omega)])
  have q1 : (D.kind == 1) = false := beq_eq_false_iff_ne.2 (by omega)
  have q2 : (D.kind == 2) = false := beq_eq_false_iff_ne.2 (by omega)
  have q3 : (D.kind == 3) = false := beq_eq_false_iff_ne.2 (by omega)
  have q4 : (D.kind == 4) = false := beq_eq_false_iff_ne.2 (by omega)
  have q5 : (D.kind == 5) = false := beq_eq_false_iff_ne.2 (by omega)
  have q6 : (D.kind == 6) = true := beq_iff_eq.2 (by omega)
  have yk : (declCells D (.slice bp D.boxes.length bc))[0]? = some (.int .i64 D.kind) := rfl
  clear hk
  go_enter Tryd.func19, Tryd.ntmps19
  go_wp2_with (first | (refine wpList_load_blk rfl 44 (.tmp 1) rfl 67 rfl w.heap.size 44 (declCells D (.slice bp D.boxes.length bc)) (B0.out) rfl Tryd.underlying44 rfl (by kernel_rfl) ?_))
  refine (noName_any D bp bc _).mono ?_
  rintro en w1 ⟨rfl, hb1⟩
  have B1 := hid (B0.out.ext hb1)
  have Q1 := hid (bthen Q0.out hb1)
  clear hb1
  cases k0 : Ru.noName D with
  | false =>
    have e := hid (show Ru.may D = false by rw [hF.out]; simp only [k0]; simp)
    clear k0
    go_wp2_with fail
    go_ret
    exact ⟨ret_bool e.out.symm, Q1.out⟩
  | true =>
    have K0 := hid k0
    clear k0
    go_wp2_with (first | (refine wpList_load_partG rfl 42 (.tmp 70) rfl 71 rfl w.heap.size (4) (whoArr D.role) (range_role B1.out) rfl Tryd.underlying42 rfl (by kernel_rfl) ?_))
    refine (wright_any _ _ h1).mono ?_
    rintro en w2 ⟨rfl, hb2⟩
    have B2 := hid (B1.out.ext hb2)
    have Q2 := hid (bthen Q1.out hb2)
    clear hb2
    cases k1 : Ru.rightW D.role with
    | false =>
      have e := hid (show Ru.may D = false by rw [hF.out]; simp only [K0.out, k1]; simp)
      clear k1
      go_wp2_with fail
      go_ret
      exact ⟨ret_bool e.out.symm, Q2.out⟩
    | true =>
      have K1 := hid k1
      clear k1
      go_wp2_with (first | (refine wpList_load_blkG rfl 44 (.tmp 1) rfl 75 rfl w.heap.size 44 (declCells D (.slice bp D.boxes.length bc)) (B2.out) rfl Tryd.underlying44 rfl (by kernel_rfl) ?_))
      refine (noRule_any D bp bc _).mono ?_
      rintro en w3 ⟨rfl, hb3⟩
      have B3 := hid (B2.out.ext hb3)
      have Q3 := hid (bthen Q2.out hb3)
      clear hb3
      have e := hid (show Ru.may D = Ru.noRule D by rw [hF.out]; simp only [K0.out, K1.out, Bool.true_and])
      go_wp2_with fail
      go_ret
      exact ⟨ret_bool e.out.symm, Q3.out⟩

set_option maxRecDepth 100000 in
set_option maxHeartbeats 4000000 in
theorem may_0 (D : Po.Decl) (bp : Option Addr) (bc : Nat) (w : World) (_h0 : D.name.size ≤ 140737488355328) (_h1 : D.role.name.size ≤ 140737488355328) (_h2 : D.label.name.size ≤ 140737488355328) (_h3 : D.place.name.size ≤ 140737488355328) (_hr : BRow w (.slice bp D.boxes.length bc) D.boxes) (_hn : D.boxes.length ≤ 140737488355328) (hk : D.kind < 1 ∨ 6 < D.kind) : Calls Tryd.prog 19 #[.agg (declCells D (.slice bp D.boxes.length bc))] w fun e w' => e = .returned (.bool (Ru.may D)) ∧ Below w.heap.size w w' := by
  have B0 := hid (Blk.new w (declCells D (.slice bp D.boxes.length bc)) 44)
  have Q0 := hid (balloc w (.cells (declCells D (.slice bp D.boxes.length bc)) 44))
  have hF := hid (show Ru.may D = false by unfold Ru.may; rw [if_neg (by omega), if_neg (by omega), if_neg (by omega), if_neg (by omega)])
  have q1 : (D.kind == 1) = false := beq_eq_false_iff_ne.2 (by omega)
  have q2 : (D.kind == 2) = false := beq_eq_false_iff_ne.2 (by omega)
  have q3 : (D.kind == 3) = false := beq_eq_false_iff_ne.2 (by omega)
  have q4 : (D.kind == 4) = false := beq_eq_false_iff_ne.2 (by omega)
  have q5 : (D.kind == 5) = false := beq_eq_false_iff_ne.2 (by omega)
  have q6 : (D.kind == 6) = false := beq_eq_false_iff_ne.2 (by omega)
  have yk : (declCells D (.slice bp D.boxes.length bc))[0]? = some (.int .i64 D.kind) := rfl
  clear hk
  go_enter Tryd.func19, Tryd.ntmps19
  go_wp2_with fail
  go_ret
  exact ⟨ret_bool hF.out.symm, Q0.out⟩

theorem may_any (D : Po.Decl) (v : Value) (w : World) (h0 : D.name.size ≤ 140737488355328) (h1 : D.role.name.size ≤ 140737488355328) (h2 : D.label.name.size ≤ 140737488355328) (h3 : D.place.name.size ≤ 140737488355328)
    (hr : BRow w v D.boxes) (hn : D.boxes.length ≤ 140737488355328) :
    Calls Tryd.prog 19 #[.agg (declCells D v)] w fun e w' => e = .returned (.bool (Ru.may D)) ∧ Below w.heap.size w w' := by
  obtain ⟨bp, bc, rfl⟩ := hr.shape
  have hk : (D.kind < 1 ∨ 6 < D.kind) ∨ D.kind = 1 ∨ D.kind = 2 ∨ D.kind = 3 ∨ D.kind = 4 ∨ D.kind = 5 ∨ D.kind = 6 := by omega
  rcases hk with hk | hk | hk | hk | hk | hk | hk
  · exact may_0 D bp bc w h0 h1 h2 h3 hr hn hk
  · exact may_1 D bp bc w h0 h1 h2 h3 hr hn hk
  · exact may_2 D bp bc w h0 h1 h2 h3 hr hn hk
  · exact may_3 D bp bc w h0 h1 h2 h3 hr hn hk
  · exact may_4 D bp bc w h0 h1 h2 h3 hr hn hk
  · exact may_5 D bp bc w h0 h1 h2 h3 hr hn hk
  · exact may_6 D bp bc w h0 h1 h2 h3 hr hn hk

end Go.Proofs.YtnoieobjfihbeaaDoor

namespace Go.Proofs.YtnoieobjfihbeaaDoor
open Go.RowKit Go.Sort

/-- a declaration whose texts and boxes are of a size that can be -/
structure DSmall (d : Po.Decl) : Prop where
  name : d.name.size ≤ 140737488355328
  role : d.role.name.size ≤ 140737488355328
  label : d.label.name.size ≤ 140737488355328
  place : d.place.name.size ≤ 140737488355328
  boxes : d.boxes.length * 32 ≤ 140737488355328
/-- a row of declarations in memory -/
structure DRow (w : World) (g off cap : Nat) (ds : List Po.Decl) : Prop where
  cap : ds.length ≤ cap
  lt : g < w.heap.size
  get : ∀ (i : Nat) (hi : i < ds.length), ∃ x, w.rangeAt g (off + i * 24) (declCells ds[i] x).toList ∧ BRow w x ds[i].boxes
theorem DRow.ext {w w' : World} {g off cap : Nat} {ds : List Po.Decl} (h : DRow w g off cap ds) (hb : Below w.heap.size w w') : DRow w' g off cap ds :=
  ⟨h.cap, Nat.lt_of_lt_of_le h.lt hb.size, fun i hi => by
    obtain ⟨x, h1, h2⟩ := h.get i hi
    exact ⟨x, fun j u hu => (hb.cell (p := ⟨g, off + i * 24 + j, none⟩) h.lt).trans (h1 j u hu), h2.ext hb⟩⟩
/-- a slice that reads as declarations -/
def DSl (w : World) (v : Value) (ds : List Po.Decl) : Prop := (v = .slice none 0 0 ∧ ds = []) ∨ ∃ g off cap, v = .slice (some ⟨g, off, none⟩) ds.length cap ∧ DRow w g off cap ds
theorem DSl.ext {w w' : World} {v : Value} {ds : List Po.Decl} (h : DSl w v ds) (hb : Below w.heap.size w w') : DSl w' v ds := h.imp id fun ⟨g, off, cap, hv, hr⟩ => ⟨g, off, cap, hv, hr.ext hb⟩
theorem DSl.shape {w : World} {v : Value} {ds : List Po.Decl} (h : DSl w v ds) : ∃ p c, v = .slice p ds.length c := by
  rcases h with ⟨rfl, rfl⟩ | ⟨g, off, cap, rfl, _⟩
  · exact ⟨_, _, rfl⟩
  · exact ⟨_, _, rfl⟩
theorem Decls.sl {w : World} {v : Value} {ds : List Po.Decl} {vs : List Value} (h : Decls w v ds vs) : DSl w v ds := by
  have hz : (ds.zip vs).length = ds.length := by rw [List.length_zip, h.len]; omega
  have hr : Row w v (ds.zip vs).length 24 ((ds.zip vs).flatMap fun p => (declCells p.1 p.2).toList) := by rw [hz]; exact h.row
  rcases srow_of (f := fun p : Po.Decl × Value => declCells p.1 p.2) (fun _ _ => rfl) hr with ⟨hv, h0⟩ | ⟨g, off, cap, hv, hs⟩
  · refine .inl ⟨hv, ?_⟩
    have : ds.length = 0 := by rw [← hz, h0]; rfl
    exact List.eq_nil_of_length_eq_zero this
  · rw [hz] at hv
    refine .inr ⟨g, off, cap, hv, by have := hs.cap; omega, hs.lt, fun i hi => ?_⟩
    have hi2 : i < vs.length := by rw [h.len]; exact hi
    have h1 := hs.get i (by omega)
    rw [List.getElem_zip] at h1
    exact ⟨vs[i], h1, (h.box i _ _ (List.getElem?_eq_getElem hi) (List.getElem?_eq_getElem hi2)).b⟩
/-- what the walk wants of declaration number i -/
structure DAt (w : World) (g o : Nat) (d : Po.Decl) (x : Value) : Prop where
  at_ : w.rangeAt g o (declCells d x).toList
  box : BRow w x d.boxes
  one : (declCells d x).all (·.oneCell') = true
theorem DRow.at {w w' : World} {g off cap : Nat} {ds : List Po.Decl} (h : DRow w g off cap ds) (hb : Below w.heap.size w w') {i : Nat} (hi : i < ds.length) : ∃ x, DAt w' g (off + i * 24) ds[i] x := by
  obtain ⟨x, h1, h2⟩ := (h.ext hb).get i hi
  exact ⟨x, h1, h2, declCells_one _ h2.one⟩

set_option maxRecDepth 100000 in
set_option maxHeartbeats 1000000 in
theorem pright_any {w : World} {v : Value} {l : List Po.Decl} (h : DSl w v l) (hn : l.length ≤ 140737488355328) (hs : ∀ d ∈ l, DSmall d) :
    Calls Tryd.prog 11 #[v] w fun e w' => e = .returned (.bool (l.all Ru.may)) ∧ Below w.heap.size w w' := by
  rcases h with ⟨rfl, rfl⟩ | ⟨g, off, cap, rfl, hr⟩
  · go_enter Tryd.func11, Tryd.ntmps11
    go_wp2_with fail
    go_loop [7] (fun u => u = .int .i64 0) (fun _ => 0)
    case atStart => rfl
    case round =>
      subst hrel
      go_wp2_with fail
      go_ret
      exact ⟨rfl, Below.refl _ _⟩
  · have hr' := hid hr
    have hs' := hid hs
    clear hr hs
    go_enter Tryd.func11, Tryd.ntmps11
    go_wp2_with fail
    go_loopw [7] (fun u wr => ∃ i : Nat, u = .int .i64 i ∧ i ≤ l.length ∧ Below w.heap.size w wr ∧ (l.take i).all Ru.may = true) (fun u _ => l.length - (intOf u).toNat)
    case atStart => exact ⟨0, rfl, Nat.zero_le _, Below.refl _ _, rfl⟩
    case round =>
      obtain ⟨i, rfl, hle, hQ, hall⟩ := hrel
      have hQ' := hid hQ
      have hall' := hid hall
      clear hQ hall
      by_cases hlt : i < l.length
      · obtain ⟨x, hs⟩ := hr'.out.at hQ'.out hlt
        have hx' := hid hs
        have hyes := hid (fun h => all_take hlt hall'.out h)
        have hno := hid (fun h => all_no (p := Ru.may) hlt h)
        have hsm := hs'.out _ (List.getElem_mem hlt)
        have hb := hid (may_any l[i] x (wr.alloc (.cells (declCells l[i] x) 44)) hsm.name hsm.role hsm.label hsm.place (hs.box.ext (balloc wr (.cells (declCells l[i] x) 44))) (by have := hsm.boxes; omega))
        clear hs hsm
        generalize l[i] = d at *
        go_wp2_with (first | (refine wpList_load_at rfl 44 (.tmp 9) rfl 10 rfl g (off + i * 24) (declCells d x) (hx'.out.at_) rfl Tryd.underlying44 rfl (by kernel_rfl) ?_) | (refine wpList_store_new rfl 44 (.tmp 4) (.tmp 10) rfl rfl wr 44 _ (declCells d x) rfl rfl rfl (by kernel_rfl) rfl (hx'.out.one) ?_) | (refine wpList_load_blk rfl 44 (.tmp 4) rfl 11 rfl wr.heap.size 44 (declCells d x) (Blk.new wr _ _) rfl Tryd.underlying44 rfl (by kernel_rfl) ?_))
        refine hb.out.mono ?_
        rintro e w1 ⟨rfl, hb1⟩
        have Q1 := hid (bthen hQ'.out (bthen (balloc wr _) hb1))
        generalize Ru.may d = rr at *
        cases rr with
        | true =>
          have hy := hid (hyes.out rfl)
          go_wp2_with fail
          go_roundw
          case rel => exact ⟨i + 1, by go_num, by omega, Q1.out, hy.out⟩
          case measure => simp [intOf]; omega
        | false =>
          have hy := hid (hno.out rfl)
          go_wp2_with fail
          go_ret
          exact ⟨ret_bool hy.out.symm, Q1.out⟩
      · obtain rfl : i = l.length := by omega
        have hf := hid (show l.all Ru.may = true by have h := hall'.out; rwa [List.take_of_length_le (Nat.le_refl _)] at h)
        go_wp2_with fail
        go_ret
        exact ⟨ret_bool hf.out.symm, hQ'.out⟩

end Go.Proofs.YtnoieobjfihbeaaDoor
