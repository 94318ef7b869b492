/-
  The walks of rules: Right, For, has, Zoom, Cloaks.
  The walks of rules: has, Zoom, Cloaks.
  The patches (chapter 14) as plain Lean: edges, runs of a row, bands, patches; the zoom of a point and of a rectangle by them. No program, no memory.
-/
import Derived.Test.YteddkgpnklfppaaGreatDoorPk06
import Derived.Test.YteddkgpnklfppaaGreatDoorPk05
import Derived.Lib.SlicesCompact

namespace Go.Proofs.YteddkgpnklfppaaGreatDoor
open Go.RowKit Go.Sort

/-- a row of rules in memory -/
structure RRow (w : World) (g off cap : Nat) (rs : List Ru.Rule) : Prop where
  cap : rs.length ≤ cap
  lt : g < w.heap.size
  get : ∀ (i : Nat) (hi : i < rs.length), ∃ x, w.rangeAt g (off + i * 7) (ruleArr rs[i] x).toList ∧ BRow w x rs[i].boxes ∧ rs[i].boxes.length ≤ 140737488355328
theorem RRow.ext {w w' : World} {g off cap : Nat} {rs : List Ru.Rule} (h : RRow w g off cap rs) (hb : Below w.heap.size w w') : RRow w' g off cap rs :=
  ⟨h.cap, Nat.lt_of_lt_of_le h.lt hb.size, fun i hi => by
    obtain ⟨x, h1, h2, h3⟩ := h.get i hi
    exact ⟨x, fun j u hu => (hb.cell (p := ⟨g, off + i * 7 + j, none⟩) h.lt).trans (h1 j u hu), h2.ext hb, h3⟩⟩
/-- a slice that reads as rules -/
def RSl (w : World) (v : Value) (rs : List Ru.Rule) : Prop := (v = .slice none 0 0 ∧ rs = []) ∨ ∃ g off cap, v = .slice (some ⟨g, off, none⟩) rs.length cap ∧ RRow w g off cap rs
theorem RSl.ext {w w' : World} {v : Value} {rs : List Ru.Rule} (h : RSl w v rs) (hb : Below w.heap.size w w') : RSl w' v rs := h.imp id fun ⟨g, off, cap, hv, hr⟩ => ⟨g, off, cap, hv, hr.ext hb⟩
theorem ruleArr_one (r : Ru.Rule) {v : Value} (hv : v.oneCell' = true) : (ruleArr r v).all (·.oneCell') = true := by
  unfold ruleArr
  rw [← Array.all_toList]
  simp only [List.all_cons, List.all_nil, hv]
  rfl
theorem row_one {w : World} {v : Value} {n size : Nat} {xs : List Value} (h : Row w v n size xs) : v.oneCell' = true := by
  obtain ⟨p, c, rfl⟩ := row_shape h; rfl
/-- what the walk wants of rule number i -/
structure RAt (w : World) (g o : Nat) (r : Ru.Rule) (x : Value) : Prop where
  at_ : w.rangeAt g o (ruleArr r x).toList
  box : BRow w x r.boxes
  few : r.boxes.length ≤ 140737488355328
  one : (ruleArr r x).all (·.oneCell') = true
theorem RRow.at {w w' : World} {g off cap : Nat} {rs : List Ru.Rule} (h : RRow w g off cap rs) (hb : Below w.heap.size w w') {i : Nat} (hi : i < rs.length) : ∃ x, RAt w' g (off + i * 7) rs[i] x := by
  obtain ⟨x, h1, h2, h3⟩ := (h.ext hb).get i hi
  exact ⟨x, h1, h2, h3, ruleArr_one _ h2.one⟩

set_option maxHeartbeats 1000000 in
theorem rright_any {w : World} {v : Value} {l : List Ru.Rule} (h : RSl w v l) (hn : l.length ≤ 140737488355328) :
    Calls Tryz.prog 16 #[v] w fun e w' => e = .returned (.bool (Ru.rulesR l)) ∧ Below w.heap.size w w' := by
  rcases h with ⟨rfl, rfl⟩ | ⟨g, off, cap, rfl, hr⟩
  · go_enter Tryz.func16, Tryz.ntmps16
    go_wp2_with fail
    go_loop [7] (fun u => u = .int .i64 0) (fun _ => 0)
    case atStart => rfl
    case round =>
      subst hrel
      go_wp2_with fail
      go_ret
      exact ⟨rfl, Below.refl _ _⟩
  · have hr' := hid hr
    clear hr
    go_enter Tryz.func16, Tryz.ntmps16
    go_wp2_with fail
    go_loopw [7] (fun u wr => ∃ i : Nat, u = .int .i64 i ∧ i ≤ l.length ∧ Below w.heap.size w wr ∧ (l.take i).all Ru.ruleR = true) (fun u _ => l.length - (intOf u).toNat)
    case atStart => exact ⟨0, rfl, Nat.zero_le _, Below.refl _ _, rfl⟩
    case round =>
      obtain ⟨i, rfl, hle, hQ, hall⟩ := hrel
      have hQ' := hid hQ
      have hall' := hid hall
      clear hQ hall
      by_cases hlt : i < l.length
      · obtain ⟨x, hs⟩ := hr'.out.at hQ'.out hlt
        have hs' := hid hs
        have hyes := hid (fun h => all_take hlt hall'.out h)
        have hno := hid (fun h => all_no (p := Ru.ruleR) hlt h)
        have hb := hid (right_any l[i] (hs.box.ext (balloc wr (.cells (ruleArr l[i] x) 56))) hs.few)
        clear hs
        generalize l[i] = r at *
        go_wp2_with (first | (refine wpList_load_at rfl 56 (.tmp 9) rfl 10 rfl g (off + i * 7) (ruleArr r x) (hs'.out.at_) rfl Tryz.underlying56 rfl (by kernel_rfl) ?_) | (refine wpList_store_new rfl 56 (.tmp 4) (.tmp 10) rfl rfl wr 56 _ (ruleArr r x) rfl rfl rfl (by kernel_rfl) rfl (hs'.out.one) ?_) | (refine wpList_load_blk rfl 56 (.tmp 4) rfl 11 rfl wr.heap.size 56 (ruleArr r x) (Blk.new wr _ _) rfl Tryz.underlying56 rfl (by kernel_rfl) ?_))
        refine hb.out.mono ?_
        rintro e w1 ⟨rfl, hb1⟩
        have Q1 := hid (bthen hQ'.out (bthen (balloc wr _) hb1))
        generalize Ru.ruleR r = rr at *
        cases rr with
        | true =>
          have hy := hid (hyes.out rfl)
          go_wp2_with fail
          go_roundw
          case rel => exact ⟨i + 1, by go_num, by omega, Q1.out, hy.out⟩
          case measure => simp [intOf]; omega
        | false =>
          have hy := hid (hno.out rfl)
          go_wp2_with fail
          go_ret
          exact ⟨ret_bool hy.out.symm, Q1.out⟩
      · obtain rfl : i = l.length := by omega
        have hf := hid (show Ru.rulesR l = true by have h := hall'.out; rw [List.take_of_length_le (Nat.le_refl _)] at h; exact h)
        go_wp2_with fail
        go_ret
        exact ⟨ret_bool hf.out.symm, hQ'.out⟩

theorem ruleR_bounds {r : Ru.Rule} (h : Ru.ruleR r = true) : 0 ≤ r.roles ∧ r.roles ≤ 255 ∧ (r.kind ≠ 6 → 0 ≤ r.labels ∧ r.labels ≤ 255) := by
  have hk := Ru.ruleR_kind h
  unfold Ru.ruleR Ru.small at h
  by_cases h6 : r.kind = 6
  · rw [if_pos h6] at h
    simp only [Bool.and_eq_true, decide_eq_true_eq] at h
    exact ⟨h.1.1.1.1.1.1, h.1.1.1.1.1.2, fun h7 => absurd h6 h7⟩
  · rw [if_neg h6, if_pos (by omega)] at h
    simp only [Bool.and_eq_true, decide_eq_true_eq] at h
    exact ⟨h.1.1.1.1.1.1.1, h.1.1.1.1.1.1.2, fun _ => ⟨h.1.1.2.1, h.1.1.2.2⟩⟩
theorem small_iff {n m : Int} : Ru.small n m = true ↔ 0 ≤ n ∧ n ≤ m := by unfold Ru.small; simp
theorem numbers3_iff {a b c : Int} : Ru.numbers3 a b c = true ↔ (0 ≤ a ∧ a ≤ 7) ∧ (0 ≤ b ∧ b ≤ 7) ∧ (0 ≤ c ∧ c ≤ 7) := by
  unfold Ru.numbers3; simp only [Bool.and_eq_true, small_iff]; exact ⟨fun h => ⟨h.1.1, h.1.2, h.2⟩, fun h => ⟨⟨h.1, h.2.1⟩, h.2.2⟩⟩

set_option maxHeartbeats 2000000 in
theorem for_any {w : World} {v : Value} (r : Ru.Rule) (role tier label : Int) (h : BRow w v r.boxes) (hn : r.boxes.length ≤ 140737488355328) :
    Calls Tryz.prog 21 #[.agg (ruleArr r v), .int .i64 role, .int .i64 tier, .int .i64 label] w fun e w' => e = .returned (.bool (Ru.forR r role tier label)) ∧ Below w.heap.size w w' := by
  have hz := balloc w (.cells (ruleArr r v) 56)
  have Q0 := hid hz
  have hrt := hid (right_any r (h.ext hz) hn)
  have B0 := hid (Blk.new w (ruleArr r v) 56)
  clear hz h
  have hbox : Hid (Sem.run Tryz.prog (Instr.box 56 (.agg (ruleArr r v))) w = .ok (.pointer (some ⟨w.heap.size, 0, none⟩)) (w.alloc (.cells (ruleArr r v) 56))) := hid (by unfold ruleArr; kernel_rfl)
  cases h1 : Ru.ruleR r with
  | false =>
    have e := hid (show Ru.forR r role tier label = false by unfold Ru.forR; rw [h1]; rfl)
    rw [h1] at hrt
    clear h1
    unfold ruleArr at *
    go_enter Tryz.func21, Tryz.ntmps21
    go_wp2_with fail
    refine hrt.out.mono ?_
    rintro en w1 ⟨rfl, hb1⟩
    go_wp2_with fail
    go_ret
    exact ⟨ret_bool e.out.symm, bthen Q0.out hb1⟩
  | true =>
    obtain ⟨b1, b2, b3⟩ := ruleR_bounds h1
    have e0 := hid h1
    rw [h1] at hrt
    clear h1
    unfold ruleArr at *
    go_enter Tryz.func21, Tryz.ntmps21
    go_wp2_with fail
    refine hrt.out.mono ?_
    rintro en w1 ⟨rfl, hb1⟩
    obtain ⟨x0, x1, x2, x3, x4, x5, x6, xf, xz⟩ := (B0.out.ext hb1).seven
    have Q1 := hid (bthen Q0.out hb1)
    clear hb1
    by_cases h6 : r.kind = 6
    · have k6 : (r.kind != 6) = false := by rw [h6]; rfl
      have e := hid (show Ru.forR r role tier label = false by unfold Ru.forR; rw [k6]; simp)
      clear h6
      go_wp2_with fail
      go_ret
      exact ⟨ret_bool e.out.symm, Q1.out⟩
    · have k6 : (r.kind != 6) = true := by rw [bne_iff_ne]; exact h6
      obtain ⟨b4, b5⟩ := b3 h6
      cases h3 : Ru.numbers3 role tier label with
      | false =>
        have e := hid (show Ru.forR r role tier label = false by unfold Ru.forR; rw [h3]; simp)
        have h3' := hid h3
        clear h6 h3
        go_wp2_with fail
        refine (numbers3_any _ _ _ _).mono ?_
        rintro en w2 ⟨rfl, rfl⟩
        rw [h3'.out]
        go_wp2_with fail
        go_ret
        exact ⟨ret_bool e.out.symm, Q1.out⟩
      | true =>
        obtain ⟨⟨n1, n2⟩, ⟨n3, n4⟩, ⟨n5, n6⟩⟩ := numbers3_iff.1 h3
        have e := hid (show Ru.forR r role tier label = (Ru.inSum r.roles role && decide (r.lo ≤ tier) && decide (tier ≤ r.hi) && Ru.inSum r.labels label) by unfold Ru.forR; rw [e0.out, k6, h3]; simp only [Bool.true_and])
        have h3' := hid h3
        clear h6 h3
        go_wp2_with fail
        refine (numbers3_any _ _ _ _).mono ?_
        rintro en w2 ⟨rfl, rfl⟩
        rw [h3'.out]
        go_wp2_with fail
        refine (in_any _ _ _ b1 b2 n1 n2).mono ?_
        rintro en w2 ⟨rfl, rfl⟩
        cases hi : Ru.inSum r.roles role with
        | false =>
          rw [hi] at e
          clear hi
          go_wp2_with fail
          go_ret
          exact ⟨ret_bool e.out.symm, Q1.out⟩
        | true =>
          rw [hi] at e
          clear hi
          by_cases t1 : r.lo ≤ tier
          · have t1' : decide (r.lo ≤ tier) = true := by simpa using t1
            rw [t1'] at e
            by_cases t2 : tier ≤ r.hi
            · have t2' : decide (tier ≤ r.hi) = true := by simpa using t2
              rw [t2'] at e
              go_wp2_with fail
              refine (in_any _ _ _ b4 b5 n5 n6).mono ?_
              rintro en w2 ⟨rfl, rfl⟩
              go_wp2_with fail
              go_ret
              exact ⟨ret_bool (by rw [e.out]; rfl), Q1.out⟩
            · have t2' : decide (tier ≤ r.hi) = false := by simpa using t2
              rw [t2'] at e
              go_wp2_with fail
              go_ret
              exact ⟨ret_bool (by rw [e.out]; rfl), Q1.out⟩
          · have t1' : decide (r.lo ≤ tier) = false := by simpa using t1
            rw [t1'] at e
            go_wp2_with fail
            go_ret
            exact ⟨ret_bool (by rw [e.out]; rfl), Q1.out⟩

end Go.Proofs.YteddkgpnklfppaaGreatDoor

namespace Go.Proofs.YteddkgpnklfppaaGreatDoor
open Go.RowKit Go.Sort

set_option maxHeartbeats 1000000 in
theorem rhas_any {w : World} {v : Value} {l : List Po.Box} (x y : Int) (h : BRow w v l) (hn : l.length ≤ 140737488355328) :
    Calls Tryz.prog 22 #[v, ptV x y] w fun e w' => e = .returned (.bool (Ru.hasB l x y)) ∧ Below w.heap.size w w' := by
  have hz := balloc w (.cells #[.int .i64 x, .int .i64 y] 25)
  have Q0 := hid hz
  have P0 := hid (Blk.new w #[.int .i64 x, .int .i64 y] 25)
  rcases brow_of (h.ext hz) with ⟨p0, c0, rfl, rfl⟩ | ⟨g, off, cap, rfl, hr⟩
  · clear h hz
    unfold ptV
    go_enter Tryz.func22, Tryz.ntmps22
    go_wp2_with fail
    go_loop [9] (fun u => u = .int .i64 0) (fun _ => 0)
    case atStart => rfl
    case round =>
      subst hrel
      go_wp2_with fail
      go_ret
      exact ⟨rfl, Q0.out⟩
  · have hr' := hid hr
    clear h hr hz
    unfold ptV
    go_enter Tryz.func22, Tryz.ntmps22
    go_wp2_with fail
    go_loopw [9] (fun u wr => ∃ i : Nat, u = .int .i64 i ∧ i ≤ l.length ∧ Below (w.heap.size + 1) (w.alloc (.cells #[.int .i64 x, .int .i64 y] 25)) wr ∧ (l.take i).any (fun b => Ru.boxHas b x y) = false) (fun u _ => l.length - (intOf u).toNat)
    case atStart => exact ⟨0, rfl, Nat.zero_le _, Below.refl _ _, rfl⟩
    case round =>
      obtain ⟨i, rfl, hle, hQ, hall⟩ := hrel
      have hQa : Below (w.alloc (.cells #[.int .i64 x, .int .i64 y] 25)).heap.size (w.alloc (.cells #[.int .i64 x, .int .i64 y] 25)) wr := by rw [World.size_alloc]; exact hQ
      have hQ' := hid hQa
      have hall' := hid hall
      have P1 := hid (P0.out.ext hQa)
      have Qw := hid (bthen Q0.out hQa)
      clear hQ hall hQa
      by_cases hlt : i < l.length
      · have hs := hid ((hr'.out.ext hQ'.out).get i hlt)
        have hyes := hid (fun h => any_yes (p := fun b => Ru.boxHas b x y) hlt h)
        have hno := hid (fun h => any_take hlt hall'.out h)
        have hb : Hid (∀ w, Calls Tryz.prog 9 #[.agg (boxArr l[i]), .agg #[.int .i64 x, .int .i64 y]] w fun e w' => e = .returned (.bool (Ru.boxHas l[i] x y)) ∧ Below w.heap.size w w') := hid (has_any l[i] x y)
        generalize l[i] = b at *
        have P2 := hid (P1.out.alloc (.cells (boxArr b) 27))
        have hne : w.heap.size ≠ wr.heap.size := by have := P1.out.lt; omega
        go_wp2_with (first | (refine wpList_load_at rfl 27 (.tmp 11) rfl 12 rfl g (off + i * 4) (boxArr b) (hs.out) rfl Tryz.underlying27 rfl (by kernel_rfl) ?_) | (refine wpList_store_new rfl 27 (.tmp 6) (.tmp 12) rfl rfl wr 27 _ (boxArr b) rfl rfl rfl (by kernel_rfl) rfl (boxArr_one b) ?_) | (refine wpList_load_blk rfl 27 (.tmp 6) rfl 13 rfl wr.heap.size 27 (boxArr b) (Blk.new wr _ _) rfl Tryz.underlying27 rfl (by kernel_rfl) ?_) | (refine wpList_load_blk rfl 25 (.tmp 3) rfl 14 rfl w.heap.size 25 (#[.int .i64 x, .int .i64 y]) (P2.out) rfl Tryz.underlying25 rfl (by kernel_rfl) ?_))
        refine (hb.out _).mono ?_
        rintro e w1 ⟨rfl, hb1⟩
        have Q1 := hid (bthen hQ'.out (bthen (balloc wr _) hb1))
        have Q2 := hid (bthen Qw.out (bthen (balloc wr _) hb1))
        simp only [World.size_alloc] at Q1
        generalize Ru.boxHas b x y = r at *
        cases r with
        | false =>
          have hy := hid (hno.out rfl)
          go_wp2_with fail
          go_roundw
          case rel => exact ⟨i + 1, by go_num, by omega, Q1.out, hy.out⟩
          case measure => simp [intOf]; omega
        | true =>
          have hy := hid (hyes.out rfl)
          go_wp2_with fail
          go_ret
          exact ⟨ret_bool hy.out.symm, Q2.out⟩
      · obtain rfl : i = l.length := by omega
        have hf := hid (show Ru.hasB l x y = false by have h := hall'.out; rw [List.take_of_length_le (Nat.le_refl _)] at h; exact h)
        go_wp2_with fail
        go_ret
        exact ⟨ret_bool hf.out.symm, Qw.out⟩

theorem foldl_take {α β : Type} {f : β → α → β} {l : List α} {i : Nat} {b c : β} (hi : i < l.length) (h : (l.take i).foldl f b = c) : (l.take (i + 1)).foldl f b = f c l[i] := by
  rw [List.take_succ_eq_append_getElem hi, List.foldl_append, h]; rfl
theorem zoom_yes {r : Ru.Rule} {role tier label x y : Int} {p : Int × Int} (h : Ru.forR r role tier label = true) (h2 : Ru.hasB r.boxes x y = true) : Ru.zoomStep role tier label x y p r = if r.kind = 4 then (max p.1 r.zoom, p.2) else (p.1, min p.2 r.zoom) := by
  unfold Ru.zoomStep; rw [h, h2]; rfl
theorem zoom_no {r : Ru.Rule} {role tier label x y : Int} {p : Int × Int} (h : Ru.forR r role tier label = false ∨ Ru.hasB r.boxes x y = false) : Ru.zoomStep role tier label x y p r = p := by
  unfold Ru.zoomStep
  rw [if_neg]
  rcases h with h | h <;> simp [h]

set_option maxRecDepth 100000 in
set_option maxHeartbeats 2000000 in
theorem zoom_any {w : World} {v : Value} {l : List Ru.Rule} (role tier label x y : Int) (h : RSl w v l) (hn : l.length ≤ 140737488355328) :
    Calls Tryz.prog 8 #[v, .int .i64 role, .int .i64 tier, .int .i64 label, ptV x y] w fun e w' => e = .returned (.int .i64 (Ru.zoomV l role tier label x y)) ∧ Below w.heap.size w w' := by
  have hz := balloc w (.cells #[.int .i64 x, .int .i64 y] 25)
  have Q0 := hid hz
  have P0 := hid (Blk.new w #[.int .i64 x, .int .i64 y] 25)
  have h0 := hid (h.ext hz)
  have hrt := hid (rright_any (h.ext hz) hn)
  clear h hz
  cases hrr : Ru.rulesR l with
  | false =>
    have e := hid (show Ru.zoomV l role tier label x y = 0 by unfold Ru.zoomV; rw [hrr]; rfl)
    rw [hrr] at hrt
    clear hrr
    unfold ptV
    go_enter Tryz.func8, Tryz.ntmps8
    go_wp2_with fail
    refine hrt.out.mono ?_
    rintro en w1 ⟨rfl, hb1⟩
    go_wp2_with fail
    go_ret
    exact ⟨ret_int e.out.symm, bthen Q0.out hb1⟩
  | true =>
    have e := hid (show Ru.zoomV l role tier label x y = min (l.foldl (Ru.zoomStep role tier label x y) (0, 16)).1 (l.foldl (Ru.zoomStep role tier label x y) (0, 16)).2 by unfold Ru.zoomV; rw [hrr]; rfl)
    rw [hrr] at hrt
    clear hrr
    unfold ptV
    rcases h0.out with ⟨rfl, rfl⟩ | ⟨g, off, cap, rfl, hr⟩
    · go_enter Tryz.func8, Tryz.ntmps8
      go_wp2_with fail
      refine hrt.out.mono ?_
      rintro en w1 ⟨rfl, hb1⟩
      go_wp2_with fail
      go_loop [11, 12, 20] (fun a c u => a = .int .i64 0 ∧ c = .int .i64 16 ∧ u = .int .i64 0) (fun _ _ _ => 0)
      case atStart => exact ⟨rfl, rfl, rfl⟩
      case round =>
        obtain ⟨rfl, rfl, rfl⟩ := hrel
        go_wp2_with fail
        go_ret
        exact ⟨ret_int e.out.symm, bthen Q0.out hb1⟩
    · have hr' := hid hr
      clear hr h0
      go_enter Tryz.func8, Tryz.ntmps8
      go_wp2_with fail
      refine hrt.out.mono ?_
      rintro en w1 ⟨rfl, hb1⟩
      have Q1 := hid (bthen Q0.out hb1)
      have P1 := hid (P0.out.ext hb1)
      have R1 := hid (hr'.out.ext hb1)
      have hs1 := P1.out.lt
      clear hb1 hr'
      go_wp2_with fail
      go_loopw [11, 12, 20] (fun a c u wr => ∃ (i : Nat) (m k : Int), a = .int .i64 m ∧ c = .int .i64 k ∧ u = .int .i64 i ∧ i ≤ l.length ∧ Below w1.heap.size w1 wr ∧ (l.take i).foldl (Ru.zoomStep role tier label x y) (0, 16) = (m, k)) (fun _ _ u _ => l.length - (intOf u).toNat)
      case atStart => exact ⟨0, 0, 16, rfl, rfl, rfl, Nat.zero_le _, Below.refl _ _, rfl⟩
      case round =>
        obtain ⟨i, m, k, rfl, rfl, rfl, hle, hQ, hall⟩ := hrel
        have hQ' := hid hQ
        have hall' := hid hall
        have P2 := hid (P1.out.ext hQ)
        have Qw := hid (bthen Q1.out hQ)
        clear hQ hall
        by_cases hlt : i < l.length
        · obtain ⟨z, hs⟩ := R1.out.at hQ'.out hlt
          have hs' := hid hs
          have hfold := hid (foldl_take hlt hall'.out)
          have P3 := hid (P2.out.alloc (.cells (ruleArr l[i] z) 56))
          have B3 := hid (Blk.new wr (ruleArr l[i] z) 56)
          have hx3 := hid (hs.box.ext (balloc wr (.cells (ruleArr l[i] z) 56)))
          have hb := hid (for_any l[i] role tier label (hs.box.ext (balloc wr (.cells (ruleArr l[i] z) 56))) hs.few)
          have hfew := hid hs.few
          clear hs
          generalize l[i] = r at *
          have hne : w.heap.size ≠ wr.heap.size := by have := P2.out.lt; omega
          go_wp2_with (first | (refine wpList_load_at rfl 56 (.tmp 22) rfl 23 rfl g (off + i * 7) (ruleArr r z) (hs'.out.at_) rfl Tryz.underlying56 rfl (by kernel_rfl) ?_) | (refine wpList_store_new rfl 56 (.tmp 14) (.tmp 23) rfl rfl wr 56 _ (ruleArr r z) rfl rfl rfl (by kernel_rfl) rfl (hs'.out.one) ?_) | (refine wpList_load_blk rfl 56 (.tmp 14) rfl 24 rfl wr.heap.size 56 (ruleArr r z) (Blk.new wr _ _) rfl Tryz.underlying56 rfl (by kernel_rfl) ?_))
          refine hb.out.mono ?_
          rintro e w2 ⟨rfl, hb2⟩
          have Q2 := hid (bthen hQ'.out (bthen (balloc wr _) hb2))
          cases hf : Ru.forR r role tier label with
          | false =>
            have hst := hid (zoom_no (x := x) (y := y) (p := (m, k)) (.inl hf))
            rw [hst.out] at hfold
            clear hf
            go_wp2_with fail
            go_roundw
            case rel => exact ⟨i + 1, m, k, rfl, rfl, by go_num, by omega, Q2.out, hfold.out⟩
            case measure => simp [intOf]; omega
          | true =>
            have hyes := hid (fun h => zoom_yes (x := x) (y := y) (p := (m, k)) hf h)
            have hno := hid (fun h => zoom_no (x := x) (y := y) (p := (m, k)) (r := r) (role := role) (tier := tier) (label := label) (.inr h))
            have P4 := hid (P3.out.ext hb2)
            have hx4 := hid (hx3.out.ext hb2)
            obtain ⟨x0, x1, x2, x3, x4, x5, x6, xf, xz⟩ := (show Blk w2 wr.heap.size (ruleArr r z) 56 from B3.out.ext hb2).seven
            have hh := hid (rhas_any x y hx4.out hfew.out)
            have hz5 := hid hx4.out.shape
            obtain ⟨p0, p1, pf, pz⟩ := P4.out.two
            obtain ⟨zp, zc, rfl⟩ := hz5.out
            clear hf
            go_wp2_with fail
            refine hh.out.mono ?_
            rintro e w3 ⟨rfl, hb3⟩
            have Q3 := hid (bthen Q2.out hb3)
            clear x0 x1 x2 x3 x4 x5 x6 xf xz p0 p1 pf pz
            cases hh5 : Ru.hasB r.boxes x y with
            | false =>
              have hst := hid (hno.out hh5)
              rw [hst.out] at hfold
              clear hh5
              go_wp2_with fail
              go_roundw
              case rel => exact ⟨i + 1, m, k, rfl, rfl, by go_num, by omega, Q3.out, hfold.out⟩
              case measure => simp [intOf]; omega
            | true =>
              have hst := hid (hyes.out hh5)
              rw [hst.out] at hfold
              obtain ⟨x0, x1, x2, x3, x4, x5, x6, xf, xz⟩ := (show Blk w3 wr.heap.size (ruleArr r (.slice zp r.boxes.length zc)) 56 from (B3.out.ext hb2).ext hb3).seven
              clear hh5
              by_cases h4 : r.kind = 4
              · rw [if_pos h4] at hfold
                have k4 : (r.kind == 4) = true := beq_iff_eq.2 h4
                clear h4
                go_wp2_with fail
                all_goals
                  go_roundw
                  case rel => exact ⟨i + 1, _, k, rfl, rfl, by go_num, by omega, Q3.out, by rw [hfold.out]; first | done | (ext <;> simp only <;> omega)⟩
                  case measure => simp [intOf]; omega
              · rw [if_neg h4] at hfold
                have k4 : (r.kind == 4) = false := beq_eq_false_iff_ne.2 h4
                clear h4
                go_wp2_with fail
                all_goals
                  go_roundw
                  case rel => exact ⟨i + 1, m, _, rfl, rfl, by go_num, by omega, Q3.out, by rw [hfold.out]; first | done | (ext <;> simp only <;> omega)⟩
                  case measure => simp [intOf]; omega
        · obtain rfl : i = l.length := by omega
          have hf := hid (show min m k = Ru.zoomV l role tier label x y by
            have h := hall'.out
            rw [List.take_of_length_le (Nat.le_refl _)] at h
            rw [e.out, h])
          go_wp2_with fail
          all_goals
            go_ret
            exact ⟨ret_int (by rw [← hf.out]; first | done | omega), Qw.out⟩

end Go.Proofs.YteddkgpnklfppaaGreatDoor

namespace Go.Proofs.YteddkgpnklfppaaGreatDoor.Gr
open Po (Box)
open Ru (Rule)

structure Span where
  s0 : Int
  s1 : Int
  z : Int
  deriving DecidableEq
structure Patch where
  box : Box
  z : Int

/-- the rules that are for someone -/
def mine (l : List Rule) (role tier label : Int) : List Rule := l.filter fun r => Ru.forR r role tier label
def zStep (x y : Int) (p : Int × Int) (r : Rule) : Int × Int :=
  if Ru.hasB r.boxes x y then (if r.kind = 4 then (max p.1 r.zoom, p.2) else (p.1, min p.2 r.zoom)) else p
/-- the zoom of a point, of rules that are for someone -/
def zoomG (l : List Rule) (x y : Int) : Int := min (l.foldl (zStep x y) (0, 16)).1 (l.foldl (zStep x y) (0, 16)).2

/-- the numbers at which something may change: as they come; rising, each once -/
def rawE (of : Box → Int × Int) (l : List Rule) : List Int := l.flatMap fun r => r.boxes.flatMap fun b => [(of b).1, (of b).2 + 1]
def edges (of : Box → Int × Int) (l : List Rule) : List Int := Lib.compact ((rawE of l).mergeSort fun x y => decide (x ≤ y))
def ofX (b : Box) : Int × Int := (b.x0, b.x1)
def ofY (b : Box) : Int × Int := (b.y0, b.y1)

/-- one more stretch of a row -/
def putS (out : List Span) (a b z : Int) : List Span :=
  if z = 0 then out else
  match out.getLast? with
  | some s => if s.z = z ∧ s.s1 + 1 = a then out.dropLast ++ [⟨s.s0, b - 1, s.z⟩] else out ++ [⟨a, b - 1, z⟩]
  | none => [⟨a, b - 1, z⟩]
/-- the runs of a row's first n stretches -/
def rowN (l : List Rule) (xs : List Int) (y : Int) (n : Nat) : List Span :=
  (List.range n).foldl (fun out i => putS out (xs.getD i 0) (xs.getD (i + 1) 0) (zoomG l (xs.getD i 0) y)) []
def row (l : List Rule) (xs : List Int) (y : Int) : List Span := rowN l xs y (xs.length - 1)

/-- where the band ends that has these runs -/
def bandEnd (l : List Rule) (xs ys : List Int) (now : List Span) (k : Nat) : Nat :=
  if k + 1 < ys.length ∧ now = row l xs (ys.getD k 0) then bandEnd l xs ys now (k + 1) else k
termination_by ys.length - k
def bandP (y0 y1 : Int) (runs : List Span) : List Patch := runs.map fun s => ⟨⟨s.s0, y0, s.s1, y1⟩, s.z⟩
theorem bandEnd_le (l : List Rule) (xs ys : List Int) (now : List Span) (k : Nat) : k ≤ bandEnd l xs ys now k := by
  rw [bandEnd]
  split
  · rename_i h
    have := bandEnd_le l xs ys now (k + 1)
    omega
  · exact Nat.le_refl _
termination_by ys.length - k
def bandsN (l : List Rule) (xs ys : List Int) (i : Nat) : List Patch :=
  if i + 1 < ys.length then
    bandP (ys.getD i 0) (ys.getD (bandEnd l xs ys (row l xs (ys.getD i 0)) (i + 1)) 0 - 1) (row l xs (ys.getD i 0)) ++ bandsN l xs ys (bandEnd l xs ys (row l xs (ys.getD i 0)) (i + 1))
  else []
termination_by ys.length - i
decreasing_by have := bandEnd_le l xs ys (row l xs (ys.getD i 0)) (i + 1); omega
def bands (l : List Rule) : List Patch := bandsN l (edges ofX l) (edges ofY l) 0
/-- the patches for someone -/
def patches (l : List Rule) (role tier label : Int) : List Patch := bands (mine l role tier label)

/-- the zoom of a point by patches -/
def zoomP (ps : List Patch) (x y : Int) : Int := match ps.find? fun q => Ru.boxHas q.box x y with | some q => q.z | none => 0
def meets (a b : Box) : Bool := Ru.boxR a && Ru.boxR b && decide (a.x0 ≤ b.x1) && decide (b.x0 ≤ a.x1) && decide (a.y0 ≤ b.y1) && decide (b.y0 ≤ a.y1)
def meet (a b : Box) : Box := ⟨max a.x0 b.x0, max a.y0 b.y0, min a.x1 b.x1, min a.y1 b.y1⟩
def area (b : Box) : Int := if Ru.boxR b then (b.x1 - b.x0 + 1) * (b.y1 - b.y0 + 1) else 0
/-- what is left of a rectangle, and the least zoom, behind some patches -/
def ofStep (r : Box) (p : Int × Int) (q : Patch) : Int × Int := if meets q.box r then ((p.1 - area (meet q.box r)) % 18446744073709551616, min p.2 q.z) else p
def ofG (ps : List Patch) (r : Box) : Int × Int := ps.foldl (ofStep r) (area r, 16)
/-- the zoom of a rectangle by patches -/
def ofP (ps : List Patch) (r : Box) : Int := if (ofG ps r).1 > 0 then 0 else (ofG ps r).2

end Go.Proofs.YteddkgpnklfppaaGreatDoor.Gr
