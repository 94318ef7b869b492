/-
  The walks of rules: Right, For, has, Zoom, Cloaks.
  The walks of rules: has, Zoom, Cloaks.
  The walks of the document's own rectangles: may one be.
-/
import Derived.Test.YtelphkhacadfaaaGreatPk06

namespace Go.Proofs.YtelphkhacadfaaaGreat
open Go.RowKit Go.Sort

/-- a row of rules in memory -/
structure RRow (w : World) (g off cap : Nat) (rs : List Ru.Rule) : Prop where
  cap : rs.length ≤ cap
  lt : g < w.heap.size
  get : ∀ (i : Nat) (hi : i < rs.length), ∃ x, w.rangeAt g (off + i * 7) (ruleArr rs[i] x).toList ∧ BRow w x rs[i].boxes ∧ rs[i].boxes.length ≤ 140737488355328
theorem RRow.ext {w w' : World} {g off cap : Nat} {rs : List Ru.Rule} (h : RRow w g off cap rs) (hb : Below w.heap.size w w') : RRow w' g off cap rs :=
  ⟨h.cap, Nat.lt_of_lt_of_le h.lt hb.size, fun i hi => by
    obtain ⟨x, h1, h2, h3⟩ := h.get i hi
    exact ⟨x, fun j u hu => (hb.cell (p := ⟨g, off + i * 7 + j, none⟩) h.lt).trans (h1 j u hu), h2.ext hb, h3⟩⟩
/-- a slice that reads as rules -/
def RSl (w : World) (v : Value) (rs : List Ru.Rule) : Prop := (v = .slice none 0 0 ∧ rs = []) ∨ ∃ g off cap, v = .slice (some ⟨g, off, none⟩) rs.length cap ∧ RRow w g off cap rs
theorem RSl.ext {w w' : World} {v : Value} {rs : List Ru.Rule} (h : RSl w v rs) (hb : Below w.heap.size w w') : RSl w' v rs := h.imp id fun ⟨g, off, cap, hv, hr⟩ => ⟨g, off, cap, hv, hr.ext hb⟩
theorem ruleArr_one (r : Ru.Rule) {v : Value} (hv : v.oneCell' = true) : (ruleArr r v).all (·.oneCell') = true := by
  unfold ruleArr
  rw [← Array.all_toList]
  simp only [List.all_cons, List.all_nil, hv]
  rfl
theorem row_one {w : World} {v : Value} {n size : Nat} {xs : List Value} (h : Row w v n size xs) : v.oneCell' = true := by
  obtain ⟨p, c, rfl⟩ := row_shape h; rfl
/-- what the walk wants of rule number i -/
structure RAt (w : World) (g o : Nat) (r : Ru.Rule) (x : Value) : Prop where
  at_ : w.rangeAt g o (ruleArr r x).toList
  box : BRow w x r.boxes
  few : r.boxes.length ≤ 140737488355328
  one : (ruleArr r x).all (·.oneCell') = true
theorem RRow.at {w w' : World} {g off cap : Nat} {rs : List Ru.Rule} (h : RRow w g off cap rs) (hb : Below w.heap.size w w') {i : Nat} (hi : i < rs.length) : ∃ x, RAt w' g (off + i * 7) rs[i] x := by
  obtain ⟨x, h1, h2, h3⟩ := (h.ext hb).get i hi
  exact ⟨x, h1, h2, h3, ruleArr_one _ h2.one⟩

set_option maxHeartbeats 1000000 in
theorem rright_any {w : World} {v : Value} {l : List Ru.Rule} (h : RSl w v l) (hn : l.length ≤ 140737488355328) :
    Calls Tryz.prog 9 #[v] w fun e w' => e = .returned (.bool (Ru.rulesR l)) ∧ Below w.heap.size w w' := by
  rcases h with ⟨rfl, rfl⟩ | ⟨g, off, cap, rfl, hr⟩
  · go_enter Tryz.func9, Tryz.ntmps9
    go_wp2_with fail
    go_loop [7] (fun u => u = .int .i64 0) (fun _ => 0)
    case atStart => rfl
    case round =>
      subst hrel
      go_wp2_with fail
      go_ret
      exact ⟨rfl, Below.refl _ _⟩
  · have hr' := hid hr
    clear hr
    go_enter Tryz.func9, Tryz.ntmps9
    go_wp2_with fail
    go_loopw [7] (fun u wr => ∃ i : Nat, u = .int .i64 i ∧ i ≤ l.length ∧ Below w.heap.size w wr ∧ (l.take i).all Ru.ruleR = true) (fun u _ => l.length - (intOf u).toNat)
    case atStart => exact ⟨0, rfl, Nat.zero_le _, Below.refl _ _, rfl⟩
    case round =>
      obtain ⟨i, rfl, hle, hQ, hall⟩ := hrel
      have hQ' := hid hQ
      have hall' := hid hall
      clear hQ hall
      by_cases hlt : i < l.length
      · obtain ⟨x, hs⟩ := hr'.out.at hQ'.out hlt
        have hs' := hid hs
        have hyes := hid (fun h => all_take hlt hall'.out h)
        have hno := hid (fun h => all_no (p := Ru.ruleR) hlt h)
        have hb := hid (right_any l[i] (hs.box.ext (balloc wr (.cells (ruleArr l[i] x) 52))) hs.few)
        clear hs
        generalize l[i] = r at *
        go_wp2_with (first | (refine wpList_load_at rfl 52 (.tmp 9) rfl 10 rfl g (off + i * 7) (ruleArr r x) (hs'.out.at_) rfl Tryz.underlying52 rfl (by kernel_rfl) ?_) | (refine wpList_store_new rfl 52 (.tmp 4) (.tmp 10) rfl rfl wr 52 _ (ruleArr r x) rfl rfl rfl (by kernel_rfl) rfl (hs'.out.one) ?_) | (refine wpList_load_blk rfl 52 (.tmp 4) rfl 11 rfl wr.heap.size 52 (ruleArr r x) (Blk.new wr _ _) rfl Tryz.underlying52 rfl (by kernel_rfl) ?_))
        refine hb.out.mono ?_
        rintro e w1 ⟨rfl, hb1⟩
        have Q1 := hid (bthen hQ'.out (bthen (balloc wr _) hb1))
        generalize Ru.ruleR r = rr at *
        cases rr with
        | true =>
          have hy := hid (hyes.out rfl)
          go_wp2_with fail
          go_roundw
          case rel => exact ⟨i + 1, by go_num, by omega, Q1.out, hy.out⟩
          case measure => simp [intOf]; omega
        | false =>
          have hy := hid (hno.out rfl)
          go_wp2_with fail
          go_ret
          exact ⟨ret_bool hy.out.symm, Q1.out⟩
      · obtain rfl : i = l.length := by omega
        have hf := hid (show Ru.rulesR l = true by have h := hall'.out; rw [List.take_of_length_le (Nat.le_refl _)] at h; exact h)
        go_wp2_with fail
        go_ret
        exact ⟨ret_bool hf.out.symm, hQ'.out⟩

theorem ruleR_bounds {r : Ru.Rule} (h : Ru.ruleR r = true) : 0 ≤ r.roles ∧ r.roles ≤ 255 ∧ (r.kind ≠ 6 → 0 ≤ r.labels ∧ r.labels ≤ 255) := by
  have hk := Ru.ruleR_kind h
  unfold Ru.ruleR Ru.small at h
  by_cases h6 : r.kind = 6
  · rw [if_pos h6] at h
    simp only [Bool.and_eq_true, decide_eq_true_eq] at h
    exact ⟨h.1.1.1.1.1.1, h.1.1.1.1.1.2, fun h7 => absurd h6 h7⟩
  · rw [if_neg h6, if_pos (by omega)] at h
    simp only [Bool.and_eq_true, decide_eq_true_eq] at h
    exact ⟨h.1.1.1.1.1.1.1, h.1.1.1.1.1.1.2, fun _ => ⟨h.1.1.2.1, h.1.1.2.2⟩⟩
theorem small_iff {n m : Int} : Ru.small n m = true ↔ 0 ≤ n ∧ n ≤ m := by unfold Ru.small; simp
theorem numbers3_iff {a b c : Int} : Ru.numbers3 a b c = true ↔ (0 ≤ a ∧ a ≤ 7) ∧ (0 ≤ b ∧ b ≤ 7) ∧ (0 ≤ c ∧ c ≤ 7) := by
  unfold Ru.numbers3; simp only [Bool.and_eq_true, small_iff]; exact ⟨fun h => ⟨h.1.1, h.1.2, h.2⟩, fun h => ⟨⟨h.1, h.2.1⟩, h.2.2⟩⟩

set_option maxHeartbeats 2000000 in
theorem for_any {w : World} {v : Value} (r : Ru.Rule) (role tier label : Int) (h : BRow w v r.boxes) (hn : r.boxes.length ≤ 140737488355328) :
    Calls Tryz.prog 39 #[.agg (ruleArr r v), .int .i64 role, .int .i64 tier, .int .i64 label] w fun e w' => e = .returned (.bool (Ru.forR r role tier label)) ∧ Below w.heap.size w w' := by
  have hz := balloc w (.cells (ruleArr r v) 52)
  have Q0 := hid hz
  have hrt := hid (right_any r (h.ext hz) hn)
  have B0 := hid (Blk.new w (ruleArr r v) 52)
  clear hz h
  have hbox : Hid (Sem.run Tryz.prog (Instr.box 52 (.agg (ruleArr r v))) w = .ok (.pointer (some ⟨w.heap.size, 0, none⟩)) (w.alloc (.cells (ruleArr r v) 52))) := hid (by unfold ruleArr; kernel_rfl)
  cases h1 : Ru.ruleR r with
  | false =>
    have e := hid (show Ru.forR r role tier label = false by unfold Ru.forR; rw [h1]; rfl)
    rw [h1] at hrt
    clear h1
    unfold ruleArr at *
    go_enter Tryz.func39, Tryz.ntmps39
    go_wp2_with fail
    refine hrt.out.mono ?_
    rintro en w1 ⟨rfl, hb1⟩
    go_wp2_with fail
    go_ret
    exact ⟨ret_bool e.out.symm, bthen Q0.out hb1⟩
  | true =>
    obtain ⟨b1, b2, b3⟩ := ruleR_bounds h1
    have e0 := hid h1
    rw [h1] at hrt
    clear h1
    unfold ruleArr at *
    go_enter Tryz.func39, Tryz.ntmps39
    go_wp2_with fail
    refine hrt.out.mono ?_
    rintro en w1 ⟨rfl, hb1⟩
    obtain ⟨x0, x1, x2, x3, x4, x5, x6, xf, xz⟩ := (B0.out.ext hb1).seven
    have Q1 := hid (bthen Q0.out hb1)
    clear hb1
    by_cases h6 : r.kind = 6
    · have k6 : (r.kind != 6) = false := by rw [h6]; rfl
      have e := hid (show Ru.forR r role tier label = false by unfold Ru.forR; rw [k6]; simp)
      clear h6
      go_wp2_with fail
      go_ret
      exact ⟨ret_bool e.out.symm, Q1.out⟩
    · have k6 : (r.kind != 6) = true := by rw [bne_iff_ne]; exact h6
      obtain ⟨b4, b5⟩ := b3 h6
      cases h3 : Ru.numbers3 role tier label with
      | false =>
        have e := hid (show Ru.forR r role tier label = false by unfold Ru.forR; rw [h3]; simp)
        have h3' := hid h3
        clear h6 h3
        go_wp2_with fail
        refine (numbers3_any _ _ _ _).mono ?_
        rintro en w2 ⟨rfl, rfl⟩
        rw [h3'.out]
        go_wp2_with fail
        go_ret
        exact ⟨ret_bool e.out.symm, Q1.out⟩
      | true =>
        obtain ⟨⟨n1, n2⟩, ⟨n3, n4⟩, ⟨n5, n6⟩⟩ := numbers3_iff.1 h3
        have e := hid (show Ru.forR r role tier label = (Ru.inSum r.roles role && decide (r.lo ≤ tier) && decide (tier ≤ r.hi) && Ru.inSum r.labels label) by unfold Ru.forR; rw [e0.out, k6, h3]; simp only [Bool.true_and])
        have h3' := hid h3
        clear h6 h3
        go_wp2_with fail
        refine (numbers3_any _ _ _ _).mono ?_
        rintro en w2 ⟨rfl, rfl⟩
        rw [h3'.out]
        go_wp2_with fail
        refine (in_any _ _ _ b1 b2 n1 n2).mono ?_
        rintro en w2 ⟨rfl, rfl⟩
        cases hi : Ru.inSum r.roles role with
        | false =>
          rw [hi] at e
          clear hi
          go_wp2_with fail
          go_ret
          exact ⟨ret_bool e.out.symm, Q1.out⟩
        | true =>
          rw [hi] at e
          clear hi
          by_cases t1 : r.lo ≤ tier
          · have t1' : decide (r.lo ≤ tier) = true := by simpa using t1
            rw [t1'] at e
            by_cases t2 : tier ≤ r.hi
            · have t2' : decide (tier ≤ r.hi) = true := by simpa using t2
              rw [t2'] at e
              go_wp2_with fail
              refine (in_any _ _ _ b4 b5 n5 n6).mono ?_
              rintro en w2 ⟨rfl, rfl⟩
              go_wp2_with fail
              go_ret
              exact ⟨ret_bool (by rw [e.out]; rfl), Q1.out⟩
            · have t2' : decide (tier ≤ r.hi) = false := by simpa using t2
              rw [t2'] at e
              go_wp2_with fail
              go_ret
              exact ⟨ret_bool (by rw [e.out]; rfl), Q1.out⟩
          · have t1' : decide (r.lo ≤ tier) = false := by simpa using t1
            rw [t1'] at e
            go_wp2_with fail
            go_ret
            exact ⟨ret_bool (by rw [e.out]; rfl), Q1.out⟩

end Go.Proofs.YtelphkhacadfaaaGreat

namespace Go.Proofs.YtelphkhacadfaaaGreat
open Go.RowKit Go.Sort

set_option maxHeartbeats 1000000 in
theorem rhas_any {w : World} {v : Value} {l : List Po.Box} (x y : Int) (h : BRow w v l) (hn : l.length ≤ 140737488355328) :
    Calls Tryz.prog 40 #[v, ptV x y] w fun e w' => e = .returned (.bool (Ru.hasB l x y)) ∧ Below w.heap.size w w' := by
  have hz := balloc w (.cells #[.int .i64 x, .int .i64 y] 55)
  have Q0 := hid hz
  have P0 := hid (Blk.new w #[.int .i64 x, .int .i64 y] 55)
  rcases brow_of (h.ext hz) with ⟨p0, c0, rfl, rfl⟩ | ⟨g, off, cap, rfl, hr⟩
  · clear h hz
    unfold ptV
    go_enter Tryz.func40, Tryz.ntmps40
    go_wp2_with fail
    go_loop [9] (fun u => u = .int .i64 0) (fun _ => 0)
    case atStart => rfl
    case round =>
      subst hrel
      go_wp2_with fail
      go_ret
      exact ⟨rfl, Q0.out⟩
  · have hr' := hid hr
    clear h hr hz
    unfold ptV
    go_enter Tryz.func40, Tryz.ntmps40
    go_wp2_with fail
    go_loopw [9] (fun u wr => ∃ i : Nat, u = .int .i64 i ∧ i ≤ l.length ∧ Below (w.heap.size + 1) (w.alloc (.cells #[.int .i64 x, .int .i64 y] 55)) wr ∧ (l.take i).any (fun b => Ru.boxHas b x y) = false) (fun u _ => l.length - (intOf u).toNat)
    case atStart => exact ⟨0, rfl, Nat.zero_le _, Below.refl _ _, rfl⟩
    case round =>
      obtain ⟨i, rfl, hle, hQ, hall⟩ := hrel
      have hQa : Below (w.alloc (.cells #[.int .i64 x, .int .i64 y] 55)).heap.size (w.alloc (.cells #[.int .i64 x, .int .i64 y] 55)) wr := by rw [World.size_alloc]; exact hQ
      have hQ' := hid hQa
      have hall' := hid hall
      have P1 := hid (P0.out.ext hQa)
      have Qw := hid (bthen Q0.out hQa)
      clear hQ hall hQa
      by_cases hlt : i < l.length
      · have hs := hid ((hr'.out.ext hQ'.out).get i hlt)
        have hyes := hid (fun h => any_yes (p := fun b => Ru.boxHas b x y) hlt h)
        have hno := hid (fun h => any_take hlt hall'.out h)
        have hb : Hid (∀ w, Calls Tryz.prog 74 #[.agg (boxArr l[i]), .agg #[.int .i64 x, .int .i64 y]] w fun e w' => e = .returned (.bool (Ru.boxHas l[i] x y)) ∧ Below w.heap.size w w') := hid (has_any l[i] x y)
        generalize l[i] = b at *
        have P2 := hid (P1.out.alloc (.cells (boxArr b) 63))
        have hne : w.heap.size ≠ wr.heap.size := by have := P1.out.lt; omega
        go_wp2_with (first | (refine wpList_load_at rfl 63 (.tmp 11) rfl 12 rfl g (off + i * 4) (boxArr b) (hs.out) rfl Tryz.underlying63 rfl (by kernel_rfl) ?_) | (refine wpList_store_new rfl 63 (.tmp 6) (.tmp 12) rfl rfl wr 63 _ (boxArr b) rfl rfl rfl (by kernel_rfl) rfl (boxArr_one b) ?_) | (refine wpList_load_blk rfl 63 (.tmp 6) rfl 13 rfl wr.heap.size 63 (boxArr b) (Blk.new wr _ _) rfl Tryz.underlying63 rfl (by kernel_rfl) ?_) | (refine wpList_load_blk rfl 55 (.tmp 3) rfl 14 rfl w.heap.size 55 (#[.int .i64 x, .int .i64 y]) (P2.out) rfl Tryz.underlying55 rfl (by kernel_rfl) ?_))
        refine (hb.out _).mono ?_
        rintro e w1 ⟨rfl, hb1⟩
        have Q1 := hid (bthen hQ'.out (bthen (balloc wr _) hb1))
        have Q2 := hid (bthen Qw.out (bthen (balloc wr _) hb1))
        simp only [World.size_alloc] at Q1
        generalize Ru.boxHas b x y = r at *
        cases r with
        | false =>
          have hy := hid (hno.out rfl)
          go_wp2_with fail
          go_roundw
          case rel => exact ⟨i + 1, by go_num, by omega, Q1.out, hy.out⟩
          case measure => simp [intOf]; omega
        | true =>
          have hy := hid (hyes.out rfl)
          go_wp2_with fail
          go_ret
          exact ⟨ret_bool hy.out.symm, Q2.out⟩
      · obtain rfl : i = l.length := by omega
        have hf := hid (show Ru.hasB l x y = false by have h := hall'.out; rw [List.take_of_length_le (Nat.le_refl _)] at h; exact h)
        go_wp2_with fail
        go_ret
        exact ⟨ret_bool hf.out.symm, Qw.out⟩

theorem foldl_take {α β : Type} {f : β → α → β} {l : List α} {i : Nat} {b c : β} (hi : i < l.length) (h : (l.take i).foldl f b = c) : (l.take (i + 1)).foldl f b = f c l[i] := by
  rw [List.take_succ_eq_append_getElem hi, List.foldl_append, h]; rfl
theorem zoom_yes {r : Ru.Rule} {role tier label x y : Int} {p : Int × Int} (h : Ru.forR r role tier label = true) (h2 : Ru.hasB r.boxes x y = true) : Ru.zoomStep role tier label x y p r = if r.kind = 4 then (max p.1 r.zoom, p.2) else (p.1, min p.2 r.zoom) := by
  unfold Ru.zoomStep; rw [h, h2]; rfl
theorem zoom_no {r : Ru.Rule} {role tier label x y : Int} {p : Int × Int} (h : Ru.forR r role tier label = false ∨ Ru.hasB r.boxes x y = false) : Ru.zoomStep role tier label x y p r = p := by
  unfold Ru.zoomStep
  rw [if_neg]
  rcases h with h | h <;> simp [h]

set_option maxRecDepth 100000 in
set_option maxHeartbeats 2000000 in
theorem zoom_any {w : World} {v : Value} {l : List Ru.Rule} (role tier label x y : Int) (h : RSl w v l) (hn : l.length ≤ 140737488355328) :
    Calls Tryz.prog 15 #[v, .int .i64 role, .int .i64 tier, .int .i64 label, ptV x y] w fun e w' => e = .returned (.int .i64 (Ru.zoomV l role tier label x y)) ∧ Below w.heap.size w w' := by
  have hz := balloc w (.cells #[.int .i64 x, .int .i64 y] 55)
  have Q0 := hid hz
  have P0 := hid (Blk.new w #[.int .i64 x, .int .i64 y] 55)
  have h0 := hid (h.ext hz)
  have hrt := hid (rright_any (h.ext hz) hn)
  clear h hz
  cases hrr : Ru.rulesR l with
  | false =>
    have e := hid (show Ru.zoomV l role tier label x y = 0 by unfold Ru.zoomV; rw [hrr]; rfl)
    rw [hrr] at hrt
    clear hrr
    unfold ptV
    go_enter Tryz.func15, Tryz.ntmps15
    go_wp2_with fail
    refine hrt.out.mono ?_
    rintro en w1 ⟨rfl, hb1⟩
    go_wp2_with fail
    go_ret
    exact ⟨ret_int e.out.symm, bthen Q0.out hb1⟩
  | true =>
    have e := hid (show Ru.zoomV l role tier label x y = min (l.foldl (Ru.zoomStep role tier label x y) (0, 16)).1 (l.foldl (Ru.zoomStep role tier label x y) (0, 16)).2 by unfold Ru.zoomV; rw [hrr]; rfl)
    rw [hrr] at hrt
    clear hrr
    unfold ptV
    rcases h0.out with ⟨rfl, rfl⟩ | ⟨g, off, cap, rfl, hr⟩
    · go_enter Tryz.func15, Tryz.ntmps15
      go_wp2_with fail
      refine hrt.out.mono ?_
      rintro en w1 ⟨rfl, hb1⟩
      go_wp2_with fail
      go_loop [11, 12, 20] (fun a c u => a = .int .i64 0 ∧ c = .int .i64 16 ∧ u = .int .i64 0) (fun _ _ _ => 0)
      case atStart => exact ⟨rfl, rfl, rfl⟩
      case round =>
        obtain ⟨rfl, rfl, rfl⟩ := hrel
        go_wp2_with fail
        go_ret
        exact ⟨ret_int e.out.symm, bthen Q0.out hb1⟩
    · have hr' := hid hr
      clear hr h0
      go_enter Tryz.func15, Tryz.ntmps15
      go_wp2_with fail
      refine hrt.out.mono ?_
      rintro en w1 ⟨rfl, hb1⟩
      have Q1 := hid (bthen Q0.out hb1)
      have P1 := hid (P0.out.ext hb1)
      have R1 := hid (hr'.out.ext hb1)
      have hs1 := P1.out.lt
      clear hb1 hr'
      go_wp2_with fail
      go_loopw [11, 12, 20] (fun a c u wr => ∃ (i : Nat) (m k : Int), a = .int .i64 m ∧ c = .int .i64 k ∧ u = .int .i64 i ∧ i ≤ l.length ∧ Below w1.heap.size w1 wr ∧ (l.take i).foldl (Ru.zoomStep role tier label x y) (0, 16) = (m, k)) (fun _ _ u _ => l.length - (intOf u).toNat)
      case atStart => exact ⟨0, 0, 16, rfl, rfl, rfl, Nat.zero_le _, Below.refl _ _, rfl⟩
      case round =>
        obtain ⟨i, m, k, rfl, rfl, rfl, hle, hQ, hall⟩ := hrel
        have hQ' := hid hQ
        have hall' := hid hall
        have P2 := hid (P1.out.ext hQ)
        have Qw := hid (bthen Q1.out hQ)
        clear hQ hall
        by_cases hlt : i < l.length
        · obtain ⟨z, hs⟩ := R1.out.at hQ'.out hlt
          have hs' := hid hs
          have hfold := hid (foldl_take hlt hall'.out)
          have P3 := hid (P2.out.alloc (.cells (ruleArr l[i] z) 52))
          have B3 := hid (Blk.new wr (ruleArr l[i] z) 52)
          have hx3 := hid (hs.box.ext (balloc wr (.cells (ruleArr l[i] z) 52)))
          have hb := hid (for_any l[i] role tier label (hs.box.ext (balloc wr (.cells (ruleArr l[i] z) 52))) hs.few)
          have hfew := hid hs.few
          clear hs
          generalize l[i] = r at *
          have hne : w.heap.size ≠ wr.heap.size := by have := P2.out.lt; omega
          go_wp2_with (first | (refine wpList_load_at rfl 52 (.tmp 22) rfl 23 rfl g (off + i * 7) (ruleArr r z) (hs'.out.at_) rfl Tryz.underlying52 rfl (by kernel_rfl) ?_) | (refine wpList_store_new rfl 52 (.tmp 14) (.tmp 23) rfl rfl wr 52 _ (ruleArr r z) rfl rfl rfl (by kernel_rfl) rfl (hs'.out.one) ?_) | (refine wpList_load_blk rfl 52 (.tmp 14) rfl 24 rfl wr.heap.size 52 (ruleArr r z) (Blk.new wr _ _) rfl Tryz.underlying52 rfl (by kernel_rfl) ?_))
          refine hb.out.mono ?_
          rintro e w2 ⟨rfl, hb2⟩
          have Q2 := hid (bthen hQ'.out (bthen (balloc wr _) hb2))
          cases hf : Ru.forR r role tier label with
          | false =>
            have hst := hid (zoom_no (x := x) (y := y) (p := (m, k)) (.inl hf))
            rw [hst.out] at hfold
            clear hf
            go_wp2_with fail
            go_roundw
            case rel => exact ⟨i + 1, m, k, rfl, rfl, by go_num, by omega, Q2.out, hfold.out⟩
            case measure => simp [intOf]; omega
          | true =>
            have hyes := hid (fun h => zoom_yes (x := x) (y := y) (p := (m, k)) hf h)
            have hno := hid (fun h => zoom_no (x := x) (y := y) (p := (m, k)) (r := r) (role := role) (tier := tier) (label := label) (.inr h))
            have P4 := hid (P3.out.ext hb2)
            have hx4 := hid (hx3.out.ext hb2)
            obtain ⟨x0, x1, x2, x3, x4, x5, x6, xf, xz⟩ := (show Blk w2 wr.heap.size (ruleArr r z) 52 from B3.out.ext hb2).seven
            have hh := hid (rhas_any x y hx4.out hfew.out)
            have hz5 := hid hx4.out.shape
            obtain ⟨p0, p1, pf, pz⟩ := P4.out.two
            obtain ⟨zp, zc, rfl⟩ := hz5.out
            clear hf
            go_wp2_with fail
            refine hh.out.mono ?_
            rintro e w3 ⟨rfl, hb3⟩
            have Q3 := hid (bthen Q2.out hb3)
            clear x0 x1 x2 x3 x4 x5 x6 xf xz p0 p1 pf pz
            cases hh5 : Ru.hasB r.boxes x y with
            | false =>
              have hst := hid (hno.out hh5)
              rw [hst.out] at hfold
              clear hh5
              go_wp2_with fail
              go_roundw
              case rel => exact ⟨i + 1, m, k, rfl, rfl, by go_num, by omega, Q3.out, hfold.out⟩
              case measure => simp [intOf]; omega
            | true =>
              have hst := hid (hyes.out hh5)
              rw [hst.out] at hfold
              obtain ⟨x0, x1, x2, x3, x4, x5, x6, xf, xz⟩ := (show Blk w3 wr.heap.size (ruleArr r (.slice zp r.boxes.length zc)) 52 from (B3.out.ext hb2).ext hb3).seven
              clear hh5
              by_cases h4 : r.kind = 4
              · rw [if_pos h4] at hfold
                have k4 : (r.kind == 4) = true := beq_iff_eq.2 h4
                clear h4
                go_wp2_with fail
                all_goals
                  go_roundw
                  case rel => exact ⟨i + 1, _, k, rfl, rfl, by go_num, by omega, Q3.out, by rw [hfold.out]; first | done | (ext <;> simp only <;> omega)⟩
                  case measure => simp [intOf]; omega
              · rw [if_neg h4] at hfold
                have k4 : (r.kind == 4) = false := beq_eq_false_iff_ne.2 h4
                clear h4
                go_wp2_with fail
                all_goals
                  go_roundw
                  case rel => exact ⟨i + 1, m, _, rfl, rfl, by go_num, by omega, Q3.out, by rw [hfold.out]; first | done | (ext <;> simp only <;> omega)⟩
                  case measure => simp [intOf]; omega
        · obtain rfl : i = l.length := by omega
          have hf := hid (show min m k = Ru.zoomV l role tier label x y by
            have h := hall'.out
            rw [List.take_of_length_le (Nat.le_refl _)] at h
            rw [e.out, h])
          go_wp2_with fail
          all_goals
            go_ret
            exact ⟨ret_int (by rw [← hf.out]; first | done | omega), Qw.out⟩

end Go.Proofs.YtelphkhacadfaaaGreat

namespace Go.Proofs.YtelphkhacadfaaaGreat
open Go.RowKit Go.Sort

theorem rinside_any (n : Int) (w : World) : Calls Tryz.prog 46 #[.int .i64 n] w fun e w' => e = .returned (.bool (Ru.inside n)) ∧ Below w.heap.size w w' := by
  refine same_below ?_
  by_cases h0 : 0 ≤ n
  · go_enter Tryz.func46, Tryz.ntmps46
    go_wp2_with fail
    go_ret
    exact ⟨ret_bool (by unfold Ru.inside; simp [h0]), rfl⟩
  · go_enter Tryz.func46, Tryz.ntmps46
    go_wp2_with fail
    go_ret
    exact ⟨ret_bool (by unfold Ru.inside; simp; omega), rfl⟩
set_option maxHeartbeats 1000000 in
theorem rboxR_any (b : Po.Box) (w : World) : Calls Tryz.prog 19 #[pboxV b] w fun e w' => e = .returned (.bool (Ru.boxR b)) ∧ Below w.heap.size w w' := by
  obtain ⟨x0, y0, x1, y1⟩ := b
  unfold pboxV
  have Q0 := hid (balloc w (.cells #[.int .i64 x0, .int .i64 y0, .int .i64 x1, .int .i64 y1] 63))
  have B0 := hid (Blk.new w #[.int .i64 x0, .int .i64 y0, .int .i64 x1, .int .i64 y1] 63)
  go_enter Tryz.func19, Tryz.ntmps19
  go_wp2_with fail
  refine (rinside_any x0 _).mono ?_
  rintro e w1 ⟨rfl, hb1⟩
  have Q1 := hid (bthen Q0.out hb1)
  have B1 := hid (B0.out.ext hb1)
  obtain ⟨c0, c1, c2, c3, cf, cz⟩ := B1.out.four
  clear hb1
  cases h0 : Ru.inside x0 with
  | false =>
    have ee := hid (show Ru.boxR ⟨x0, y0, x1, y1⟩ = false by unfold Ru.boxR Ru.fits; simp [h0])
    go_wp2_with fail
    go_ret
    exact ⟨ret_bool (by first | exact ee.out.symm | (rw [ee.out]; simp; omega) | (simp; intros; omega)), Q1.out⟩
  | true =>
    have h0' := hid h0
    go_wp2_with fail
    refine (rinside_any x1 _).mono ?_
    rintro e w2 ⟨rfl, hb2⟩
    have Q2 := hid (bthen Q1.out hb2)
    have B2 := hid (B1.out.ext hb2)
    obtain ⟨c0, c1, c2, c3, cf, cz⟩ := B2.out.four
    clear hb2
    cases h1 : Ru.inside x1 with
    | false =>
      have ee := hid (show Ru.boxR ⟨x0, y0, x1, y1⟩ = false by unfold Ru.boxR Ru.fits; simp [h0'.out, h1])
      go_wp2_with fail
      go_ret
      exact ⟨ret_bool (by first | exact ee.out.symm | (rw [ee.out]; simp; omega) | (simp; intros; omega)), Q2.out⟩
    | true =>
      have h1' := hid h1
      go_wp2_with fail
      refine (rinside_any y0 _).mono ?_
      rintro e w3 ⟨rfl, hb3⟩
      have Q3 := hid (bthen Q2.out hb3)
      have B3 := hid (B2.out.ext hb3)
      obtain ⟨c0, c1, c2, c3, cf, cz⟩ := B3.out.four
      clear hb3
      cases h2 : Ru.inside y0 with
      | false =>
        have ee := hid (show Ru.boxR ⟨x0, y0, x1, y1⟩ = false by unfold Ru.boxR Ru.fits; simp [h0'.out, h1'.out, h2])
        go_wp2_with fail
        go_ret
        exact ⟨ret_bool (by first | exact ee.out.symm | (rw [ee.out]; simp; omega) | (simp; intros; omega)), Q3.out⟩
      | true =>
        have h2' := hid h2
        go_wp2_with fail
        refine (rinside_any y1 _).mono ?_
        rintro e w4 ⟨rfl, hb4⟩
        have Q4 := hid (bthen Q3.out hb4)
        have B4 := hid (B3.out.ext hb4)
        obtain ⟨c0, c1, c2, c3, cf, cz⟩ := B4.out.four
        clear hb4
        cases h3 : Ru.inside y1 with
        | false =>
          have ee := hid (show Ru.boxR ⟨x0, y0, x1, y1⟩ = false by unfold Ru.boxR Ru.fits; simp [h0'.out, h1'.out, h2'.out, h3])
          go_wp2_with fail
          go_ret
          exact ⟨ret_bool (by first | exact ee.out.symm | (rw [ee.out]; simp; omega) | (simp; intros; omega)), Q4.out⟩
        | true =>
          have h3' := hid h3
          by_cases h4 : x0 ≤ x1
          · have h4' := hid h4
            by_cases h5 : y0 ≤ y1
            · have ee := hid (show Ru.boxR ⟨x0, y0, x1, y1⟩ = true by unfold Ru.boxR Ru.fits; simp [h0'.out, h1'.out, h2'.out, h3'.out, h4'.out, h5])
              go_wp2_with fail
              go_ret
              exact ⟨ret_bool (by first | exact ee.out.symm | (rw [ee.out]; simp; omega) | (simp; intros; omega)), Q4.out⟩
            · have ee := hid (show Ru.boxR ⟨x0, y0, x1, y1⟩ = false by unfold Ru.boxR Ru.fits; simp [h0'.out, h1'.out, h2'.out, h3'.out, h4'.out, h5])
              go_wp2_with fail
              go_ret
              exact ⟨ret_bool (by first | exact ee.out.symm | (rw [ee.out]; simp; omega) | (simp; intros; omega)), Q4.out⟩
          · have ee := hid (show Ru.boxR ⟨x0, y0, x1, y1⟩ = false by unfold Ru.boxR Ru.fits; simp [h0'.out, h1'.out, h2'.out, h3'.out, h4])
            go_wp2_with fail
            go_ret
            exact ⟨ret_bool (by first | exact ee.out.symm | (rw [ee.out]; simp; omega) | (simp; intros; omega)), Q4.out⟩


end Go.Proofs.YtelphkhacadfaaaGreat
