/- The walks of rules: Right, For, has, Zoom, Cloaks. -/
import Derived.Test.YtelphkhacadfaaaRuB
namespace Go.Proofs.Ytelphkhacadfaaa
open Go.RowKit Go.Sort

/-- a row of rules in memory -/
structure RRow (w : World) (g off cap : Nat) (rs : List Ru.Rule) : Prop where
  cap : rs.length ≤ cap
  lt : g < w.heap.size
  get : ∀ (i : Nat) (hi : i < rs.length), ∃ x, w.rangeAt g (off + i * 7) (ruleArr rs[i] x).toList ∧ BRow w x rs[i].boxes ∧ rs[i].boxes.length ≤ 140737488355328
theorem RRow.ext {w w' : World} {g off cap : Nat} {rs : List Ru.Rule} (h : RRow w g off cap rs) (hb : Below w.heap.size w w') : RRow w' g off cap rs :=
  ⟨h.cap, Nat.lt_of_lt_of_le h.lt hb.size, fun i hi => by
    obtain ⟨x, h1, h2, h3⟩ := h.get i hi
    exact ⟨x, fun j u hu => (hb.cell (p := ⟨g, off + i * 7 + j, none⟩) h.lt).trans (h1 j u hu), h2.ext hb, h3⟩⟩
/-- a slice that reads as rules -/
def RSl (w : World) (v : Value) (rs : List Ru.Rule) : Prop := (v = .slice none 0 0 ∧ rs = []) ∨ ∃ g off cap, v = .slice (some ⟨g, off, none⟩) rs.length cap ∧ RRow w g off cap rs
theorem RSl.ext {w w' : World} {v : Value} {rs : List Ru.Rule} (h : RSl w v rs) (hb : Below w.heap.size w w') : RSl w' v rs := h.imp id fun ⟨g, off, cap, hv, hr⟩ => ⟨g, off, cap, hv, hr.ext hb⟩
theorem ruleArr_one (r : Ru.Rule) {v : Value} (hv : v.oneCell' = true) : (ruleArr r v).all (·.oneCell') = true := by
  unfold ruleArr
  rw [← Array.all_toList]
  simp only [List.all_cons, List.all_nil, hv]
  rfl
theorem row_one {w : World} {v : Value} {n size : Nat} {xs : List Value} (h : Row w v n size xs) : v.oneCell' = true := by
  obtain ⟨p, c, rfl⟩ := row_shape h; rfl
/-- what the walk wants of rule number i -/
structure RAt (w : World) (g o : Nat) (r : Ru.Rule) (x : Value) : Prop where
  at_ : w.rangeAt g o (ruleArr r x).toList
  box : BRow w x r.boxes
  few : r.boxes.length ≤ 140737488355328
  one : (ruleArr r x).all (·.oneCell') = true
theorem RRow.at {w w' : World} {g off cap : Nat} {rs : List Ru.Rule} (h : RRow w g off cap rs) (hb : Below w.heap.size w w') {i : Nat} (hi : i < rs.length) : ∃ x, RAt w' g (off + i * 7) rs[i] x := by
  obtain ⟨x, h1, h2, h3⟩ := (h.ext hb).get i hi
  exact ⟨x, h1, h2, h3, ruleArr_one _ h2.one⟩

set_option maxHeartbeats 1000000 in
theorem rright_any {w : World} {v : Value} {l : List Ru.Rule} (h : RSl w v l) (hn : l.length ≤ 140737488355328) :
    Calls Try.prog 15 #[v] w fun e w' => e = .returned (.bool (Ru.rulesR l)) ∧ Below w.heap.size w w' := by
  rcases h with ⟨rfl, rfl⟩ | ⟨g, off, cap, rfl, hr⟩
  · go_enter Try.func15, Try.ntmps15
    go_wp2_with fail
    go_loop [7] (fun u => u = .int .i64 0) (fun _ => 0)
    case atStart => rfl
    case round =>
      subst hrel
      go_wp2_with fail
      go_ret
      exact ⟨rfl, Below.refl _ _⟩
  · have hr' := hid hr
    clear hr
    go_enter Try.func15, Try.ntmps15
    go_wp2_with fail
    go_loopw [7] (fun u wr => ∃ i : Nat, u = .int .i64 i ∧ i ≤ l.length ∧ Below w.heap.size w wr ∧ (l.take i).all Ru.ruleR = true) (fun u _ => l.length - (intOf u).toNat)
    case atStart => exact ⟨0, rfl, Nat.zero_le _, Below.refl _ _, rfl⟩
    case round =>
      obtain ⟨i, rfl, hle, hQ, hall⟩ := hrel
      have hQ' := hid hQ
      have hall' := hid hall
      clear hQ hall
      by_cases hlt : i < l.length
      · obtain ⟨x, hs⟩ := hr'.out.at hQ'.out hlt
        have hs' := hid hs
        have hyes := hid (fun h => all_take hlt hall'.out h)
        have hno := hid (fun h => all_no (p := Ru.ruleR) hlt h)
        have hb := hid (right_any l[i] (hs.box.ext (balloc wr (.cells (ruleArr l[i] x) 36))) hs.few)
        clear hs
        generalize l[i] = r at *
        go_wp2_with (first | (refine wpList_load_at rfl 36 (.tmp 9) rfl 10 rfl g (off + i * 7) (ruleArr r x) (hs'.out.at_) rfl Try.underlying36 rfl (by kernel_rfl) ?_) | (refine wpList_store_new rfl 36 (.tmp 4) (.tmp 10) rfl rfl wr 36 _ (ruleArr r x) rfl rfl rfl (by kernel_rfl) rfl (hs'.out.one) ?_) | (refine wpList_load_blk rfl 36 (.tmp 4) rfl 11 rfl wr.heap.size 36 (ruleArr r x) (Blk.new wr _ _) rfl Try.underlying36 rfl (by kernel_rfl) ?_))
        refine hb.out.mono ?_
        rintro e w1 ⟨rfl, hb1⟩
        have Q1 := hid (bthen hQ'.out (bthen (balloc wr _) hb1))
        generalize Ru.ruleR r = rr at *
        cases rr with
        | true =>
          have hy := hid (hyes.out rfl)
          go_wp2_with fail
          go_roundw
          case rel => exact ⟨i + 1, by go_num, by omega, Q1.out, hy.out⟩
          case measure => simp [intOf]; omega
        | false =>
          have hy := hid (hno.out rfl)
          go_wp2_with fail
          go_ret
          exact ⟨ret_bool hy.out.symm, Q1.out⟩
      · obtain rfl : i = l.length := by omega
        have hf := hid (show Ru.rulesR l = true by have h := hall'.out; rw [List.take_of_length_le (Nat.le_refl _)] at h; exact h)
        go_wp2_with fail
        go_ret
        exact ⟨ret_bool hf.out.symm, hQ'.out⟩

theorem ruleR_bounds {r : Ru.Rule} (h : Ru.ruleR r = true) : 0 ≤ r.roles ∧ r.roles ≤ 255 ∧ (r.kind ≠ 6 → 0 ≤ r.labels ∧ r.labels ≤ 255) := by
  have hk := Ru.ruleR_kind h
  unfold Ru.ruleR Ru.small at h
  by_cases h6 : r.kind = 6
  · rw [if_pos h6] at h
    simp only [Bool.and_eq_true, decide_eq_true_eq] at h
    exact ⟨h.1.1.1.1.1.1, h.1.1.1.1.1.2, fun h7 => absurd h6 h7⟩
  · rw [if_neg h6, if_pos (by omega)] at h
    simp only [Bool.and_eq_true, decide_eq_true_eq] at h
    exact ⟨h.1.1.1.1.1.1.1, h.1.1.1.1.1.1.2, fun _ => ⟨h.1.1.2.1, h.1.1.2.2⟩⟩
theorem small_iff {n m : Int} : Ru.small n m = true ↔ 0 ≤ n ∧ n ≤ m := by unfold Ru.small; simp
theorem numbers3_iff {a b c : Int} : Ru.numbers3 a b c = true ↔ (0 ≤ a ∧ a ≤ 7) ∧ (0 ≤ b ∧ b ≤ 7) ∧ (0 ≤ c ∧ c ≤ 7) := by
  unfold Ru.numbers3; simp only [Bool.and_eq_true, small_iff]; exact ⟨fun h => ⟨h.1.1, h.1.2, h.2⟩, fun h => ⟨⟨h.1, h.2.1⟩, h.2.2⟩⟩

set_option maxHeartbeats 2000000 in
theorem for_any {w : World} {v : Value} (r : Ru.Rule) (role tier label : Int) (h : BRow w v r.boxes) (hn : r.boxes.length ≤ 140737488355328) :
    Calls Try.prog 13 #[.agg (ruleArr r v), .int .i64 role, .int .i64 tier, .int .i64 label] w fun e w' => e = .returned (.bool (Ru.forR r role tier label)) ∧ Below w.heap.size w w' := by
  have hz := balloc w (.cells (ruleArr r v) 36)
  have Q0 := hid hz
  have hrt := hid (right_any r (h.ext hz) hn)
  have B0 := hid (Blk.new w (ruleArr r v) 36)
  clear hz h
  have hbox : Hid (Sem.run Try.prog (Instr.box 36 (.agg (ruleArr r v))) w = .ok (.pointer (some ⟨w.heap.size, 0, none⟩)) (w.alloc (.cells (ruleArr r v) 36))) := hid (by unfold ruleArr; kernel_rfl)
  cases h1 : Ru.ruleR r with
  | false =>
    have e := hid (show Ru.forR r role tier label = false by unfold Ru.forR; rw [h1]; rfl)
    rw [h1] at hrt
    clear h1
    unfold ruleArr at *
    go_enter Try.func13, Try.ntmps13
    go_wp2_with fail
    refine hrt.out.mono ?_
    rintro en w1 ⟨rfl, hb1⟩
    go_wp2_with fail
    go_ret
    exact ⟨ret_bool e.out.symm, bthen Q0.out hb1⟩
  | true =>
    obtain ⟨b1, b2, b3⟩ := ruleR_bounds h1
    have e0 := hid h1
    rw [h1] at hrt
    clear h1
    unfold ruleArr at *
    go_enter Try.func13, Try.ntmps13
    go_wp2_with fail
    refine hrt.out.mono ?_
    rintro en w1 ⟨rfl, hb1⟩
    obtain ⟨x0, x1, x2, x3, x4, x5, x6, xf, xz⟩ := (B0.out.ext hb1).seven
    have Q1 := hid (bthen Q0.out hb1)
    clear hb1
    by_cases h6 : r.kind = 6
    · have k6 : (r.kind != 6) = false := by rw [h6]; rfl
      have e := hid (show Ru.forR r role tier label = false by unfold Ru.forR; rw [k6]; simp)
      clear h6
      go_wp2_with fail
      go_ret
      exact ⟨ret_bool e.out.symm, Q1.out⟩
    · have k6 : (r.kind != 6) = true := by rw [bne_iff_ne]; exact h6
      obtain ⟨b4, b5⟩ := b3 h6
      cases h3 : Ru.numbers3 role tier label with
      | false =>
        have e := hid (show Ru.forR r role tier label = false by unfold Ru.forR; rw [h3]; simp)
        have h3' := hid h3
        clear h6 h3
        go_wp2_with fail
        refine (numbers3_any _ _ _ _).mono ?_
        rintro en w2 ⟨rfl, rfl⟩
        rw [h3'.out]
        go_wp2_with fail
        go_ret
        exact ⟨ret_bool e.out.symm, Q1.out⟩
      | true =>
        obtain ⟨⟨n1, n2⟩, ⟨n3, n4⟩, ⟨n5, n6⟩⟩ := numbers3_iff.1 h3
        have e := hid (show Ru.forR r role tier label = (Ru.inSum r.roles role && decide (r.lo ≤ tier) && decide (tier ≤ r.hi) && Ru.inSum r.labels label) by unfold Ru.forR; rw [e0.out, k6, h3]; simp only [Bool.true_and])
        have h3' := hid h3
        clear h6 h3
        go_wp2_with fail
        refine (numbers3_any _ _ _ _).mono ?_
        rintro en w2 ⟨rfl, rfl⟩
        rw [h3'.out]
        go_wp2_with fail
        refine (in_any _ _ _ b1 b2 n1 n2).mono ?_
        rintro en w2 ⟨rfl, rfl⟩
        cases hi : Ru.inSum r.roles role with
        | false =>
          rw [hi] at e
          clear hi
          go_wp2_with fail
          go_ret
          exact ⟨ret_bool e.out.symm, Q1.out⟩
        | true =>
          rw [hi] at e
          clear hi
          by_cases t1 : r.lo ≤ tier
          · have t1' : decide (r.lo ≤ tier) = true := by simpa using t1
            rw [t1'] at e
            by_cases t2 : tier ≤ r.hi
            · have t2' : decide (tier ≤ r.hi) = true := by simpa using t2
              rw [t2'] at e
              go_wp2_with fail
              refine (in_any _ _ _ b4 b5 n5 n6).mono ?_
              rintro en w2 ⟨rfl, rfl⟩
              go_wp2_with fail
              go_ret
              exact ⟨ret_bool (by rw [e.out]; rfl), Q1.out⟩
            · have t2' : decide (tier ≤ r.hi) = false := by simpa using t2
              rw [t2'] at e
              go_wp2_with fail
              go_ret
              exact ⟨ret_bool (by rw [e.out]; rfl), Q1.out⟩
          · have t1' : decide (r.lo ≤ tier) = false := by simpa using t1
            rw [t1'] at e
            go_wp2_with fail
            go_ret
            exact ⟨ret_bool (by rw [e.out]; rfl), Q1.out⟩

end Go.Proofs.Ytelphkhacadfaaa
