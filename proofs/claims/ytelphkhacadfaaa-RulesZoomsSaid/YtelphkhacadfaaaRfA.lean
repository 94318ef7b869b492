/- The walks of the document's own boxes, numbers and rules: inside, Fits, Right, Has; set, number, Two, In; Right of a rule. -/
import Derived.Test.YtelphkhacadfaaaRuD
namespace Go.Proofs.Ytelphkhacadfaaa
open Go.RowKit Go.Sort

theorem SRow.ext' {α : Type} {w w' : World} {g off cap size : Nat} {f : α → Array Value} {l : List α} (h : SRow w g off cap size f l) (hb : Below w.heap.size w w') : SRow w' g off cap size f l := h.ext hb
theorem rinside_any (n : Int) (w : World) : Calls Try.prog 48 #[.int .i64 n] w fun e w' => e = .returned (.bool (Ru.inside n)) ∧ Below w.heap.size w w' := by
  refine same_below ?_
  by_cases h0 : 0 ≤ n
  · go_enter Try.func48, Try.ntmps48
    go_wp2_with fail
    go_ret
    exact ⟨ret_bool (by unfold Ru.inside; simp [h0]), rfl⟩
  · go_enter Try.func48, Try.ntmps48
    go_wp2_with fail
    go_ret
    exact ⟨ret_bool (by unfold Ru.inside; simp; omega), rfl⟩
theorem rset_any (n : Int) (w : World) : Calls Try.prog 29 #[.int .i64 n] w fun e w' => e = .returned (.bool (Ru.small n 255)) ∧ Below w.heap.size w w' := by
  refine same_below ?_
  by_cases h0 : 0 ≤ n
  · go_enter Try.func29, Try.ntmps29
    go_wp2_with fail
    go_ret
    exact ⟨ret_bool (by unfold Ru.small; simp [h0]), rfl⟩
  · go_enter Try.func29, Try.ntmps29
    go_wp2_with fail
    go_ret
    exact ⟨ret_bool (by unfold Ru.small; simp; omega), rfl⟩
theorem rnumber_any (n : Int) (w : World) : Calls Try.prog 33 #[.int .i64 n] w fun e w' => e = .returned (.bool (Ru.small n 7)) ∧ Below w.heap.size w w' := by
  refine same_below ?_
  by_cases h0 : 0 ≤ n
  · go_enter Try.func33, Try.ntmps33
    go_wp2_with fail
    go_ret
    exact ⟨ret_bool (by unfold Ru.small; simp [h0]), rfl⟩
  · go_enter Try.func33, Try.ntmps33
    go_wp2_with fail
    go_ret
    exact ⟨ret_bool (by unfold Ru.small; simp; omega), rfl⟩
theorem rfits_any (x y : Int) (w : World) : Calls Try.prog 52 #[ptV x y] w fun e w' => e = .returned (.bool (Ru.fits x y)) ∧ Below w.heap.size w w' := by
  unfold ptV
  have Q0 := hid (balloc w (.cells #[.int .i64 x, .int .i64 y] 38))
  have B0 := hid (Blk.new w #[.int .i64 x, .int .i64 y] 38)
  go_enter Try.func52, Try.ntmps52
  go_wp2_with fail
  refine (rinside_any x _).mono ?_
  rintro e w1 ⟨rfl, hb1⟩
  have Q1 := hid (bthen Q0.out hb1)
  have B1 := hid (B0.out.ext hb1)
  obtain ⟨c0, c1, cf, cz⟩ := B1.out.two
  clear hb1
  cases h0 : Ru.inside x with
  | false =>
    have ee := hid (show Ru.fits x y = false by unfold Ru.fits; simp [h0])
    go_wp2_with fail
    go_ret
    exact ⟨ret_bool (by first | exact ee.out.symm | (rw [ee.out]; simp; omega) | (simp; intros; omega)), Q1.out⟩
  | true =>
    have h0' := hid h0
    go_wp2_with fail
    refine (rinside_any y _).mono ?_
    rintro e w2 ⟨rfl, hb2⟩
    have Q2 := hid (bthen Q1.out hb2)
    have B2 := hid (B1.out.ext hb2)
    clear hb2
    have ee := hid (show Ru.fits x y = Ru.inside y by unfold Ru.fits; simp [h0'.out])
    go_wp2_with fail
    go_ret
    exact ⟨ret_bool (by first | exact ee.out.symm | (rw [ee.out]; simp; omega) | (simp; intros; omega)), Q2.out⟩

set_option maxHeartbeats 1000000 in
theorem rboxR_any (b : Po.Box) (w : World) : Calls Try.prog 27 #[pboxV b] w fun e w' => e = .returned (.bool (Ru.boxR b)) ∧ Below w.heap.size w w' := by
  obtain ⟨x0, y0, x1, y1⟩ := b
  unfold pboxV
  have Q0 := hid (balloc w (.cells #[.int .i64 x0, .int .i64 y0, .int .i64 x1, .int .i64 y1] 69))
  have B0 := hid (Blk.new w #[.int .i64 x0, .int .i64 y0, .int .i64 x1, .int .i64 y1] 69)
  go_enter Try.func27, Try.ntmps27
  go_wp2_with fail
  refine (rinside_any x0 _).mono ?_
  rintro e w1 ⟨rfl, hb1⟩
  have Q1 := hid (bthen Q0.out hb1)
  have B1 := hid (B0.out.ext hb1)
  obtain ⟨c0, c1, c2, c3, cf, cz⟩ := B1.out.four
  clear hb1
  cases h0 : Ru.inside x0 with
  | false =>
    have ee := hid (show Ru.boxR ⟨x0, y0, x1, y1⟩ = false by unfold Ru.boxR Ru.fits; simp [h0])
    go_wp2_with fail
    go_ret
    exact ⟨ret_bool (by first | exact ee.out.symm | (rw [ee.out]; simp; omega) | (simp; intros; omega)), Q1.out⟩
  | true =>
    have h0' := hid h0
    go_wp2_with fail
    refine (rinside_any x1 _).mono ?_
    rintro e w2 ⟨rfl, hb2⟩
    have Q2 := hid (bthen Q1.out hb2)
    have B2 := hid (B1.out.ext hb2)
    obtain ⟨c0, c1, c2, c3, cf, cz⟩ := B2.out.four
    clear hb2
    cases h1 : Ru.inside x1 with
    | false =>
      have ee := hid (show Ru.boxR ⟨x0, y0, x1, y1⟩ = false by unfold Ru.boxR Ru.fits; simp [h0'.out, h1])
      go_wp2_with fail
      go_ret
      exact ⟨ret_bool (by first | exact ee.out.symm | (rw [ee.out]; simp; omega) | (simp; intros; omega)), Q2.out⟩
    | true =>
      have h1' := hid h1
      go_wp2_with fail
      refine (rinside_any y0 _).mono ?_
      rintro e w3 ⟨rfl, hb3⟩
      have Q3 := hid (bthen Q2.out hb3)
      have B3 := hid (B2.out.ext hb3)
      obtain ⟨c0, c1, c2, c3, cf, cz⟩ := B3.out.four
      clear hb3
      cases h2 : Ru.inside y0 with
      | false =>
        have ee := hid (show Ru.boxR ⟨x0, y0, x1, y1⟩ = false by unfold Ru.boxR Ru.fits; simp [h0'.out, h1'.out, h2])
        go_wp2_with fail
        go_ret
        exact ⟨ret_bool (by first | exact ee.out.symm | (rw [ee.out]; simp; omega) | (simp; intros; omega)), Q3.out⟩
      | true =>
        have h2' := hid h2
        go_wp2_with fail
        refine (rinside_any y1 _).mono ?_
        rintro e w4 ⟨rfl, hb4⟩
        have Q4 := hid (bthen Q3.out hb4)
        have B4 := hid (B3.out.ext hb4)
        obtain ⟨c0, c1, c2, c3, cf, cz⟩ := B4.out.four
        clear hb4
        cases h3 : Ru.inside y1 with
        | false =>
          have ee := hid (show Ru.boxR ⟨x0, y0, x1, y1⟩ = false by unfold Ru.boxR Ru.fits; simp [h0'.out, h1'.out, h2'.out, h3])
          go_wp2_with fail
          go_ret
          exact ⟨ret_bool (by first | exact ee.out.symm | (rw [ee.out]; simp; omega) | (simp; intros; omega)), Q4.out⟩
        | true =>
          have h3' := hid h3
          by_cases h4 : x0 ≤ x1
          · have h4' := hid h4
            by_cases h5 : y0 ≤ y1
            · have ee := hid (show Ru.boxR ⟨x0, y0, x1, y1⟩ = true by unfold Ru.boxR Ru.fits; simp [h0'.out, h1'.out, h2'.out, h3'.out, h4'.out, h5])
              go_wp2_with fail
              go_ret
              exact ⟨ret_bool (by first | exact ee.out.symm | (rw [ee.out]; simp; omega) | (simp; intros; omega)), Q4.out⟩
            · have ee := hid (show Ru.boxR ⟨x0, y0, x1, y1⟩ = false by unfold Ru.boxR Ru.fits; simp [h0'.out, h1'.out, h2'.out, h3'.out, h4'.out, h5])
              go_wp2_with fail
              go_ret
              exact ⟨ret_bool (by first | exact ee.out.symm | (rw [ee.out]; simp; omega) | (simp; intros; omega)), Q4.out⟩
          · have ee := hid (show Ru.boxR ⟨x0, y0, x1, y1⟩ = false by unfold Ru.boxR Ru.fits; simp [h0'.out, h1'.out, h2'.out, h3'.out, h4])
            go_wp2_with fail
            go_ret
            exact ⟨ret_bool (by first | exact ee.out.symm | (rw [ee.out]; simp; omega) | (simp; intros; omega)), Q4.out⟩

/-- a box that has a point has it on the grid -/
theorem has_fits (b : Po.Box) (x y : Int) : (Ru.boxR b && (decide (b.x0 ≤ x) && decide (x ≤ b.x1) && decide (b.y0 ≤ y) && decide (y ≤ b.y1))) = Ru.boxHas b x y := by
  unfold Ru.boxHas
  cases h : Ru.boxR b with
  | false => simp
  | true =>
    unfold Ru.boxR Ru.fits Ru.inside at h
    unfold Ru.fits Ru.inside
    simp only [Bool.and_eq_true, decide_eq_true_eq] at h
    rw [Bool.eq_iff_iff]
    simp only [Bool.and_eq_true, decide_eq_true_eq, Bool.true_and]
    omega
set_option maxHeartbeats 1000000 in
theorem rhasB_any (b : Po.Box) (x y : Int) (w : World) : Calls Try.prog 53 #[pboxV b, ptV x y] w fun e w' => e = .returned (.bool (Ru.boxHas b x y)) ∧ Below w.heap.size w w' := by
  rw [← has_fits]
  have hR := hid (rboxR_any b)
  obtain ⟨x0, y0, x1, y1⟩ := b
  unfold pboxV ptV at *
  have za := balloc w (.cells #[.int .i64 x0, .int .i64 y0, .int .i64 x1, .int .i64 y1] 69)
  have zb := balloc (w.alloc (.cells #[.int .i64 x0, .int .i64 y0, .int .i64 x1, .int .i64 y1] 69)) (.cells #[.int .i64 x, .int .i64 y] 38)
  have Q0 := hid (bthen za zb)
  have B0 := hid ((Blk.new w #[.int .i64 x0, .int .i64 y0, .int .i64 x1, .int .i64 y1] 69).ext zb)
  have P0 := hid (Blk.newAt (w := w.alloc (.cells #[.int .i64 x0, .int .i64 y0, .int .i64 x1, .int .i64 y1] 69)) (k := w.heap.size + 1) (by simp) #[.int .i64 x, .int .i64 y] 38)
  clear za zb
  go_enter Try.func53, Try.ntmps53
  go_wp2_with fail
  refine (hR.out _).mono ?_
  rintro e w1 ⟨rfl, hb1⟩
  have Q1 := hid (bthen Q0.out hb1)
  have B1 := hid (B0.out.ext hb1)
  have P1 := hid (P0.out.ext hb1)
  obtain ⟨c0, c1, c2, c3, cf, cz⟩ := B1.out.four
  obtain ⟨p0, p1, pf, pz⟩ := P1.out.two
  clear hb1
  cases h0 : Ru.boxR ⟨x0, y0, x1, y1⟩ with
  | false =>
    have ee := hid (show (Ru.boxR ⟨x0, y0, x1, y1⟩ && (decide (x0 ≤ x) && decide (x ≤ x1) && decide (y0 ≤ y) && decide (y ≤ y1))) = false by simp [h0])
    go_wp2_with fail
    go_ret
    exact ⟨ret_bool (by first | exact ee.out.symm | (rw [ee.out]; simp; omega) | (simp; intros; omega)), Q1.out⟩
  | true =>
    have h0' := hid h0
    by_cases h1 : x0 ≤ x
    · have h1' := hid h1
      by_cases h2 : x ≤ x1
      · have h2' := hid h2
        by_cases h3 : y0 ≤ y
        · have h3' := hid h3
          by_cases h4 : y ≤ y1
          · have ee := hid (show (Ru.boxR ⟨x0, y0, x1, y1⟩ && (decide (x0 ≤ x) && decide (x ≤ x1) && decide (y0 ≤ y) && decide (y ≤ y1))) = true by simp [h0'.out, h1'.out, h2'.out, h3'.out, h4])
            go_wp2_with fail
            go_ret
            exact ⟨ret_bool (by first | exact ee.out.symm | (rw [ee.out]; simp; omega) | (simp; intros; omega)), Q1.out⟩
          · have ee := hid (show (Ru.boxR ⟨x0, y0, x1, y1⟩ && (decide (x0 ≤ x) && decide (x ≤ x1) && decide (y0 ≤ y) && decide (y ≤ y1))) = false by simp [h0'.out, h1'.out, h2'.out, h3'.out, h4])
            go_wp2_with fail
            go_ret
            exact ⟨ret_bool (by first | exact ee.out.symm | (rw [ee.out]; simp; omega) | (simp; intros; omega)), Q1.out⟩
        · have ee := hid (show (Ru.boxR ⟨x0, y0, x1, y1⟩ && (decide (x0 ≤ x) && decide (x ≤ x1) && decide (y0 ≤ y) && decide (y ≤ y1))) = false by simp [h0'.out, h1'.out, h2'.out, h3])
          go_wp2_with fail
          go_ret
          exact ⟨ret_bool (by first | exact ee.out.symm | (rw [ee.out]; simp; omega) | (simp; intros; omega)), Q1.out⟩
      · have ee := hid (show (Ru.boxR ⟨x0, y0, x1, y1⟩ && (decide (x0 ≤ x) && decide (x ≤ x1) && decide (y0 ≤ y) && decide (y ≤ y1))) = false by simp [h0'.out, h1'.out, h2])
        go_wp2_with fail
        go_ret
        exact ⟨ret_bool (by first | exact ee.out.symm | (rw [ee.out]; simp; omega) | (simp; intros; omega)), Q1.out⟩
    · have ee := hid (show (Ru.boxR ⟨x0, y0, x1, y1⟩ && (decide (x0 ≤ x) && decide (x ≤ x1) && decide (y0 ≤ y) && decide (y ≤ y1))) = false by simp [h0'.out, h1])
      go_wp2_with fail
      go_ret
      exact ⟨ret_bool (by first | exact ee.out.symm | (rw [ee.out]; simp; omega) | (simp; intros; omega)), Q1.out⟩

set_option maxRecDepth 100000 in
set_option maxHeartbeats 4000000 in
theorem rrule_any {w : World} {v : Value} (r : Ru.Rule) (h : BRow w v r.boxes) (hn : r.boxes.length ≤ 140737488355328) :
    Calls Try.prog 11 #[.agg (ruleArr r v)] w fun e w' => e = .returned (.bool (Ru.rruleR r)) ∧ Below w.heap.size w w' := by
  obtain ⟨kind, roles, lo, hi, labels, boxes, zoom⟩ := r
  simp only at h hn
  obtain ⟨vp, vc, rfl⟩ := h.shape
  have hPR : Hid (0 < boxes.length → ∃ g off, vp = some ⟨g, off, none⟩ ∧ SRow w g off vc 4 boxArr boxes) := by
    refine hid (fun hpos => ?_)
    rcases brow_of h with ⟨_, _, _, rfl⟩ | ⟨g, off, cap, hv, hr⟩
    · simp at hpos
    · cases hv; exact ⟨g, off, rfl, hr⟩
  unfold ruleArr
  simp only
  have Q0 := hid (balloc w (.cells #[.int .i64 kind, .int .i64 roles, .int .i64 lo, .int .i64 hi, .int .i64 labels, .slice vp boxes.length vc, .int .i64 zoom] 36))
  have B0 := hid (Blk.new w #[.int .i64 kind, .int .i64 roles, .int .i64 lo, .int .i64 hi, .int .i64 labels, .slice vp boxes.length vc, .int .i64 zoom] 36)
  generalize hbn : boxes.length = n at *
  have hn0 := hid hbn
  clear h hbn
  go_enter Try.func11, Try.ntmps11
  go_wp2_with fail
  go_loopw [3] (fun u wr => ∃ i : Nat, u = .int .i64 i ∧ i ≤ n ∧ Blk wr w.heap.size #[.int .i64 kind, .int .i64 roles, .int .i64 lo, .int .i64 hi, .int .i64 labels, .slice vp n vc, .int .i64 zoom] 36 ∧ Below w.heap.size w wr ∧ (boxes.take i).all Ru.boxR = true) (fun u _ => n - (intOf u).toNat)
  case atStart => exact ⟨0, rfl, Nat.zero_le _, B0.out, Q0.out, rfl⟩
  case round =>
    clear Q0 B0
    obtain ⟨i, rfl, hle, hB, hQ, hall⟩ := hrel
    have B0 := hid hB
    have Q0 := hid hQ
    have hall' := hid hall
    clear hB hQ hall
    obtain ⟨c0, c1, c2, c3, c4, c5, c6, cf, cz⟩ := B0.out.seven
    by_cases hlt : i < n
    · have hlt' : i < boxes.length := by rw [hn0.out]; exact hlt
      obtain ⟨g, off, rfl, hg⟩ := hPR.out (by omega)
      have hs := hid ((hg.ext' Q0.out).get i hlt')
      have hyes := hid (fun h => all_take hlt' hall'.out h)
      have hno := hid (fun h => all_no (p := Ru.boxR) hlt' h)
      generalize boxes[i] = x at *
      clear hg
      go_upto_region 4 with (fail)
      go_wp2_with (first | (refine wpList_load_at rfl 69 (.tmp 14) rfl 15 rfl g (off + i * 4) (#[.int .i64 x.x0, .int .i64 x.y0, .int .i64 x.x1, .int .i64 x.y1]) (hs.out) rfl Try.underlying69 rfl (by kernel_rfl) ?_))
      refine (rboxR_any x _).mono ?_
      rintro e w1 ⟨rfl, hb1⟩
      have Q1 := hid (bthen Q0.out hb1)
      have B1 := hid (B0.out.ext hb1)
      clear hb1 c0 c1 c2 c3 c4 c5 c6 cf
      generalize Ru.boxR x = rr at *
      cases rr with
      | true =>
        have hy := hid (hyes.out rfl)
        go_wp2_with fail
        go_roundw
        case rel => exact ⟨i + 1, by go_num, by omega, B1.out, Q1.out, hy.out⟩
        case measure => simp [intOf]; omega
      | false =>
        have hz := hid (hno.out rfl)
        have ee := hid (show Ru.rruleR ⟨kind, roles, lo, hi, labels, boxes, zoom⟩ = false by unfold Ru.rruleR; simp only [hz.out, Bool.false_and])
        go_wp2_with fail
        go_ret
        exact ⟨ret_bool ee.out.symm, Q1.out⟩
    · obtain rfl : i = n := by omega
      have hall' : Hid (boxes.all Ru.boxR = true) := hid (by have h := hall'.out; rwa [List.take_of_length_le (by rw [hn0.out]; exact Nat.le_refl _)] at h)
      cases k6 : (kind == 6) with
      | true =>
        have e6 : kind = 6 := by simpa using k6
        have e6' := hid e6
        clear e6
        go_wp2_with fail
        refine (rset_any roles _).mono ?_
        rintro e w1 ⟨rfl, hb1⟩
        have Q1 := hid (bthen Q0.out hb1)
        have B1 := hid (B0.out.ext hb1)
        obtain ⟨c0, c1, c2, c3, c4, c5, c6, cf, cz⟩ := B1.out.seven
        clear hb1
        cases h0 : Ru.small roles 255 with
        | false =>
          have ee := hid (show Ru.rruleR ⟨kind, roles, lo, hi, labels, boxes, zoom⟩ = false by unfold Ru.rruleR; rw [if_pos e6'.out, hall'.out]; simp only [Bool.true_and]; rw [hn0.out]; simp [h0])
          go_wp2_with fail
          go_ret
          exact ⟨ret_bool (by first | exact ee.out.symm | (rw [ee.out]; simp; omega) | (simp; intros; omega)), Q1.out⟩
        | true =>
          have h0' := hid h0
          cases h1 : (lo == 0) with
          | false =>
            have ee := hid (show Ru.rruleR ⟨kind, roles, lo, hi, labels, boxes, zoom⟩ = false by unfold Ru.rruleR; rw [if_pos e6'.out, hall'.out]; simp only [Bool.true_and]; rw [hn0.out]; simp [h0'.out, h1])
            go_wp2_with fail
            go_ret
            exact ⟨ret_bool (by first | exact ee.out.symm | (rw [ee.out]; simp; omega) | (simp; intros; omega)), Q1.out⟩
          | true =>
            have h1' := hid h1
            cases h2 : (hi == 0) with
            | false =>
              have ee := hid (show Ru.rruleR ⟨kind, roles, lo, hi, labels, boxes, zoom⟩ = false by unfold Ru.rruleR; rw [if_pos e6'.out, hall'.out]; simp only [Bool.true_and]; rw [hn0.out]; simp [h0'.out, h1'.out, h2])
              go_wp2_with fail
              go_ret
              exact ⟨ret_bool (by first | exact ee.out.symm | (rw [ee.out]; simp; omega) | (simp; intros; omega)), Q1.out⟩
            | true =>
              have h2' := hid h2
              cases h3 : (labels == 0) with
              | false =>
                have ee := hid (show Ru.rruleR ⟨kind, roles, lo, hi, labels, boxes, zoom⟩ = false by unfold Ru.rruleR; rw [if_pos e6'.out, hall'.out]; simp only [Bool.true_and]; rw [hn0.out]; simp [h0'.out, h1'.out, h2'.out, h3])
                go_wp2_with fail
                go_ret
                exact ⟨ret_bool (by first | exact ee.out.symm | (rw [ee.out]; simp; omega) | (simp; intros; omega)), Q1.out⟩
              | true =>
                have h3' := hid h3
                cases h4 : ((i : Int) == 0) with
                | false =>
                  have ee := hid (show Ru.rruleR ⟨kind, roles, lo, hi, labels, boxes, zoom⟩ = false by unfold Ru.rruleR; rw [if_pos e6'.out, hall'.out]; simp only [Bool.true_and]; rw [hn0.out]; simp [h0'.out, h1'.out, h2'.out, h3'.out, h4])
                  go_wp2_with fail
                  go_ret
                  exact ⟨ret_bool (by first | exact ee.out.symm | (rw [ee.out]; simp; omega) | (simp; intros; omega)), Q1.out⟩
                | true =>
                  have h4' := hid h4
                  cases h5 : (zoom == 0) with
                  | false =>
                    have ee := hid (show Ru.rruleR ⟨kind, roles, lo, hi, labels, boxes, zoom⟩ = false by unfold Ru.rruleR; rw [if_pos e6'.out, hall'.out]; simp only [Bool.true_and]; rw [hn0.out]; simp [h0'.out, h1'.out, h2'.out, h3'.out, h4'.out, h5])
                    go_wp2_with fail
                    go_ret
                    exact ⟨ret_bool (by first | exact ee.out.symm | (rw [ee.out]; simp; omega) | (simp; intros; omega)), Q1.out⟩
                  | true =>
                    have ee := hid (show Ru.rruleR ⟨kind, roles, lo, hi, labels, boxes, zoom⟩ = true by unfold Ru.rruleR; rw [if_pos e6'.out, hall'.out]; simp only [Bool.true_and]; rw [hn0.out]; simp [h0'.out, h1'.out, h2'.out, h3'.out, h4'.out, h5])
                    go_wp2_with fail
                    go_ret
                    exact ⟨ret_bool (by first | exact ee.out.symm | (rw [ee.out]; simp; omega) | (simp; intros; omega)), Q1.out⟩
      | false =>
        have e6' : Hid (¬ kind = 6) := hid (by simpa using k6)
        cases k4 : (kind == 4) with
        | true =>
          have e45 : Hid ((kind == 4 || kind == 5) = true) := hid (by rw [k4]; rfl)
          go_wp2_with fail
          refine (rset_any roles _).mono ?_
          rintro e w1 ⟨rfl, hb1⟩
          have Q1 := hid (bthen Q0.out hb1)
          have B1 := hid (B0.out.ext hb1)
          obtain ⟨c0, c1, c2, c3, c4, c5, c6, cf, cz⟩ := B1.out.seven
          clear hb1
          cases h0 : Ru.small roles 255 with
          | false =>
            have ee := hid (show Ru.rruleR ⟨kind, roles, lo, hi, labels, boxes, zoom⟩ = false by unfold Ru.rruleR; rw [if_neg e6'.out, hall'.out]; simp only [Bool.true_and]; simp [e45.out, h0])
            go_wp2_with fail
            go_ret
            exact ⟨ret_bool (by first | exact ee.out.symm | (rw [ee.out]; simp; omega) | (simp; intros; omega)), Q1.out⟩
          | true =>
            have h0' := hid h0
            go_wp2_with fail
            refine (rset_any labels _).mono ?_
            rintro e w2 ⟨rfl, hb2⟩
            have Q2 := hid (bthen Q1.out hb2)
            have B2 := hid (B1.out.ext hb2)
            obtain ⟨c0, c1, c2, c3, c4, c5, c6, cf, cz⟩ := B2.out.seven
            clear hb2
            cases h1 : Ru.small labels 255 with
            | false =>
              have ee := hid (show Ru.rruleR ⟨kind, roles, lo, hi, labels, boxes, zoom⟩ = false by unfold Ru.rruleR; rw [if_neg e6'.out, hall'.out]; simp only [Bool.true_and]; simp [e45.out, h0'.out, h1])
              go_wp2_with fail
              go_ret
              exact ⟨ret_bool (by first | exact ee.out.symm | (rw [ee.out]; simp; omega) | (simp; intros; omega)), Q2.out⟩
            | true =>
              have h1' := hid h1
              by_cases h2 : 0 ≤ lo
              · have h2' := hid h2
                by_cases h3 : lo ≤ hi
                · have h3' := hid h3
                  by_cases h4 : hi ≤ 7
                  · have h4' := hid h4
                    by_cases h5 : 0 ≤ zoom
                    · have h5' := hid h5
                      by_cases h6 : zoom ≤ 16
                      · have ee := hid (show Ru.rruleR ⟨kind, roles, lo, hi, labels, boxes, zoom⟩ = true by unfold Ru.rruleR; rw [if_neg e6'.out, hall'.out]; simp only [Bool.true_and]; simp [e45.out, h0'.out, h1'.out, h2'.out, h3'.out, h4'.out, h5'.out, h6])
                        go_wp2_with fail
                        go_ret
                        exact ⟨ret_bool (by first | exact ee.out.symm | (rw [ee.out]; simp; omega) | (simp; intros; omega)), Q2.out⟩
                      · have ee := hid (show Ru.rruleR ⟨kind, roles, lo, hi, labels, boxes, zoom⟩ = false by unfold Ru.rruleR; rw [if_neg e6'.out, hall'.out]; simp only [Bool.true_and]; simp [e45.out, h0'.out, h1'.out, h2'.out, h3'.out, h4'.out, h5'.out, h6])
                        go_wp2_with fail
                        go_ret
                        exact ⟨ret_bool (by first | exact ee.out.symm | (rw [ee.out]; simp; omega) | (simp; intros; omega)), Q2.out⟩
                    · have ee := hid (show Ru.rruleR ⟨kind, roles, lo, hi, labels, boxes, zoom⟩ = false by unfold Ru.rruleR; rw [if_neg e6'.out, hall'.out]; simp only [Bool.true_and]; simp [e45.out, h0'.out, h1'.out, h2'.out, h3'.out, h4'.out, h5])
                      go_wp2_with fail
                      go_ret
                      exact ⟨ret_bool (by first | exact ee.out.symm | (rw [ee.out]; simp; omega) | (simp; intros; omega)), Q2.out⟩
                  · have ee := hid (show Ru.rruleR ⟨kind, roles, lo, hi, labels, boxes, zoom⟩ = false by unfold Ru.rruleR; rw [if_neg e6'.out, hall'.out]; simp only [Bool.true_and]; simp [e45.out, h0'.out, h1'.out, h2'.out, h3'.out, h4])
                    go_wp2_with fail
                    go_ret
                    exact ⟨ret_bool (by first | exact ee.out.symm | (rw [ee.out]; simp; omega) | (simp; intros; omega)), Q2.out⟩
                · have ee := hid (show Ru.rruleR ⟨kind, roles, lo, hi, labels, boxes, zoom⟩ = false by unfold Ru.rruleR; rw [if_neg e6'.out, hall'.out]; simp only [Bool.true_and]; simp [e45.out, h0'.out, h1'.out, h2'.out, h3])
                  go_wp2_with fail
                  go_ret
                  exact ⟨ret_bool (by first | exact ee.out.symm | (rw [ee.out]; simp; omega) | (simp; intros; omega)), Q2.out⟩
              · have ee := hid (show Ru.rruleR ⟨kind, roles, lo, hi, labels, boxes, zoom⟩ = false by unfold Ru.rruleR; rw [if_neg e6'.out, hall'.out]; simp only [Bool.true_and]; simp [e45.out, h0'.out, h1'.out, h2])
                go_wp2_with fail
                go_ret
                exact ⟨ret_bool (by first | exact ee.out.symm | (rw [ee.out]; simp; omega) | (simp; intros; omega)), Q2.out⟩
        | false =>
          cases k5 : (kind == 5) with
          | true =>
            have e45 : Hid ((kind == 4 || kind == 5) = true) := hid (by rw [k4, k5]; rfl)
            go_wp2_with fail
            refine (rset_any roles _).mono ?_
            rintro e w1 ⟨rfl, hb1⟩
            have Q1 := hid (bthen Q0.out hb1)
            have B1 := hid (B0.out.ext hb1)
            obtain ⟨c0, c1, c2, c3, c4, c5, c6, cf, cz⟩ := B1.out.seven
            clear hb1
            cases h0 : Ru.small roles 255 with
            | false =>
              have ee := hid (show Ru.rruleR ⟨kind, roles, lo, hi, labels, boxes, zoom⟩ = false by unfold Ru.rruleR; rw [if_neg e6'.out, hall'.out]; simp only [Bool.true_and]; simp [e45.out, h0])
              go_wp2_with fail
              go_ret
              exact ⟨ret_bool (by first | exact ee.out.symm | (rw [ee.out]; simp; omega) | (simp; intros; omega)), Q1.out⟩
            | true =>
              have h0' := hid h0
              go_wp2_with fail
              refine (rset_any labels _).mono ?_
              rintro e w2 ⟨rfl, hb2⟩
              have Q2 := hid (bthen Q1.out hb2)
              have B2 := hid (B1.out.ext hb2)
              obtain ⟨c0, c1, c2, c3, c4, c5, c6, cf, cz⟩ := B2.out.seven
              clear hb2
              cases h1 : Ru.small labels 255 with
              | false =>
                have ee := hid (show Ru.rruleR ⟨kind, roles, lo, hi, labels, boxes, zoom⟩ = false by unfold Ru.rruleR; rw [if_neg e6'.out, hall'.out]; simp only [Bool.true_and]; simp [e45.out, h0'.out, h1])
                go_wp2_with fail
                go_ret
                exact ⟨ret_bool (by first | exact ee.out.symm | (rw [ee.out]; simp; omega) | (simp; intros; omega)), Q2.out⟩
              | true =>
                have h1' := hid h1
                by_cases h2 : 0 ≤ lo
                · have h2' := hid h2
                  by_cases h3 : lo ≤ hi
                  · have h3' := hid h3
                    by_cases h4 : hi ≤ 7
                    · have h4' := hid h4
                      by_cases h5 : 0 ≤ zoom
                      · have h5' := hid h5
                        by_cases h6 : zoom ≤ 16
                        · have ee := hid (show Ru.rruleR ⟨kind, roles, lo, hi, labels, boxes, zoom⟩ = true by unfold Ru.rruleR; rw [if_neg e6'.out, hall'.out]; simp only [Bool.true_and]; simp [e45.out, h0'.out, h1'.out, h2'.out, h3'.out, h4'.out, h5'.out, h6])
                          go_wp2_with fail
                          go_ret
                          exact ⟨ret_bool (by first | exact ee.out.symm | (rw [ee.out]; simp; omega) | (simp; intros; omega)), Q2.out⟩
                        · have ee := hid (show Ru.rruleR ⟨kind, roles, lo, hi, labels, boxes, zoom⟩ = false by unfold Ru.rruleR; rw [if_neg e6'.out, hall'.out]; simp only [Bool.true_and]; simp [e45.out, h0'.out, h1'.out, h2'.out, h3'.out, h4'.out, h5'.out, h6])
                          go_wp2_with fail
                          go_ret
                          exact ⟨ret_bool (by first | exact ee.out.symm | (rw [ee.out]; simp; omega) | (simp; intros; omega)), Q2.out⟩
                      · have ee := hid (show Ru.rruleR ⟨kind, roles, lo, hi, labels, boxes, zoom⟩ = false by unfold Ru.rruleR; rw [if_neg e6'.out, hall'.out]; simp only [Bool.true_and]; simp [e45.out, h0'.out, h1'.out, h2'.out, h3'.out, h4'.out, h5])
                        go_wp2_with fail
                        go_ret
                        exact ⟨ret_bool (by first | exact ee.out.symm | (rw [ee.out]; simp; omega) | (simp; intros; omega)), Q2.out⟩
                    · have ee := hid (show Ru.rruleR ⟨kind, roles, lo, hi, labels, boxes, zoom⟩ = false by unfold Ru.rruleR; rw [if_neg e6'.out, hall'.out]; simp only [Bool.true_and]; simp [e45.out, h0'.out, h1'.out, h2'.out, h3'.out, h4])
                      go_wp2_with fail
                      go_ret
                      exact ⟨ret_bool (by first | exact ee.out.symm | (rw [ee.out]; simp; omega) | (simp; intros; omega)), Q2.out⟩
                  · have ee := hid (show Ru.rruleR ⟨kind, roles, lo, hi, labels, boxes, zoom⟩ = false by unfold Ru.rruleR; rw [if_neg e6'.out, hall'.out]; simp only [Bool.true_and]; simp [e45.out, h0'.out, h1'.out, h2'.out, h3])
                    go_wp2_with fail
                    go_ret
                    exact ⟨ret_bool (by first | exact ee.out.symm | (rw [ee.out]; simp; omega) | (simp; intros; omega)), Q2.out⟩
                · have ee := hid (show Ru.rruleR ⟨kind, roles, lo, hi, labels, boxes, zoom⟩ = false by unfold Ru.rruleR; rw [if_neg e6'.out, hall'.out]; simp only [Bool.true_and]; simp [e45.out, h0'.out, h1'.out, h2])
                  go_wp2_with fail
                  go_ret
                  exact ⟨ret_bool (by first | exact ee.out.symm | (rw [ee.out]; simp; omega) | (simp; intros; omega)), Q2.out⟩
          | false =>
            have ee := hid (show Ru.rruleR ⟨kind, roles, lo, hi, labels, boxes, zoom⟩ = false by unfold Ru.rruleR; rw [if_neg e6'.out, hall'.out, k4, k5]; simp)
            go_wp2_with fail
            go_ret
            exact ⟨ret_bool ee.out.symm, Q0.out⟩

end Go.Proofs.Ytelphkhacadfaaa
