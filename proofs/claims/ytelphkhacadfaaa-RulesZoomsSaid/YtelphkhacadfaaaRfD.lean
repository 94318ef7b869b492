/- The walk of the document's own Zoom. -/
import Derived.Test.YtelphkhacadfaaaRfC
namespace Go.Proofs.Ytelphkhacadfaaa
open Go.RowKit Go.Sort

set_option maxRecDepth 100000 in
set_option maxHeartbeats 8000000 in
theorem rzoom_any {w : World} {v : Value} {l : List Ru.Rule} (role tier label x y : Int) (h : RSl w v l) (hn : l.length ≤ 140737488355328) :
    Calls Try.prog 18 #[v, .int .i64 role, .int .i64 tier, .int .i64 label, ptV x y] w fun e w' => e = .returned (.int .i64 (Ru.rzoomV l role tier label x y)) ∧ Below w.heap.size w w' := by
  unfold ptV
  have hz := balloc w (.cells #[.int .i64 x, .int .i64 y] 38)
  have Q0 := hid hz
  have P0 := hid (Blk.new w #[.int .i64 x, .int .i64 y] 38)
  have hall := hid (rall_any (h.ext hz) hn)
  have h' := hid h
  obtain ⟨vp, vc, rfl⟩ : ∃ p c, v = .slice p l.length c := by
    rcases h with ⟨rfl, rfl⟩ | ⟨g, off, cap, rfl, _⟩
    · exact ⟨_, _, rfl⟩
    · exact ⟨_, _, rfl⟩
  clear h hz
  go_enter Try.func18, Try.ntmps18
  go_wp2_with fail
  refine hall.out.mono ?_
  rintro e w1 ⟨rfl, hb1⟩
  have Q1 := hid (bthen Q0.out hb1)
  have P1 := hid (P0.out.ext hb1)
  clear hb1 hall
  cases hR : l.all Ru.rruleR with
  | false =>
    have ee := hid (show Ru.rzoomV l role tier label x y = 0 by unfold Ru.rzoomV; rw [hR]; rfl)
    go_wp2_with fail
    go_ret
    exact ⟨ret_int ee.out.symm, Q1.out⟩
  | true =>
    have hans := hid (show Ru.rzoomV l role tier label x y = l.foldl (Ru.rstepC role tier label x y) (l.foldl (Ru.rstepA role tier label x y) 0) by unfold Ru.rzoomV; rw [hR]; rfl)
    clear hR Q0 P0
    have hPR : Hid (0 < l.length → ∃ g off, vp = some ⟨g, off, none⟩ ∧ RRow w g off vc l) := by
      refine hid (fun hpos => ?_)
      rcases h'.out with ⟨_, hl⟩ | ⟨g, off, cap, hv, hr⟩
      · rw [hl] at hpos; simp at hpos
      · cases hv; exact ⟨g, off, rfl, hr⟩
    clear h'
    go_wp2_with fail
    go_loopw [11, 12] (fun zv u wr => ∃ (i : Nat) (z : Int), u = .int .i64 i ∧ zv = .int .i64 z ∧ i ≤ l.length ∧ Blk wr w.heap.size #[.int .i64 x, .int .i64 y] 38 ∧ Below w.heap.size w wr ∧ (l.take i).foldl (Ru.rstepA role tier label x y) 0 = z) (fun _ u _ => l.length - (intOf u).toNat)
    case atStart => exact ⟨0, 0, by go_num, by go_num, Nat.zero_le _, P1.out, Q1.out, rfl⟩
    case round =>
      obtain ⟨i, z, rfl, rfl, hle, hP, hQ, hfo⟩ := hrel
      have P0 := hid hP
      have Q0 := hid hQ
      have hfo' := hid hfo
      clear hP hQ hfo
      by_cases hlt : i < l.length
      · obtain ⟨g, off, rfl, hr⟩ := hPR.out (by omega)
        have hr' := hid hr
        clear hr
        obtain ⟨rv, hs⟩ := hr'.out.at Q0.out hlt
        have hat := hid hs.at_
        have hfold := hid (fun (c : Int) (h : Ru.rstepA role tier label x y z l[i] = c) => (foldl_take hlt hfo'.out).trans h)
        have hF2 := hid (fun w1 (h1 : Below wr.heap.size wr w1) => rfor2_any l[i] role tier label x y (hs.box.ext h1) hs.few)
        obtain ⟨rp, rc, rfl⟩ := hs.box.shape
        generalize l[i].boxes.length = rn at *
        generalize l[i] = r at *
        clear hs
        go_upto_region 7 with (fail)
        obtain ⟨o, ho⟩ : ∃ o, off + i * 7 = o := ⟨_, rfl⟩
        rw [ho] at hat
        have k0 : ∀ d os, (grow (redrawn wr d) os).cell? ⟨g, o, none⟩ = some (.int .i64 r.kind) := cell_regrown (hat.out 0 _ rfl)
        have k1 : ∀ d os, (grow (redrawn wr d) os).cell? ⟨g, o + 1, none⟩ = some (.int .i64 r.roles) := cell_regrown (hat.out 1 _ rfl)
        have k2 : ∀ d os, (grow (redrawn wr d) os).cell? ⟨g, o + 1 + 1, none⟩ = some (.int .i64 r.lo) := cell_regrown (hat.out 2 _ rfl)
        have k3 : ∀ d os, (grow (redrawn wr d) os).cell? ⟨g, o + 1 + 1 + 1, none⟩ = some (.int .i64 r.hi) := cell_regrown (hat.out 3 _ rfl)
        have k4 : ∀ d os, (grow (redrawn wr d) os).cell? ⟨g, o + 1 + 1 + 1 + 1, none⟩ = some (.int .i64 r.labels) := cell_regrown (hat.out 4 _ rfl)
        have k5 : ∀ d os, (grow (redrawn wr d) os).cell? ⟨g, o + 1 + 1 + 1 + 1 + 1, none⟩ = some (.slice rp rn rc) := cell_regrown (hat.out 5 _ rfl)
        have k6 : ∀ d os, (grow (redrawn wr d) os).cell? ⟨g, o + 1 + 1 + 1 + 1 + 1 + 1, none⟩ = some (.int .i64 r.zoom) := cell_regrown (hat.out 6 _ rfl)
        have k6' : ∀ d os, (grow (redrawn wr d) os).cell? ⟨g, o + 6, none⟩ = some (.int .i64 r.zoom) := cell_regrown (hat.out 6 _ rfl)
        have d0 : ∀ d os, (grow (redrawn wr d) os).cell? ⟨w.heap.size, 0, none⟩ = some (.int .i64 x) := cell_regrown (P0.out.cell 0 rfl)
        have d1 : ∀ d os, (grow (redrawn wr d) os).cell? ⟨w.heap.size, 1, none⟩ = some (.int .i64 y) := cell_regrown (P0.out.cell 1 rfl)
        have hg2 : ∀ d os, g < (grow (redrawn wr d) os).heap.size := fun d os => Nat.lt_of_lt_of_le (Nat.lt_of_lt_of_le hr'.out.lt Q0.out.size) (below_regrown wr d os).size
        have cF : ∀ d os, Calls Try.prog 36 #[.agg #[.int .i64 r.kind, .int .i64 r.roles, .int .i64 r.lo, .int .i64 r.hi, .int .i64 r.labels, .slice rp rn rc, .int .i64 r.zoom], .int .i64 role, .int .i64 tier, .int .i64 label, .agg #[.int .i64 x, .int .i64 y]] (grow (redrawn wr d) os) fun e w'' => e = .returned (.bool (Ru.rfor2 r role tier label x y)) ∧ ∃ p : Regrown, w'' = grow (redrawn wr p.d) p.os :=
          fun d os => Calls.regrown_of (hF2.out _ (below_regrown wr d os))
        have q0 : wr.cell? ⟨g, o, none⟩ = some (.int .i64 r.kind) := hat.out 0 _ rfl
        have q6 : wr.cell? ⟨g, o + 6, none⟩ = some (.int .i64 r.zoom) := hat.out 6 _ rfl
        cases kk : (r.kind == 4) with
        | false =>
          clear k0 k1 k2 k3 k4 k5 k6 d0 d1 cF hg2 k6'
          go_quiet (fail)
          have Q7 := hid (bdrewN Q0.out nq)
          have P7 := hid (P0.out.drewN nq)
          clear q0 q6
          generalize wr.drewN nq = w7 at *
          have hy := hid (hfold.out _ (show Ru.rstepA role tier label x y z r = z by unfold Ru.rstepA; simp [kk]))
          go_wp2_with fail
          go_roundw
          case rel => exact ⟨i + 1, z, by go_num, rfl, by omega, P7.out, Q7.out, hy.out⟩
          case measure => simp [intOf]; omega
        | true =>
          have kk' := hid kk
          by_cases hc : z < r.zoom
          · have hc' := hid hc
            refine wp_region_quiet_below (by kernel_rfl) (by kernel_rfl) ?_
            quiet_step (fail)
            quiet_step (fail)
            quiet_step (fail)
            quiet_step (fail)
            quiet_step (fail)
            quiet_step (fail)
            quiet_step (fail)
            quiet_step (fail)
            quiet_step (fail)
            quiet_step (fail)
            quiet_step (fail)
            quiet_step (fail)
            quiet_step (fail)
            quiet_step (fail)
            quiet_step (fail)
            quiet_step (fail)
            quiet_step (fail)
            quiet_step (fail)
            quiet_step (fail)
            quiet_step (fail)
            quiet_step (fail)
            quiet_step (fail)
            quiet_step (fail)
            quiet_step (fail)
            quiet_step (exact cF _ _)
            quiet_step (fail)
            refine wpQuiet_nil ?_
            intro _ hw'
            obtain ⟨pp, hw''⟩ := hw'
            subst hw''
            clear k0 k1 k2 k3 k4 k5 k6 d0 d1 cF hg2 k6' q0 q6
            have Q7 := hid (bthen Q0.out (below_regrown wr pp.d pp.os))
            have P7 := hid (P0.out.ext (below_regrown wr pp.d pp.os))
            have z7 : (grow (redrawn wr pp.d) pp.os).cell? ⟨g, o + 6, none⟩ = some (.int .i64 r.zoom) := cell_regrown (hat.out 6 _ rfl) pp.d pp.os
            generalize grow (redrawn wr pp.d) pp.os = w7 at *
            cases hF : Ru.rfor2 r role tier label x y with
            | false =>
              have hy := hid (hfold.out _ (show Ru.rstepA role tier label x y z r = z by unfold Ru.rstepA; simp [hF]))
              go_wp2_with fail
              go_roundw
              case rel => exact ⟨i + 1, z, by go_num, rfl, by omega, P7.out, Q7.out, hy.out⟩
              case measure => simp [intOf]; omega
            | true =>
              have hy := hid (hfold.out _ (show Ru.rstepA role tier label x y z r = r.zoom by unfold Ru.rstepA; simp [kk'.out, hc'.out, hF]))
              go_wp2_with fail
              go_roundw
              case rel => exact ⟨i + 1, r.zoom, by go_num, rfl, by omega, P7.out, Q7.out, hy.out⟩
              case measure => simp [intOf]; omega
          · have hcd : decide (z < r.zoom) = false := decide_eq_false hc
            clear k0 k1 k2 k3 k4 k5 k6 d0 d1 cF hg2 k6'
            go_quiet (fail)
            have Q7 := hid (bdrewN Q0.out nq)
            have P7 := hid (P0.out.drewN nq)
            clear q0 q6
            generalize wr.drewN nq = w7 at *
            have hy := hid (hfold.out _ (show Ru.rstepA role tier label x y z r = z by unfold Ru.rstepA; simp [hc]))
            go_wp2_with fail
            go_roundw
            case rel => exact ⟨i + 1, z, by go_num, rfl, by omega, P7.out, Q7.out, hy.out⟩
            case measure => simp [intOf]; omega
      · obtain rfl : i = l.length := by omega
        rw [List.take_length] at hfo'
        rw [hfo'.out] at hans
        clear hfo'
        generalize z = zA at *
        go_wp2_with fail
        go_loopw [11, 13] (fun zv u wr => ∃ (i : Nat) (z : Int), u = .int .i64 i ∧ zv = .int .i64 z ∧ i ≤ l.length ∧ Blk wr w.heap.size #[.int .i64 x, .int .i64 y] 38 ∧ Below w.heap.size w wr ∧ (l.take i).foldl (Ru.rstepC role tier label x y) zA = z) (fun _ u _ => l.length - (intOf u).toNat)
        case atStart => exact ⟨0, zA, by go_num, by go_num, Nat.zero_le _, P0.out, Q0.out, rfl⟩
        case round =>
          obtain ⟨i, z, rfl, rfl, hle, hP, hQ, hfo⟩ := hrel
          have P0 := hid hP
          have Q0 := hid hQ
          have hfo' := hid hfo
          clear hP hQ hfo
          by_cases hlt : i < l.length
          · obtain ⟨g, off, rfl, hr⟩ := hPR.out (by omega)
            have hr' := hid hr
            clear hr
            obtain ⟨rv, hs⟩ := hr'.out.at Q0.out hlt
            have hat := hid hs.at_
            have hfold := hid (fun (c : Int) (h : Ru.rstepC role tier label x y z l[i] = c) => (foldl_take hlt hfo'.out).trans h)
            have hF2 := hid (fun w1 (h1 : Below wr.heap.size wr w1) => rfor2_any l[i] role tier label x y (hs.box.ext h1) hs.few)
            obtain ⟨rp, rc, rfl⟩ := hs.box.shape
            generalize l[i].boxes.length = rn at *
            generalize l[i] = r at *
            clear hs
            go_upto_region 12 with (fail)
            obtain ⟨o, ho⟩ : ∃ o, off + i * 7 = o := ⟨_, rfl⟩
            rw [ho] at hat
            have k0 : ∀ d os, (grow (redrawn wr d) os).cell? ⟨g, o, none⟩ = some (.int .i64 r.kind) := cell_regrown (hat.out 0 _ rfl)
            have k1 : ∀ d os, (grow (redrawn wr d) os).cell? ⟨g, o + 1, none⟩ = some (.int .i64 r.roles) := cell_regrown (hat.out 1 _ rfl)
            have k2 : ∀ d os, (grow (redrawn wr d) os).cell? ⟨g, o + 1 + 1, none⟩ = some (.int .i64 r.lo) := cell_regrown (hat.out 2 _ rfl)
            have k3 : ∀ d os, (grow (redrawn wr d) os).cell? ⟨g, o + 1 + 1 + 1, none⟩ = some (.int .i64 r.hi) := cell_regrown (hat.out 3 _ rfl)
            have k4 : ∀ d os, (grow (redrawn wr d) os).cell? ⟨g, o + 1 + 1 + 1 + 1, none⟩ = some (.int .i64 r.labels) := cell_regrown (hat.out 4 _ rfl)
            have k5 : ∀ d os, (grow (redrawn wr d) os).cell? ⟨g, o + 1 + 1 + 1 + 1 + 1, none⟩ = some (.slice rp rn rc) := cell_regrown (hat.out 5 _ rfl)
            have k6 : ∀ d os, (grow (redrawn wr d) os).cell? ⟨g, o + 1 + 1 + 1 + 1 + 1 + 1, none⟩ = some (.int .i64 r.zoom) := cell_regrown (hat.out 6 _ rfl)
            have k6' : ∀ d os, (grow (redrawn wr d) os).cell? ⟨g, o + 6, none⟩ = some (.int .i64 r.zoom) := cell_regrown (hat.out 6 _ rfl)
            have d0 : ∀ d os, (grow (redrawn wr d) os).cell? ⟨w.heap.size, 0, none⟩ = some (.int .i64 x) := cell_regrown (P0.out.cell 0 rfl)
            have d1 : ∀ d os, (grow (redrawn wr d) os).cell? ⟨w.heap.size, 1, none⟩ = some (.int .i64 y) := cell_regrown (P0.out.cell 1 rfl)
            have hg2 : ∀ d os, g < (grow (redrawn wr d) os).heap.size := fun d os => Nat.lt_of_lt_of_le (Nat.lt_of_lt_of_le hr'.out.lt Q0.out.size) (below_regrown wr d os).size
            have cF : ∀ d os, Calls Try.prog 36 #[.agg #[.int .i64 r.kind, .int .i64 r.roles, .int .i64 r.lo, .int .i64 r.hi, .int .i64 r.labels, .slice rp rn rc, .int .i64 r.zoom], .int .i64 role, .int .i64 tier, .int .i64 label, .agg #[.int .i64 x, .int .i64 y]] (grow (redrawn wr d) os) fun e w'' => e = .returned (.bool (Ru.rfor2 r role tier label x y)) ∧ ∃ p : Regrown, w'' = grow (redrawn wr p.d) p.os :=
              fun d os => Calls.regrown_of (hF2.out _ (below_regrown wr d os))
            have q0 : wr.cell? ⟨g, o, none⟩ = some (.int .i64 r.kind) := hat.out 0 _ rfl
            have q6 : wr.cell? ⟨g, o + 6, none⟩ = some (.int .i64 r.zoom) := hat.out 6 _ rfl
            cases kk : (r.kind == 5) with
            | false =>
              clear k0 k1 k2 k3 k4 k5 k6 d0 d1 cF hg2 k6'
              go_quiet (fail)
              have Q7 := hid (bdrewN Q0.out nq)
              have P7 := hid (P0.out.drewN nq)
              clear q0 q6
              generalize wr.drewN nq = w7 at *
              have hy := hid (hfold.out _ (show Ru.rstepC role tier label x y z r = z by unfold Ru.rstepC; simp [kk]))
              go_wp2_with fail
              go_roundw
              case rel => exact ⟨i + 1, z, by go_num, rfl, by omega, P7.out, Q7.out, hy.out⟩
              case measure => simp [intOf]; omega
            | true =>
              have kk' := hid kk
              by_cases hc : r.zoom < z
              · have hc' := hid hc
                refine wp_region_quiet_below (by kernel_rfl) (by kernel_rfl) ?_
                quiet_step (fail)
                quiet_step (fail)
                quiet_step (fail)
                quiet_step (fail)
                quiet_step (fail)
                quiet_step (fail)
                quiet_step (fail)
                quiet_step (fail)
                quiet_step (fail)
                quiet_step (fail)
                quiet_step (fail)
                quiet_step (fail)
                quiet_step (fail)
                quiet_step (fail)
                quiet_step (fail)
                quiet_step (fail)
                quiet_step (fail)
                quiet_step (fail)
                quiet_step (fail)
                quiet_step (fail)
                quiet_step (fail)
                quiet_step (fail)
                quiet_step (fail)
                quiet_step (fail)
                quiet_step (exact cF _ _)
                quiet_step (fail)
                refine wpQuiet_nil ?_
                intro _ hw'
                obtain ⟨pp, hw''⟩ := hw'
                subst hw''
                clear k0 k1 k2 k3 k4 k5 k6 d0 d1 cF hg2 k6' q0 q6
                have Q7 := hid (bthen Q0.out (below_regrown wr pp.d pp.os))
                have P7 := hid (P0.out.ext (below_regrown wr pp.d pp.os))
                have z7 : (grow (redrawn wr pp.d) pp.os).cell? ⟨g, o + 6, none⟩ = some (.int .i64 r.zoom) := cell_regrown (hat.out 6 _ rfl) pp.d pp.os
                generalize grow (redrawn wr pp.d) pp.os = w7 at *
                cases hF : Ru.rfor2 r role tier label x y with
                | false =>
                  have hy := hid (hfold.out _ (show Ru.rstepC role tier label x y z r = z by unfold Ru.rstepC; simp [hF]))
                  go_wp2_with fail
                  go_roundw
                  case rel => exact ⟨i + 1, z, by go_num, rfl, by omega, P7.out, Q7.out, hy.out⟩
                  case measure => simp [intOf]; omega
                | true =>
                  have hy := hid (hfold.out _ (show Ru.rstepC role tier label x y z r = r.zoom by unfold Ru.rstepC; simp [kk'.out, hc'.out, hF]))
                  go_wp2_with fail
                  go_roundw
                  case rel => exact ⟨i + 1, r.zoom, by go_num, rfl, by omega, P7.out, Q7.out, hy.out⟩
                  case measure => simp [intOf]; omega
              · have hcd : decide (r.zoom < z) = false := decide_eq_false hc
                clear k0 k1 k2 k3 k4 k5 k6 d0 d1 cF hg2 k6'
                go_quiet (fail)
                have Q7 := hid (bdrewN Q0.out nq)
                have P7 := hid (P0.out.drewN nq)
                clear q0 q6
                generalize wr.drewN nq = w7 at *
                have hy := hid (hfold.out _ (show Ru.rstepC role tier label x y z r = z by unfold Ru.rstepC; simp [hc]))
                go_wp2_with fail
                go_roundw
                case rel => exact ⟨i + 1, z, by go_num, rfl, by omega, P7.out, Q7.out, hy.out⟩
                case measure => simp [intOf]; omega
          · obtain rfl : i = l.length := by omega
            rw [List.take_length] at hfo'
            rw [hfo'.out] at hans
            go_wp2_with fail
            go_ret
            exact ⟨ret_int hans.out.symm, Q0.out⟩

end Go.Proofs.Ytelphkhacadfaaa
