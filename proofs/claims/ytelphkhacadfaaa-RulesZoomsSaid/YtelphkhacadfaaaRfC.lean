/- The walks of the document's own For2, Zoom, Cloaks. -/
import Derived.Test.YtelphkhacadfaaaRfB
import Derived.Lib.QuietBelow
namespace Go.Proofs.Ytelphkhacadfaaa
open Go.RowKit Go.Sort

set_option maxRecDepth 100000 in
set_option maxHeartbeats 4000000 in
theorem rfor2_any {w : World} {v : Value} (r : Ru.Rule) (role tier label x y : Int) (h : BRow w v r.boxes) (hn : r.boxes.length ≤ 140737488355328) :
    Calls Try.prog 36 #[.agg (ruleArr r v), .int .i64 role, .int .i64 tier, .int .i64 label, ptV x y] w fun e w' => e = .returned (.bool (Ru.rfor2 r role tier label x y)) ∧ Below w.heap.size w w' := by
  unfold ptV
  obtain ⟨vp, vc, rfl⟩ := h.shape
  have hPR : Hid (0 < r.boxes.length → ∃ g off, vp = some ⟨g, off, none⟩ ∧ SRow w g off vc 4 boxArr r.boxes) := by
    refine hid (fun hpos => ?_)
    rcases brow_of h with ⟨_, _, _, hb⟩ | ⟨g, off, cap, hv, hr⟩
    · rw [hb] at hpos; simp at hpos
    · cases hv; exact ⟨g, off, rfl, hr⟩
  have za := balloc w (.cells (ruleArr r (.slice vp r.boxes.length vc)) 36)
  have zb := balloc (w.alloc (.cells (ruleArr r (.slice vp r.boxes.length vc)) 36)) (.cells #[.int .i64 x, .int .i64 y] 38)
  have Q0 := hid (bthen za zb)
  have B0 := hid ((Blk.new w (ruleArr r (.slice vp r.boxes.length vc)) 36).ext zb)
  have P0 := hid (Blk.newAt (w := w.alloc (.cells (ruleArr r (.slice vp r.boxes.length vc)) 36)) (k := w.heap.size + 1) (by simp) #[.int .i64 x, .int .i64 y] 38)
  have hF := hid (fun w1 (h1 : Below w.heap.size w w1) => rfor_any r role tier label (h.ext h1) hn)
  clear h za zb
  go_enter Try.func36, Try.ntmps36
  go_wp2_with (first | (refine wpList_load_blk rfl 36 (.tmp 5) rfl 12 rfl w.heap.size 36 (ruleArr r (.slice vp r.boxes.length vc)) (B0.out) rfl Try.underlying36 rfl (by kernel_rfl) ?_))
  refine (hF.out _ Q0.out).mono ?_
  rintro e w1 ⟨rfl, hb1⟩
  have Q1 := hid (bthen Q0.out hb1)
  have B1 := hid (B0.out.ext hb1)
  have P1 := hid (P0.out.ext hb1)
  obtain ⟨p0, p1, pf, pz⟩ := P1.out.two
  clear hb1 hF
  cases hR : Ru.rforR r role tier label with
  | false =>
    have ee := hid (show Ru.rfor2 r role tier label x y = false by unfold Ru.rfor2; rw [hR]; simp)
    go_wp2_with fail
    go_ret
    exact ⟨ret_bool ee.out.symm, Q1.out⟩
  | true =>
    have hR' := hid hR
    clear hR
    go_wp2_with fail
    refine (rfits_any x y _).mono ?_
    rintro e w2 ⟨rfl, hb2⟩
    have Q2 := hid (bthen Q1.out hb2)
    have B2 := hid (B1.out.ext hb2)
    have P2 := hid (P1.out.ext hb2)
    clear hb2 p0 p1 pf pz
    cases hT : Ru.fits x y with
    | false =>
      have ee := hid (show Ru.rfor2 r role tier label x y = false by unfold Ru.rfor2; rw [hT]; simp)
      go_wp2_with fail
      go_ret
      exact ⟨ret_bool ee.out.symm, Q2.out⟩
    | true =>
      have hans := hid (show Ru.rfor2 r role tier label x y = r.boxes.any (fun b => Ru.boxHas b x y) by unfold Ru.rfor2; rw [hR'.out, hT]; simp)
      clear hT hR' B0 P0 Q0 B1 P1 Q1
      go_wp2_with fail
      go_loopw [11] (fun u wr => ∃ i : Nat, u = .int .i64 i ∧ i ≤ r.boxes.length ∧ Blk wr w.heap.size (ruleArr r (.slice vp r.boxes.length vc)) 36 ∧ Blk wr (w.heap.size + 1) #[.int .i64 x, .int .i64 y] 38 ∧ Below w.heap.size w wr ∧ (r.boxes.take i).any (fun b => Ru.boxHas b x y) = false) (fun u _ => r.boxes.length - (intOf u).toNat)
      case atStart => exact ⟨0, by go_num, Nat.zero_le _, B2.out, P2.out, Q2.out, rfl⟩
      case round =>
        obtain ⟨i, rfl, hle, hB, hP, hQ, hany⟩ := hrel
        have B0 := hid hB
        have P0 := hid hP
        have Q0 := hid hQ
        have hany' := hid hany
        clear hB hP hQ hany
        have c5 : wr.cell? ⟨w.heap.size, 5, none⟩ = some (.slice vp r.boxes.length vc) := B0.out.cell 5 rfl
        by_cases hlt : i < r.boxes.length
        · obtain ⟨g, off, rfl, hg⟩ := hPR.out (by omega)
          have hs := hid ((hg.ext Q0.out).get i hlt)
          have hyes := hid (fun h => any_yes (p := fun b => Ru.boxHas b x y) hlt h)
          have hno := hid (fun h => any_take hlt hany'.out h)
          have hglt := hid ((hg.ext Q0.out).lt)
          generalize r.boxes[i] = b at *
          clear hg
          go_upto_region 6 with (fail)
          have d5 : ∀ d os, (grow (redrawn wr d) os).cell? ⟨w.heap.size, 5, none⟩ = some (.slice (some ⟨g, off, none⟩) r.boxes.length vc) := cell_regrown c5
          have d0 : ∀ d os, (grow (redrawn wr d) os).cell? ⟨w.heap.size + 1, 0, none⟩ = some (.int .i64 x) := cell_regrown (P0.out.cell 0 rfl)
          have d1 : ∀ d os, (grow (redrawn wr d) os).cell? ⟨w.heap.size + 1, 1, none⟩ = some (.int .i64 y) := cell_regrown (P0.out.cell 1 rfl)
          have k0 : ∀ d os, (grow (redrawn wr d) os).cell? ⟨g, off + i * 4, none⟩ = some (.int .i64 b.x0) := cell_regrown (hs.out 0 _ rfl)
          have k1 : ∀ d os, (grow (redrawn wr d) os).cell? ⟨g, off + i * 4 + 1, none⟩ = some (.int .i64 b.y0) := cell_regrown (hs.out 1 _ rfl)
          have k2 : ∀ d os, (grow (redrawn wr d) os).cell? ⟨g, off + i * 4 + 1 + 1, none⟩ = some (.int .i64 b.x1) := cell_regrown (hs.out 2 _ rfl)
          have k3 : ∀ d os, (grow (redrawn wr d) os).cell? ⟨g, off + i * 4 + 1 + 1 + 1, none⟩ = some (.int .i64 b.y1) := cell_regrown (hs.out 3 _ rfl)
          have hg2 : ∀ d os, g < (grow (redrawn wr d) os).heap.size := fun d os => Nat.lt_of_lt_of_le hglt.out (below_regrown wr d os).size
          have cH : ∀ d os, Calls Try.prog 53 #[.agg #[.int .i64 b.x0, .int .i64 b.y0, .int .i64 b.x1, .int .i64 b.y1], .agg #[.int .i64 x, .int .i64 y]] (grow (redrawn wr d) os) fun e w'' => e = .returned (.bool (Ru.boxHas b x y)) ∧ ∃ p : Regrown, w'' = grow (redrawn wr p.d) p.os :=
            fun d os => Calls.regrown_of (rhasB_any b x y _)
          refine wp_region_quiet_below (by kernel_rfl) (by kernel_rfl) ?_
          quiet_step (fail)
          quiet_step (fail)
          quiet_step (fail)
          quiet_step (fail)
          quiet_step (fail)
          quiet_step (fail)
          quiet_step (exact cH _ _)
          refine wpQuiet_nil ?_
          intro _ hw'
          obtain ⟨pp, hw''⟩ := hw'
          subst hw''
          clear d5 d0 d1 k0 k1 k2 k3 hg2 cH c5
          have Q7 := hid (bthen Q0.out (below_regrown wr pp.d pp.os))
          have B7 := hid (B0.out.ext (below_regrown wr pp.d pp.os))
          have P7 := hid (P0.out.ext (below_regrown wr pp.d pp.os))
          generalize grow (redrawn wr pp.d) pp.os = w7 at *
          generalize Ru.boxHas b x y = rr at *
          cases rr with
          | true =>
            have hy := hid (hyes.out rfl)
            go_wp2_with fail
            go_ret
            exact ⟨ret_bool (by rw [hans.out, hy.out]), Q7.out⟩
          | false =>
            have hy := hid (hno.out rfl)
            go_wp2_with fail
            go_roundw
            case rel => exact ⟨i + 1, by go_num, by omega, B7.out, P7.out, Q7.out, hy.out⟩
            case measure => simp [intOf]; omega
        · obtain rfl : i = r.boxes.length := by omega
          have hf := hid (show r.boxes.any (fun b => Ru.boxHas b x y) = false by have h := hany'.out; rwa [List.take_of_length_le (Nat.le_refl _)] at h)
          go_wp2_with fail
          go_ret
          exact ⟨ret_bool (by rw [hans.out, hf.out]), Q0.out⟩

set_option maxHeartbeats 2000000 in
theorem rcloaks_any {w : World} {v : Value} {l : List Ru.Rule} (role : Int) (h : RSl w v l) (hn : l.length ≤ 140737488355328) (hrng : ∀ r ∈ l, -9223372036854775808 ≤ r.roles ∧ r.roles ≤ 9223372036854775807) :
    Calls Try.prog 20 #[v, .int .i64 role] w fun e w' => e = .returned (.bool (Ru.rcloaksV l role)) ∧ Below w.heap.size w w' := by
  have hall := hid (fun w1 (h1 : Below w.heap.size w w1) => rall_any (h.ext h1) hn)
  have hrng' := hid hrng
  clear hrng
  rcases h with ⟨rfl, rfl⟩ | ⟨g, off, cap, rfl, hr⟩
  · go_enter Try.func20, Try.ntmps20
    go_wp2_with fail
    go_loop [5] (fun u => u = .int .i64 0) (fun _ => 0)
    case atStart => rfl
    case round =>
      subst hrel
      go_wp2_with fail
      go_ret
      exact ⟨rfl, Below.refl _ _⟩
  · have hr' := hid hr
    clear hr
    go_enter Try.func20, Try.ntmps20
    go_wp2_with fail
    go_loopw [5] (fun u wr => ∃ i : Nat, u = .int .i64 i ∧ i ≤ l.length ∧ Below w.heap.size w wr ∧ (l.take i).any (fun r => r.kind == 6 && Ru.small role 7 && Ru.inSum r.roles role) = false) (fun u _ => l.length - (intOf u).toNat)
    case atStart => exact ⟨0, rfl, Nat.zero_le _, Below.refl _ _, rfl⟩
    case round =>
      obtain ⟨i, rfl, hle, hQ, hany⟩ := hrel
      have Q0 := hid hQ
      have hany' := hid hany
      clear hQ hany
      by_cases hlt : i < l.length
      · obtain ⟨z, hs⟩ := hr'.out.at Q0.out hlt
        have hx' := hid hs
        have hyes := hid (fun h => any_yes (p := fun r => r.kind == 6 && Ru.small role 7 && Ru.inSum r.roles role) hlt h)
        have hno := hid (fun h => any_take (p := fun r => r.kind == 6 && Ru.small role 7 && Ru.inSum r.roles role) hlt hany'.out h)
        have hrg := hid (hrng'.out _ (List.getElem_mem hlt))
        generalize l[i] = r at *
        have q0 : wr.cell? ⟨g, off + i * 7, none⟩ = some (.int .i64 r.kind) := hs.at_ 0 _ rfl
        have hat := hid hs.at_
        have hlt0 := hid hlt
        clear hs
        cases k6 : (r.kind == 6) with
        | false =>
          have hy := hid (hno.out (by simp [k6]))
          go_wp2_with fail
          go_roundw
          case rel => exact ⟨i + 1, by go_num, by omega, Q0.out, hy.out⟩
          case measure => simp [intOf]; omega
        | true =>
          have k6' := hid k6
          go_upto_region 4 with (fail)
          go_wp2_with fail
          refine (rnumber_any role _).mono ?_
          rintro e w1 ⟨rfl, hb1⟩
          have hbb := hid hb1
          have Q1 := hid (bthen Q0.out hb1)
          have q1 : w1.cell? ⟨g, off + i * 7 + 1, none⟩ = some (.int .i64 r.roles) := (World.cell?_of_block (w := wr) (a := ⟨g, off + i * 7 + 1, none⟩) (hbb.out.block g (Nat.lt_of_lt_of_le hr'.out.lt Q0.out.size))).trans (hat.out 1 _ rfl)
          clear hb1
          cases hsm : Ru.small role 7 with
          | false =>
            have hy := hid (hno.out (by simp [hsm]))
            go_wp2_with fail
            go_roundw
            case rel => exact ⟨i + 1, by go_num, by omega, Q1.out, hy.out⟩
            case measure => simp [intOf]; omega
          | true =>
            have hsm' := hid hsm
            have hro := hid (small_iff.1 hsm)
            clear hsm
            go_wp2_with fail
            refine (rin_any r.roles role hrg.out hro.out _).mono ?_
            rintro e w2 ⟨rfl, hb2⟩
            have Q2 := hid (bthen Q1.out hb2)
            clear hb2
            cases hin : Ru.inSum r.roles role with
            | false =>
              have hy := hid (hno.out (by simp [hin]))
              go_wp2_with fail
              go_roundw
              case rel => exact ⟨i + 1, by go_num, by omega, Q2.out, hy.out⟩
              case measure => simp [intOf]; omega
            | true =>
              have hy := hid (hyes.out (by simp [hin, k6'.out, hsm'.out]))
              go_wp2_with fail
              refine (hall.out _ Q2.out).mono ?_
              rintro e w3 ⟨rfl, hb3⟩
              have Q3 := hid (bthen Q2.out hb3)
              clear hb3
              go_wp2_with fail
              go_ret
              exact ⟨ret_bool (by unfold Ru.rcloaksV; rw [hy.out]; simp), Q3.out⟩
      · obtain rfl : i = l.length := by omega
        have hf := hid (show l.any (fun r => r.kind == 6 && Ru.small role 7 && Ru.inSum r.roles role) = false by have h := hany'.out; rwa [List.take_of_length_le (Nat.le_refl _)] at h)
        go_wp2_with fail
        go_ret
        exact ⟨ret_bool (by unfold Ru.rcloaksV; rw [hf.out]; simp), Q0.out⟩

end Go.Proofs.Ytelphkhacadfaaa
