/- The walk of RulesZooms. -/
import Derived.Test.YtelphkhacadfaaaRuS
import Derived.Test.YtelphkhacadfaaaRfD
namespace Go.Proofs.Ytelphkhacadfaaa
open Go.RowKit Go.Sort Go.Maps

set_option maxRecDepth 100000 in
set_option maxHeartbeats 16000000 in
theorem zooms_walk {w : World} {v : Value} {l : List Ru.Rule} (role tier label x y : Int) (h : RSl w v l) (hn : l.length ≤ 140737488355328) (hrng : ∀ r ∈ l, -9223372036854775808 ≤ r.roles ∧ r.roles ≤ 9223372036854775807) :
    Calls Try.prog 5 #[v, .agg (lwArr role tier label x y)] w fun e w' => e = .returned (.bool true) ∧ Below w.heap.size w w' := by
  obtain ⟨vp, vc, rfl⟩ : ∃ p c, v = .slice p l.length c := by
    rcases h with ⟨rfl, rfl⟩ | ⟨g, off, cap, rfl, _⟩
    · exact ⟨_, _, rfl⟩
    · exact ⟨_, _, rfl⟩
  have hPR : Hid (0 < l.length → ∃ g off, vp = some ⟨g, off, none⟩ ∧ RRow w g off vc l) := by
    refine hid (fun hpos => ?_)
    rcases h with ⟨_, hl⟩ | ⟨g, off, cap, hv, hr⟩
    · rw [hl] at hpos; simp at hpos
    · cases hv; exact ⟨g, off, rfl, hr⟩
  have hz := balloc w (.cells (lwArr role tier label x y) 40)
  have R0 := hid h
  have Q0 := hid hz
  have B0 := hid (Blk.new w (lwArr role tier label x y) 40)
  have hrng' := hid hrng
  clear h hz hrng
  have hfin' : Hid (∀ w1 : World, Below w.heap.size w w1 → Calls Try.prog 7 #[] w1 fun e w' => e = .returned (.bool true) ∧ Below w.heap.size w w') := hid (fun w1 h1 => (known_any _).mono fun e w' ⟨h2, h3⟩ => ⟨h2, h1.trans (h3.mono h1.size)⟩)
  by_cases hL : 100 < l.length
  · go_enter Try.func5, Try.ntmps5
    go_wp2_with fail
    refine (hfin'.out _ Q0.out).mono ?_
    rintro e w2 ⟨rfl, hb2⟩
    have Q2 := hid hb2
    clear hb2
    go_wp2_with fail
    go_ret
    exact ⟨rfl, Q2.out⟩
  have hd1 : decide ((100 : Int) < l.length) = false := decide_eq_false (by omega)
  have hL' : l.length ≤ 100 := by omega
  clear hL
  obtain ⟨okV, hokV0⟩ : ∃ okV : Bool, (∀ hpos : 0 < l.length, okV = Ru.forR l[0] role tier label) ∧ (l.length = 0 → okV = false) := by
    by_cases hpos : 0 < l.length
    · exact ⟨Ru.forR l[0] role tier label, fun _ => rfl, fun h => by omega⟩
    · exact ⟨false, fun h => absurd h hpos, fun _ => rfl⟩
  have hokV := hid hokV0
  clear hokV0
  go_enter Try.func5, Try.ntmps5
  go_upto_region 3 with (fail)
  go_cut [5] (fun s0 wx => s0 = .bool okV ∧ Blk wx w.heap.size (lwArr role tier label x y) 40 ∧ Below w.heap.size w wx)
  case first =>
    by_cases hpos : 0 < l.length
    · obtain ⟨g, off, rfl, hr⟩ := hPR.out hpos
      obtain ⟨rv, hs⟩ := hr.at Q0.out hpos
      have hat := hid (show (w.alloc (.cells (lwArr role tier label x y) 40)).rangeAt g off (ruleArr l[0] rv).toList by have h := hs.at_; rwa [Nat.zero_mul, Nat.add_zero] at h)
      have hglt := hid (Nat.lt_of_lt_of_le hr.lt Q0.out.size)
      have hF2 := hid (fun w1 (h1 : Below (w.alloc (.cells (lwArr role tier label x y) 40)).heap.size (w.alloc (.cells (lwArr role tier label x y) 40)) w1) => for_any l[0] role tier label (hs.box.ext h1) hs.few)
      obtain ⟨rp, rc, rfl⟩ := hs.box.shape
      have hok := hid (hokV.out.1 hpos)
      generalize l[0].boxes.length = rn at *
      generalize l[0] = r at *
      clear hs hr
      have hposI : (0 : Int) < l.length := by omega
      have k0 : ∀ d os, (grow (redrawn (w.alloc (.cells (lwArr role tier label x y) 40)) d) os).cell? ⟨g, off, none⟩ = some (.int .i64 r.kind) := cell_regrown (hat.out 0 _ rfl)
      have k1 : ∀ d os, (grow (redrawn (w.alloc (.cells (lwArr role tier label x y) 40)) d) os).cell? ⟨g, off + 1, none⟩ = some (.int .i64 r.roles) := cell_regrown (hat.out 1 _ rfl)
      have k2 : ∀ d os, (grow (redrawn (w.alloc (.cells (lwArr role tier label x y) 40)) d) os).cell? ⟨g, off + 1 + 1, none⟩ = some (.int .i64 r.lo) := cell_regrown (hat.out 2 _ rfl)
      have k3 : ∀ d os, (grow (redrawn (w.alloc (.cells (lwArr role tier label x y) 40)) d) os).cell? ⟨g, off + 1 + 1 + 1, none⟩ = some (.int .i64 r.hi) := cell_regrown (hat.out 3 _ rfl)
      have k4 : ∀ d os, (grow (redrawn (w.alloc (.cells (lwArr role tier label x y) 40)) d) os).cell? ⟨g, off + 1 + 1 + 1 + 1, none⟩ = some (.int .i64 r.labels) := cell_regrown (hat.out 4 _ rfl)
      have k5 : ∀ d os, (grow (redrawn (w.alloc (.cells (lwArr role tier label x y) 40)) d) os).cell? ⟨g, off + 1 + 1 + 1 + 1 + 1, none⟩ = some (.slice rp rn rc) := cell_regrown (hat.out 5 _ rfl)
      have k6 : ∀ d os, (grow (redrawn (w.alloc (.cells (lwArr role tier label x y) 40)) d) os).cell? ⟨g, off + 1 + 1 + 1 + 1 + 1 + 1, none⟩ = some (.int .i64 r.zoom) := cell_regrown (hat.out 6 _ rfl)
      have c0 : ∀ d os, (grow (redrawn (w.alloc (.cells (lwArr role tier label x y) 40)) d) os).cell? ⟨w.heap.size, 0, none⟩ = some (.int .i64 role) := cell_regrown (B0.out.cell 0 rfl)
      have c1 : ∀ d os, (grow (redrawn (w.alloc (.cells (lwArr role tier label x y) 40)) d) os).cell? ⟨w.heap.size, 1, none⟩ = some (.int .i64 tier) := cell_regrown (B0.out.cell 1 rfl)
      have c2 : ∀ d os, (grow (redrawn (w.alloc (.cells (lwArr role tier label x y) 40)) d) os).cell? ⟨w.heap.size, 2, none⟩ = some (.int .i64 label) := cell_regrown (B0.out.cell 2 rfl)
      have c3 : ∀ d os, (grow (redrawn (w.alloc (.cells (lwArr role tier label x y) 40)) d) os).cell? ⟨w.heap.size, 3, none⟩ = some (.int .i64 x) := cell_regrown (B0.out.cell 3 rfl)
      have c4 : ∀ d os, (grow (redrawn (w.alloc (.cells (lwArr role tier label x y) 40)) d) os).cell? ⟨w.heap.size, 3 + 1, none⟩ = some (.int .i64 y) := cell_regrown (B0.out.cell 4 rfl)
      have hg2 : ∀ d os, g < (grow (redrawn (w.alloc (.cells (lwArr role tier label x y) 40)) d) os).heap.size := fun d os => Nat.lt_of_lt_of_le hglt.out (below_regrown (w.alloc (.cells (lwArr role tier label x y) 40)) d os).size
      have cF : ∀ d os, Calls Try.prog 13 #[.agg #[.int .i64 r.kind, .int .i64 r.roles, .int .i64 r.lo, .int .i64 r.hi, .int .i64 r.labels, .slice rp rn rc, .int .i64 r.zoom], .int .i64 role, .int .i64 tier, .int .i64 label] (grow (redrawn (w.alloc (.cells (lwArr role tier label x y) 40)) d) os) fun e w'' => e = .returned (.bool okV) ∧ ∃ p : Regrown, w'' = grow (redrawn (w.alloc (.cells (lwArr role tier label x y) 40)) p.d) p.os := by
        intro d os
        have h := Calls.regrown_of (hF2.out _ (below_regrown (w.alloc (.cells (lwArr role tier label x y) 40)) d os))
        rw [← hok.out] at h
        exact h
      clear hF2
      refine wp_region_quiet_below (by kernel_rfl) (by kernel_rfl) ?_
      quiet_step (fail)
      quiet_step (fail)
      quiet_step (fail)
      quiet_step (fail)
      quiet_step (fail)
      quiet_step (fail)
      quiet_step (fail)
      quiet_step (fail)
      quiet_step (fail)
      quiet_step (fail)
      quiet_step (fail)
      quiet_step (fail)
      quiet_step (fail)
      quiet_step (exact cF _ _)
      quiet_step (fail)
      quiet_step (fail)
      refine wpQuiet_nil ?_
      intro _ hw'
      obtain ⟨pp, hw''⟩ := hw'
      subst hw''
      go_wp2_with fail
      go_meet
      case rel => exact ⟨rfl, B0.out.ext (below_regrown (w.alloc (.cells (lwArr role tier label x y) 40)) pp.d pp.os), bthen Q0.out (below_regrown (w.alloc (.cells (lwArr role tier label x y) 40)) pp.d pp.os)⟩
    · have hz : l.length = 0 := by omega
      have hok := hid (hokV.out.2 hz)
      have hlI : (l.length : Int) = 0 := by omega
      have hd0 : decide ((0 : Int) < l.length) = false := decide_eq_false (by omega)
      go_quiet (fail)
      go_wp2_with fail
      go_meet
      case rel => exact ⟨by rw [hok.out], B0.out.drewN nq, bdrewN Q0.out nq⟩
  case rest =>
  obtain ⟨rfl, hB1, hQ1⟩ := hcut
  have B1 := hid hB1
  have Q1 := hid hQ1
  clear hB1 hQ1 B0 Q0
  go_upto_region 4 with (fail)
  go_cut [6] (fun s0 wx => s0 = .bool okV ∧ Blk wx w.heap.size (lwArr role tier label x y) 40 ∧ Below w.heap.size w wx)
  case first =>
    by_cases hpos : 0 < l.length
    · obtain ⟨g, off, rfl, hr⟩ := hPR.out hpos
      obtain ⟨rv, hs⟩ := hr.at Q1.out hpos
      have hat := hid (show wc.rangeAt g off (ruleArr l[0] rv).toList by have h := hs.at_; rwa [Nat.zero_mul, Nat.add_zero] at h)
      have hglt := hid (Nat.lt_of_lt_of_le hr.lt Q1.out.size)
      have hF2 := hid (fun w1 (h1 : Below wc.heap.size wc w1) => rfor_any l[0] role tier label (hs.box.ext h1) hs.few)
      obtain ⟨rp, rc, rfl⟩ := hs.box.shape
      have hok := hid (hokV.out.1 hpos)
      generalize l[0].boxes.length = rn at *
      generalize l[0] = r at *
      clear hs hr
      have hrf := hid (Ru.rforR_eq r role tier label)
      have hposI : (0 : Int) < l.length := by omega
      have k0 : ∀ d os, (grow (redrawn wc d) os).cell? ⟨g, off, none⟩ = some (.int .i64 r.kind) := cell_regrown (hat.out 0 _ rfl)
      have k1 : ∀ d os, (grow (redrawn wc d) os).cell? ⟨g, off + 1, none⟩ = some (.int .i64 r.roles) := cell_regrown (hat.out 1 _ rfl)
      have k2 : ∀ d os, (grow (redrawn wc d) os).cell? ⟨g, off + 1 + 1, none⟩ = some (.int .i64 r.lo) := cell_regrown (hat.out 2 _ rfl)
      have k3 : ∀ d os, (grow (redrawn wc d) os).cell? ⟨g, off + 1 + 1 + 1, none⟩ = some (.int .i64 r.hi) := cell_regrown (hat.out 3 _ rfl)
      have k4 : ∀ d os, (grow (redrawn wc d) os).cell? ⟨g, off + 1 + 1 + 1 + 1, none⟩ = some (.int .i64 r.labels) := cell_regrown (hat.out 4 _ rfl)
      have k5 : ∀ d os, (grow (redrawn wc d) os).cell? ⟨g, off + 1 + 1 + 1 + 1 + 1, none⟩ = some (.slice rp rn rc) := cell_regrown (hat.out 5 _ rfl)
      have k6 : ∀ d os, (grow (redrawn wc d) os).cell? ⟨g, off + 1 + 1 + 1 + 1 + 1 + 1, none⟩ = some (.int .i64 r.zoom) := cell_regrown (hat.out 6 _ rfl)
      have c0 : ∀ d os, (grow (redrawn wc d) os).cell? ⟨w.heap.size, 0, none⟩ = some (.int .i64 role) := cell_regrown (B1.out.cell 0 rfl)
      have c1 : ∀ d os, (grow (redrawn wc d) os).cell? ⟨w.heap.size, 1, none⟩ = some (.int .i64 tier) := cell_regrown (B1.out.cell 1 rfl)
      have c2 : ∀ d os, (grow (redrawn wc d) os).cell? ⟨w.heap.size, 2, none⟩ = some (.int .i64 label) := cell_regrown (B1.out.cell 2 rfl)
      have c3 : ∀ d os, (grow (redrawn wc d) os).cell? ⟨w.heap.size, 3, none⟩ = some (.int .i64 x) := cell_regrown (B1.out.cell 3 rfl)
      have c4 : ∀ d os, (grow (redrawn wc d) os).cell? ⟨w.heap.size, 3 + 1, none⟩ = some (.int .i64 y) := cell_regrown (B1.out.cell 4 rfl)
      have hg2 : ∀ d os, g < (grow (redrawn wc d) os).heap.size := fun d os => Nat.lt_of_lt_of_le hglt.out (below_regrown wc d os).size
      have cF : ∀ d os, Calls Try.prog 14 #[.agg #[.int .i64 r.kind, .int .i64 r.roles, .int .i64 r.lo, .int .i64 r.hi, .int .i64 r.labels, .slice rp rn rc, .int .i64 r.zoom], .int .i64 role, .int .i64 tier, .int .i64 label] (grow (redrawn wc d) os) fun e w'' => e = .returned (.bool okV) ∧ ∃ p : Regrown, w'' = grow (redrawn wc p.d) p.os := by
        intro d os
        have h := Calls.regrown_of (hF2.out _ (below_regrown wc d os))
        rw [hrf.out, ← hok.out] at h
        exact h
      clear hF2
      refine wp_region_quiet_below (by kernel_rfl) (by kernel_rfl) ?_
      quiet_step (fail)
      quiet_step (fail)
      quiet_step (fail)
      quiet_step (fail)
      quiet_step (fail)
      quiet_step (fail)
      quiet_step (fail)
      quiet_step (fail)
      quiet_step (fail)
      quiet_step (fail)
      quiet_step (fail)
      quiet_step (fail)
      quiet_step (fail)
      quiet_step (exact cF _ _)
      quiet_step (fail)
      quiet_step (fail)
      refine wpQuiet_nil ?_
      intro _ hw'
      obtain ⟨pp, hw''⟩ := hw'
      subst hw''
      go_wp2_with fail
      go_meet
      case rel => exact ⟨rfl, B1.out.ext (below_regrown wc pp.d pp.os), bthen Q1.out (below_regrown wc pp.d pp.os)⟩
    · have hz : l.length = 0 := by omega
      have hok := hid (hokV.out.2 hz)
      have hlI : (l.length : Int) = 0 := by omega
      have hd0 : decide ((0 : Int) < l.length) = false := decide_eq_false (by omega)
      go_quiet (fail)
      go_wp2_with fail
      go_meet
      case rel => exact ⟨by rw [hok.out], B1.out.drewN nq, bdrewN Q1.out nq⟩
  case rest =>
  obtain ⟨rfl, hB2, hQ2⟩ := hcut
  have B2 := hid hB2
  have Q2 := hid hQ2
  clear hB2 hQ2 B1 Q1
  go_upto_region 5 with (fail)
  have hR := hid (R0.out.ext Q2.out)
  have hra := hid (Ru.rulesR_eq l)
  have hrz := hid (Ru.rzoom_eq l role tier label x y)
  have hrc := hid (Ru.rcloaks_eq l role)
  have c0 : ∀ d os, (grow (redrawn wc d) os).cell? ⟨w.heap.size, 0, none⟩ = some (.int .i64 role) := cell_regrown (B2.out.cell 0 rfl)
  have c1 : ∀ d os, (grow (redrawn wc d) os).cell? ⟨w.heap.size, 1, none⟩ = some (.int .i64 tier) := cell_regrown (B2.out.cell 1 rfl)
  have c2 : ∀ d os, (grow (redrawn wc d) os).cell? ⟨w.heap.size, 2, none⟩ = some (.int .i64 label) := cell_regrown (B2.out.cell 2 rfl)
  have c3 : ∀ d os, (grow (redrawn wc d) os).cell? ⟨w.heap.size, 3, none⟩ = some (.int .i64 x) := cell_regrown (B2.out.cell 3 rfl)
  have c4 : ∀ d os, (grow (redrawn wc d) os).cell? ⟨w.heap.size, 3 + 1, none⟩ = some (.int .i64 y) := cell_regrown (B2.out.cell 4 rfl)
  have cR1 : ∀ d os, Calls Try.prog 15 #[.slice vp l.length vc] (grow (redrawn wc d) os) fun e w'' => e = .returned (.bool (Ru.rulesR l)) ∧ ∃ p : Regrown, w'' = grow (redrawn wc p.d) p.os :=
    fun d os => Calls.regrown_of (rright_any (hR.out.ext (below_regrown wc d os)) hn)
  have cR2 : ∀ d os, Calls Try.prog 16 #[.slice vp l.length vc] (grow (redrawn wc d) os) fun e w'' => e = .returned (.bool (Ru.rulesR l)) ∧ ∃ p : Regrown, w'' = grow (redrawn wc p.d) p.os := by
    intro d os
    have h := Calls.regrown_of (rall_any (hR.out.ext (below_regrown wc d os)) hn)
    rw [hra.out] at h
    exact h
  have cZ1 : ∀ d os, Calls Try.prog 17 #[.slice vp l.length vc, .int .i64 role, .int .i64 tier, .int .i64 label, .agg #[.int .i64 x, .int .i64 y]] (grow (redrawn wc d) os) fun e w'' => e = .returned (.int .i64 (Ru.zoomV l role tier label x y)) ∧ ∃ p : Regrown, w'' = grow (redrawn wc p.d) p.os :=
    fun d os => Calls.regrown_of (zoom_any role tier label x y (hR.out.ext (below_regrown wc d os)) hn)
  have cZ2 : ∀ d os, Calls Try.prog 18 #[.slice vp l.length vc, .int .i64 role, .int .i64 tier, .int .i64 label, .agg #[.int .i64 x, .int .i64 y]] (grow (redrawn wc d) os) fun e w'' => e = .returned (.int .i64 (Ru.zoomV l role tier label x y)) ∧ ∃ p : Regrown, w'' = grow (redrawn wc p.d) p.os := by
    intro d os
    have h := Calls.regrown_of (rzoom_any role tier label x y (hR.out.ext (below_regrown wc d os)) hn)
    rw [hrz.out] at h
    exact h
  have cC1 : ∀ d os, Calls Try.prog 19 #[.slice vp l.length vc, .int .i64 role] (grow (redrawn wc d) os) fun e w'' => e = .returned (.bool (Ru.cloaksV l role)) ∧ ∃ p : Regrown, w'' = grow (redrawn wc p.d) p.os :=
    fun d os => Calls.regrown_of (cloaks_any role (hR.out.ext (below_regrown wc d os)) hn)
  have cC2 : ∀ d os, Calls Try.prog 20 #[.slice vp l.length vc, .int .i64 role] (grow (redrawn wc d) os) fun e w'' => e = .returned (.bool (Ru.cloaksV l role)) ∧ ∃ p : Regrown, w'' = grow (redrawn wc p.d) p.os := by
    intro d os
    have h := Calls.regrown_of (rcloaks_any role (hR.out.ext (below_regrown wc d os)) hn hrng'.out)
    rw [hrc.out] at h
    exact h
  have cK : ∀ d os, Calls Try.prog 7 #[] (grow (redrawn wc d) os) fun e w'' => e = .returned (.bool true) ∧ ∃ p : Regrown, w'' = grow (redrawn wc p.d) p.os :=
    fun d os => Calls.regrown_of (known_any _)
  generalize Ru.rulesR l = b1 at *
  generalize Ru.zoomV l role tier label x y = z at *
  generalize Ru.cloaksV l role = b2 at *
  clear hR hra hrz hrc
  refine wp_region_quiet_below (by kernel_rfl) (by kernel_rfl) ?_
  quiet_step (fail)
  quiet_step (exact cR1 _ _)
  quiet_step (fail)
  quiet_step (exact cR2 _ _)
  quiet_step (fail)
  quiet_step (fail)
  quiet_step (fail)
  quiet_step (fail)
  quiet_step (fail)
  quiet_step (fail)
  quiet_step (fail)
  quiet_step (fail)
  quiet_step (fail)
  quiet_step (fail)
  quiet_step (fail)
  quiet_step (fail)
  quiet_step (fail)
  quiet_step (fail)
  quiet_step (fail)
  quiet_step (fail)
  quiet_step (exact cZ1 _ _)
  quiet_step (fail)
  quiet_step (fail)
  quiet_step (fail)
  quiet_step (fail)
  quiet_step (fail)
  quiet_step (fail)
  quiet_step (fail)
  quiet_step (fail)
  quiet_step (fail)
  quiet_step (exact cZ2 _ _)
  quiet_step (fail)
  quiet_step (fail)
  quiet_step (fail)
  quiet_step (fail)
  quiet_step (fail)
  quiet_step (fail)
  quiet_step (exact cC1 _ _)
  quiet_step (fail)
  quiet_step (fail)
  quiet_step (fail)
  quiet_step (exact cC2 _ _)
  quiet_step (fail)
  quiet_step (fail)
  quiet_step (fail)
  quiet_step (exact cK _ _)
  quiet_step (fail)
  quiet_step (fail)
  refine wpQuiet_nil ?_
  intro _ hw'
  obtain ⟨pp, hw''⟩ := hw'
  subst hw''
  go_wp2_with fail
  go_ret
  exact ⟨rfl, bthen Q2.out (below_regrown wc pp.d pp.os)⟩

end Go.Proofs.Ytelphkhacadfaaa
