/- The walk of RulesMore. -/
import Derived.Test.YtelphkhacadfaaaRuS
import Derived.Test.YtelphkhacadfaaaRfA
import Derived.Lib.QuietBelow
namespace Go.Proofs.Ytelphkhacadfaaa
open Go.RowKit Go.Sort Go.Maps

set_option maxRecDepth 100000 in
set_option maxHeartbeats 4000000 in
theorem more_walk {w : World} {v rv : Value} {l : List Ru.Rule} (r : Ru.Rule) (role tier label x y : Int) (h : RSl w v l) (hn : l.length ≤ 140737488355328) (hr : BRow w rv r.boxes) (hrn : r.boxes.length ≤ 140737488355328) :
    Calls Try.prog 4 #[v, .agg (ruleArr r rv), .agg (lwArr role tier label x y)] w fun e w' => e = .returned (.bool true) ∧ Below w.heap.size w w' := by
  obtain ⟨i0, hinf, hiz, hisz, hiby⟩ := info_parts Try.infoRule
  obtain ⟨ps, rfl, hpin, hps⟩ := h.pairs
  rw [List.length_map] at hn
  obtain ⟨vp, vc, rfl⟩ : ∃ p c, v = .slice p ps.length c := by
    rcases hps with ⟨rfl, rfl⟩ | ⟨g, off, cap, rfl, _⟩
    · exact ⟨_, _, rfl⟩
    · exact ⟨_, _, rfl⟩
  have hPR : Hid (0 < ps.length → ∃ g off, vp = some ⟨g, off, none⟩ ∧ PRow w g off vc ps) := by
    refine hid (fun hpos => ?_)
    rcases hps with ⟨_, rfl⟩ | ⟨g, off, cap, hv, hr⟩
    · simp at hpos
    · cases hv; exact ⟨g, off, rfl, hr⟩
  have za := balloc w (.cells (ruleArr r rv) 36)
  have zb := balloc (w.alloc (.cells (ruleArr r rv) 36)) (.cells (lwArr role tier label x y) 40)
  have R0 := hid h
  have P0 := hid hpin
  have Q0 := hid (bthen za zb)
  have A0 := hid ((Blk.new w (ruleArr r rv) 36).ext zb)
  have B0 := hid (Blk.newAt (w := w.alloc (.cells (ruleArr r rv) 36)) (k := w.heap.size + 1) (by simp) (lwArr role tier label x y) 40)
  have RV0 := hid hr
  clear h hps hpin za zb hr
  have hfin' : Hid (∀ w1 : World, Below w.heap.size w w1 → Calls Try.prog 7 #[] w1 fun e w' => e = .returned (.bool true) ∧ Below w.heap.size w w') := hid (fun w1 h1 => (known_any _).mono fun e w' ⟨h2, h3⟩ => ⟨h2, h1.trans (h3.mono h1.size)⟩)
  by_cases hL : 100 < ps.length
  · go_enter Try.func4, Try.ntmps4
    go_wp2_with fail
    refine (hfin'.out _ Q0.out).mono ?_
    rintro e w2 ⟨rfl, hb2⟩
    have Q2 := hid hb2
    clear hb2
    go_wp2_with fail
    go_ret
    exact ⟨rfl, Q2.out⟩
  have hd1 : decide ((100 : Int) < ps.length) = false := decide_eq_false (by omega)
  have hL' : ps.length ≤ 100 := by omega
  clear hL
  have hrr := hid (fun w1 (h1 : Below w.heap.size w w1) => rrule_any r (RV0.out.ext h1) hrn)
  have hrk : Hid (Ru.rruleR r = Ru.ruleR r) := hid (Ru.rruleR_eq r)
  have hk0 : (ruleArr r rv)[0]? = some (.int .i64 r.kind) := rfl
  go_enter Try.func4, Try.ntmps4
  go_wp2_with (first | (refine wpList_load_blkG rfl 36 (.tmp 4) rfl 15 rfl w.heap.size 36 (ruleArr r rv) (A0.out) rfl Try.underlying36 rfl (by kernel_rfl) ?_))
  refine (hrr.out _ Q0.out).mono ?_
  rw [hrk.out]
  rintro e w2 ⟨rfl, hb2⟩
  have Q2 := hid (bthen Q0.out hb2)
  have A2 := hid (A0.out.ext hb2)
  have B2 := hid (B0.out.ext hb2)
  clear hb2 hrr hrk
  cases hR : Ru.ruleR r with
  | false =>
    go_wp2_with fail
    refine (hfin'.out _ Q2.out).mono ?_
    rintro e w3 ⟨rfl, hb3⟩
    have Q3 := hid hb3
    clear hb3
    go_wp2_with fail
    go_ret
    exact ⟨rfl, Q3.out⟩
  | true =>
  have hmore := hid (fun (ls : List Ru.Rule) => Ru.zoom_more (l := ls) hR role tier label x y)
  have hkind := Ru.ruleR_kind hR
  clear hR
  go_wp2_with fail
  go_loopw [7, 8] (fun m u wr => ∃ i : Nat, u = .int .i64 (i : Nat) ∧ i ≤ ps.length ∧ wr.ownsRow (w.heap.size + 2) 36 7 m i (pairCells (ps.take i)) ∧
    Blk wr w.heap.size (ruleArr r rv) 36 ∧ Blk wr (w.heap.size + 1) (lwArr role tier label x y) 40 ∧ Below w.heap.size w wr) (fun _ u _ => ps.length - (intOf u).toNat)
  case atStart => exact ⟨0, by go_num, Nat.zero_le _, World.ownsRow_nil _ _ _ _, A2.out, B2.out, Q2.out⟩
  case round =>
    obtain ⟨i, rfl, hi, hO, hA, hW, hQ⟩ := hrel
    have hO' := hid hO
    have hA' := hid hA
    have hW' := hid hW
    have hQ' := hid hQ
    clear hO hA hW hQ
    by_cases hlt : i < ps.length
    · obtain ⟨g, off, rfl, hg⟩ := hPR.out (by omega)
      have hat := hid ((hg.ext hQ'.out).get i hlt)
      have hone := hid ((ruleArr_one ps[i].1 (P0.out _ (List.getElem_mem hlt)).1.one))
      have hrev := hid (show ps.take i ++ [ps[i]] = ps.take (i + 1) by rw [List.take_append_getElem hlt])
      generalize ps[i] = p at *
      clear hg
      have hc1 := hid (cells_new wr (ruleArr p.1 p.2).toList 36 (k := wr.heap.size) rfl)
      rw [Array.toArray_toList] at hc1
      have hal := hid (hO'.out.alloc (.cells (ruleArr p.1 p.2) 36))
      have hone2 : Hid (∀ u ∈ (ruleArr p.1 p.2).toList, u.oneCell' = true) := hid (fun u hu => (Array.all_eq_true_iff_forall_mem.1 hone.out) u (by simpa using hu))
      have hlen7 : (ruleArr p.1 p.2).toList.length = 7 := rfl
      have hcap : i + 1 ≤ maxLen := by unfold maxLen; omega
      have hz5 := hQ'.out.size
      have hwlt := hW'.out.lt
      go_upto_region 7 with (fail)
      go_wp2_with (first | (refine wpList_load_at rfl 36 (.tmp 29) rfl 30 rfl g (off + i * 7) (ruleArr p.1 p.2) (hat.out) rfl Try.underlying36 rfl (by kernel_rfl) ?_) | (refine wpList_buildOne rfl 24 36 (.tmp 30) rfl 31 rfl Try.underlying24 i0 _ hinf hiz 7 hisz (by decide) (by decide) (ruleArr p.1 p.2) rfl rfl ?_) | (at_builtin; refine Go.wpList_append_own_at _ rfl _ _ 24 rfl (w.heap.size + 2) 36 i0 _ 7 72 Try.underlying24 hinf hiz hisz hiby rfl (by decide) _ _ _ rfl hal.out ⟨wr.heap.size, 0, none⟩ 1 1 (ruleArr p.1 p.2).toList rfl hlen7 hc1.out hone2.out hcap (by omega) (by simp; omega) ?_; intro v6 w6 hown6 hgrow _ hat6))
      go_roundw
      case rel =>
        refine ⟨i + 1, by go_num, by omega, ?_, ?_, ?_, ?_⟩
        · rw [← hrev.out, pairCells_snoc]
          exact hown6
        · exact Blk.grown (hA'.out.alloc _) hgrow (own_ne hal.out (by omega))
        · exact Blk.grown (hW'.out.alloc _) hgrow (own_ne hal.out (by omega))
        · exact (hQ'.out.alloc hQ'.out.size _).grown hgrow (by rw [World.size_alloc]; omega) (fun k hk => by have := (hal.out.lt k hk).1; omega)
      case measure => simp [intOf]; omega
    · obtain rfl : i = ps.length := by omega
      rw [List.take_length] at hO'
      have hone := hid (ruleArr_one r RV0.out.one)
      have hc1 := hid (cells_new wr (ruleArr r rv).toList 36 (k := wr.heap.size) rfl)
      rw [Array.toArray_toList] at hc1
      have hal := hid (hO'.out.alloc (.cells (ruleArr r rv) 36))
      have hone2 : Hid (∀ u ∈ (ruleArr r rv).toList, u.oneCell' = true) := hid (fun u hu => (Array.all_eq_true_iff_forall_mem.1 hone.out) u (by simpa using hu))
      have hlen7 : (ruleArr r rv).toList.length = 7 := rfl
      have hcap : ps.length + 1 ≤ maxLen := by unfold maxLen; omega
      have hz5 := hQ'.out.size
      have hwlt := hW'.out.lt
      go_upto_region 8 with (fail)
      go_wp2_with (first | (refine wpList_load_blk rfl 36 (.tmp 4) rfl 34 rfl w.heap.size 36 (ruleArr r rv) (hA'.out) rfl Try.underlying36 rfl (by kernel_rfl) ?_) | (refine wpList_buildOne rfl 24 36 (.tmp 34) rfl 35 rfl Try.underlying24 i0 _ hinf hiz 7 hisz (by decide) (by decide) (ruleArr r rv) rfl rfl ?_) | (at_builtin; refine Go.wpList_append_own_at _ rfl _ _ 24 rfl (w.heap.size + 2) 36 i0 _ 7 72 Try.underlying24 hinf hiz hisz hiby rfl (by decide) _ _ _ rfl hal.out ⟨wr.heap.size, 0, none⟩ 1 1 (ruleArr r rv).toList rfl hlen7 hc1.out hone2.out hcap (by omega) (by simp; omega) ?_; intro v6 w6 hown6 hgrow _ hat6))
      have A6 := hid (Blk.grown (hA'.out.alloc _) hgrow (own_ne hal.out (by omega)))
      have B6 := hid (Blk.grown (hW'.out.alloc _) hgrow (own_ne hal.out (by omega)))
      have Q6 := hid ((hQ'.out.alloc hQ'.out.size (.cells (ruleArr r rv) 36)).grown hgrow (by rw [World.size_alloc]; omega) (fun k hk => by have := (hal.out.lt k hk).1; omega))
      have O6 : Hid (w6.ownsRow (w.heap.size + 2) 36 7 v6 (ps.length + 1) (pairCells (ps ++ [(r, rv)]))) := hid (by rw [pairCells_snoc]; exact hown6)
      clear hown6 hgrow hat6 hal hc1
      have hM := hid (RSl.of_own O6.out (by simp) (fun p hp => by
        rcases List.mem_append.1 hp with hp | hp
        · exact (P0.out.ext Q6.out) p hp
        · rw [List.mem_singleton.1 hp]; exact ⟨RV0.out.ext Q6.out, hrn⟩))
      have hmap : (ps ++ [(r, rv)]).map (·.1) = ps.map (·.1) ++ [r] := by simp
      rw [hmap] at hM
      have hRl := hid (R0.out.ext Q6.out)
      have hm := hmore.out (ps.map (·.1))
      have cZ1 : ∀ d os, Calls Try.prog 12 #[.slice vp ps.length vc, .agg #[.int .i64 role, .int .i64 tier, .int .i64 label, .int .i64 x, .int .i64 y]] (grow (redrawn w6 d) os) fun e w'' => e = .returned (.int .i64 (Ru.zoomV (ps.map (·.1)) role tier label x y)) ∧ ∃ p : Regrown, w'' = grow (redrawn w6 p.d) p.os :=
        fun d os => Calls.regrown_of (lzoom_any role tier label x y (hRl.out.ext (below_regrown w6 d os)) (by rw [List.length_map]; exact hn))
      have cZ2 : ∀ d os, Calls Try.prog 12 #[v6, .agg #[.int .i64 role, .int .i64 tier, .int .i64 label, .int .i64 x, .int .i64 y]] (grow (redrawn w6 d) os) fun e w'' => e = .returned (.int .i64 (Ru.zoomV (ps.map (·.1) ++ [r]) role tier label x y)) ∧ ∃ p : Regrown, w'' = grow (redrawn w6 p.d) p.os :=
        fun d os => Calls.regrown_of (lzoom_any role tier label x y (hM.out.ext (below_regrown w6 d os)) (by rw [List.length_append, List.length_map]; simp; omega))
      generalize Ru.zoomV (ps.map (·.1)) role tier label x y = z1 at *
      generalize Ru.zoomV (ps.map (·.1) ++ [r]) role tier label x y = z2 at *
      have hm' := hid hm
      clear hm hmap hM hRl
      have vals : True := trivial
      have c0 : ∀ d os, (grow (redrawn w6 d) os).cell? ⟨w.heap.size + 1, 0, none⟩ = some (.int .i64 role) := cell_regrown (B6.out.cell 0 rfl)
      have c1 : ∀ d os, (grow (redrawn w6 d) os).cell? ⟨w.heap.size + 1, 1, none⟩ = some (.int .i64 tier) := cell_regrown (B6.out.cell 1 rfl)
      have c2 : ∀ d os, (grow (redrawn w6 d) os).cell? ⟨w.heap.size + 1, 2, none⟩ = some (.int .i64 label) := cell_regrown (B6.out.cell 2 rfl)
      have c3 : ∀ d os, (grow (redrawn w6 d) os).cell? ⟨w.heap.size + 1, 3, none⟩ = some (.int .i64 x) := cell_regrown (B6.out.cell 3 rfl)
      have c4 : ∀ d os, (grow (redrawn w6 d) os).cell? ⟨w.heap.size + 1, 4, none⟩ = some (.int .i64 y) := cell_regrown (B6.out.cell 4 rfl)
      have e2 : ∀ d os, (grow (redrawn w6 d) os).cell? ⟨w.heap.size + 1, 1 + 1, none⟩ = some (.int .i64 label) := c2
      have e3 : ∀ d os, (grow (redrawn w6 d) os).cell? ⟨w.heap.size + 1, 1 + 1 + 1, none⟩ = some (.int .i64 x) := c3
      have e4 : ∀ d os, (grow (redrawn w6 d) os).cell? ⟨w.heap.size + 1, 1 + 1 + 1 + 1, none⟩ = some (.int .i64 y) := c4
      go_upto_region 9 with (fail)
      refine wp_region_quiet_below (by kernel_rfl) (by kernel_rfl) ?_
      quiet_step (fail)
      quiet_step (fail)
      quiet_step (exact cZ1 _ _)
      quiet_step (fail)
      quiet_step (fail)
      quiet_step (exact cZ2 _ _)
      quiet_step (fail)
      quiet_step (fail)
      refine wpQuiet_nil ?_
      intro _ hw'
      obtain ⟨pp, hw''⟩ := hw'
      subst hw''
      clear c0 c1 c2 c3 c4 e2 e3 e4 cZ1 cZ2
      have Q7 := hid (bthen Q6.out (below_regrown w6 pp.d pp.os))
      have A7 := hid (A6.out.ext (below_regrown w6 pp.d pp.os))
      generalize grow (redrawn w6 pp.d) pp.os = w7 at *
      have q0 : w7.cell? ⟨w.heap.size, 0, none⟩ = some (.int .i64 r.kind) := A7.out.cell 0 rfl
      rcases hkind with k4 | k5 | k6
      · have hz : z1 ≤ z2 := hm'.out.1 k4
        have kb : (r.kind == 4) = true := beq_iff_eq.2 k4
        clear k4
        go_wp2_with fail
        refine (hfin'.out _ Q7.out).mono ?_
        rintro e w8 ⟨rfl, hb8⟩
        have Q8 := hid hb8
        clear hb8
        go_wp2_with fail
        go_ret
        exact ⟨rfl, Q8.out⟩
      · have hz : z2 ≤ z1 := hm'.out.2.1 k5
        have kb : (r.kind == 4) = false := by rw [k5]; rfl
        have kb5 : (r.kind == 5) = true := beq_iff_eq.2 k5
        clear k5
        go_wp2_with fail
        refine (hfin'.out _ Q7.out).mono ?_
        rintro e w8 ⟨rfl, hb8⟩
        have Q8 := hid hb8
        clear hb8
        go_wp2_with fail
        go_ret
        exact ⟨rfl, Q8.out⟩
      · have hz : z1 = z2 := hm'.out.2.2 k6
        have kb : (r.kind == 4) = false := by rw [k6]; rfl
        have kb5 : (r.kind == 5) = false := by rw [k6]; rfl
        clear k6 hm'
        subst hz
        go_wp2_with fail
        refine (hfin'.out _ Q7.out).mono ?_
        rintro e w8 ⟨rfl, hb8⟩
        have Q8 := hid hb8
        clear hb8
        go_wp2_with fail
        go_ret
        exact ⟨rfl, Q8.out⟩

end Go.Proofs.Ytelphkhacadfaaa
