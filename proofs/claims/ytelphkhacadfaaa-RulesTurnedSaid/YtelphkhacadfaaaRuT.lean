/- The walk of RulesTurned. -/
import Derived.Test.YtelphkhacadfaaaRuS
import Derived.Lib.QuietBelow
namespace Go.Proofs.Ytelphkhacadfaaa
open Go.RowKit Go.Sort Go.Maps

theorem rev_snoc {α : Type} {ps : List α} {j : Nat} (hj : j < ps.length) : ps.reverse.take (ps.length - (j + 1)) ++ [ps[j]] = ps.reverse.take (ps.length - j) := by
  have h1 : ps.length - (j + 1) < ps.reverse.length := by rw [List.length_reverse]; omega
  have e : ps.length - j = ps.length - (j + 1) + 1 := by omega
  rw [e, ← List.take_append_getElem h1, List.getElem_reverse]
  congr 2
  congr 1
  omega
theorem rev_drop {α : Type} (ps : List α) (a : Nat) (h : a ≤ ps.length) : ps.reverse.take (ps.length - a) = (ps.drop a).reverse := by
  rw [List.take_reverse]
  congr 2
  omega

set_option maxRecDepth 100000 in
set_option maxHeartbeats 4000000 in
theorem turned_walk {w : World} {v : Value} {l : List Ru.Rule} (at_ role tier label x y : Int) (h : RSl w v l) (hn : l.length ≤ 140737488355328) :
    Calls Try.prog 6 #[v, .int .i64 at_, .agg (lwArr role tier label x y)] w fun e w' => e = .returned (.bool true) ∧ Below w.heap.size w w' := by
  obtain ⟨i0, hinf, hiz, hisz, hiby⟩ := info_parts Try.infoRule
  obtain ⟨ps, rfl, hpin, hps⟩ := h.pairs
  rw [List.length_map] at hn
  obtain ⟨vp, vc, rfl⟩ : ∃ p c, v = .slice p ps.length c := by
    rcases hps with ⟨rfl, rfl⟩ | ⟨g, off, cap, rfl, _⟩
    · exact ⟨_, _, rfl⟩
    · exact ⟨_, _, rfl⟩
  have hPR : Hid (0 < ps.length → ∃ g off, vp = some ⟨g, off, none⟩ ∧ PRow w g off vc ps) := by
    refine hid (fun hpos => ?_)
    rcases hps with ⟨_, rfl⟩ | ⟨g, off, cap, hv, hr⟩
    · simp at hpos
    · cases hv; exact ⟨g, off, rfl, hr⟩
  have hz := balloc w (.cells (lwArr role tier label x y) 40)
  have R0 := hid h
  have P0 := hid hpin
  have Q0 := hid hz
  have B0 := hid (Blk.new w (lwArr role tier label x y) 40)
  clear h hps hpin hz
  have hfin' : Hid (∀ w1 : World, Below w.heap.size w w1 → Calls Try.prog 7 #[] w1 fun e w' => e = .returned (.bool true) ∧ Below w.heap.size w w') := hid (fun w1 h1 => (known_any _).mono fun e w' ⟨h2, h3⟩ => ⟨h2, h1.trans (h3.mono h1.size)⟩)
  by_cases hL : 100 < ps.length
  · go_enter Try.func6, Try.ntmps6
    go_wp2_with fail
    refine (hfin'.out _ Q0.out).mono ?_
    rintro e w2 ⟨rfl, hb2⟩
    have Q2 := hid hb2
    clear hb2
    go_wp2_with fail
    go_ret
    exact ⟨rfl, Q2.out⟩
  by_cases hA : at_ < 0
  · go_enter Try.func6, Try.ntmps6
    go_wp2_with fail
    refine (hfin'.out _ Q0.out).mono ?_
    rintro e w2 ⟨rfl, hb2⟩
    have Q2 := hid hb2
    clear hb2
    go_wp2_with fail
    go_ret
    exact ⟨rfl, Q2.out⟩
  by_cases hB : (ps.length : Int) < at_
  · go_enter Try.func6, Try.ntmps6
    go_wp2_with fail
    refine (hfin'.out _ Q0.out).mono ?_
    rintro e w2 ⟨rfl, hb2⟩
    have Q2 := hid hb2
    clear hb2
    go_wp2_with fail
    go_ret
    exact ⟨rfl, Q2.out⟩
  obtain ⟨a, rfl⟩ : ∃ a : Nat, at_ = a := ⟨at_.toNat, by omega⟩
  have ha : a ≤ ps.length := by omega
  have hL' : ps.length ≤ 100 := by omega
  have hd1 : decide ((100 : Int) < ps.length) = false := decide_eq_false (by omega)
  have hd2 : decide ((a : Int) < 0) = false := decide_eq_false (by omega)
  have hd3 : decide ((ps.length : Int) < a) = false := decide_eq_false (by omega)
  have hd4 : decide (ps.length < a) = false := decide_eq_false (by omega)
  clear hA hB hL
  go_enter Try.func6, Try.ntmps6
  go_wp2_with fail
  go_loopw [7, 8] (fun m u wr => ∃ j : Nat, u = .int .i64 ((j : Int) - 1) ∧ a ≤ j ∧ j ≤ ps.length ∧ wr.ownsRow (w.heap.size + 1) 36 7 m (ps.length - j) (pairCells (ps.reverse.take (ps.length - j))) ∧
    Blk wr w.heap.size (lwArr role tier label x y) 40 ∧ Below w.heap.size w wr) (fun _ u _ => (intOf u + 1 - a).toNat)
  case atStart =>
    refine ⟨ps.length, by go_num, ha, Nat.le_refl _, ?_, B0.out, Q0.out⟩
    rw [Nat.sub_self, List.take_zero]
    exact World.ownsRow_nil _ _ _ _
  case round =>
    obtain ⟨j', hu, haj, hjl, hO, hW, hQ⟩ := hrel
    have hO' := hid hO
    have hW' := hid hW
    have hQ' := hid hQ
    clear hO hW hQ
    by_cases hlt : a < j'
    · obtain ⟨j, rfl⟩ : ∃ j, j' = j + 1 := ⟨j' - 1, by omega⟩
      have hu2 : u8 = .int .i64 (j : Nat) := by rw [hu]; congr 1; omega
      subst hu2
      clear hu
      have hjlt : j < ps.length := by omega
      obtain ⟨g, off, rfl, hg⟩ := hPR.out (by omega)
      have hat := hid ((hg.ext hQ'.out).get j hjlt)
      have hone := hid ((ruleArr_one ps[j].1 (P0.out _ (List.getElem_mem hjlt)).1.one))
      have hrev := hid (rev_snoc hjlt)
      generalize ps[j] = p at *
      clear hg
      have hc1 := hid (cells_new wr (ruleArr p.1 p.2).toList 36 (k := wr.heap.size) rfl)
      rw [Array.toArray_toList] at hc1
      have hal := hid (hO'.out.alloc (.cells (ruleArr p.1 p.2) 36))
      have hone2 : Hid (∀ u ∈ (ruleArr p.1 p.2).toList, u.oneCell' = true) := hid (fun u hu => (Array.all_eq_true_iff_forall_mem.1 hone.out) u (by simpa using hu))
      have hlen7 : (ruleArr p.1 p.2).toList.length = 7 := rfl
      have hcap : ps.length - (j + 1) + 1 ≤ maxLen := by unfold maxLen; omega
      have hz5 := hQ'.out.size
      have hwlt := hW'.out.lt
      go_upto_region 7 with (fail)
      go_wp2_with (first | (refine wpList_load_at rfl 36 (.tmp 35) rfl 36 rfl g (off + j * 7) (ruleArr p.1 p.2) (hat.out) rfl Try.underlying36 rfl (by kernel_rfl) ?_) | (refine wpList_buildOne rfl 24 36 (.tmp 36) rfl 37 rfl Try.underlying24 i0 _ hinf hiz 7 hisz (by decide) (by decide) (ruleArr p.1 p.2) rfl rfl ?_) | (at_builtin; refine Go.wpList_append_own_at _ rfl _ _ 24 rfl (w.heap.size + 1) 36 i0 _ 7 72 Try.underlying24 hinf hiz hisz hiby rfl (by decide) _ _ _ rfl hal.out ⟨wr.heap.size, 0, none⟩ 1 1 (ruleArr p.1 p.2).toList rfl hlen7 hc1.out hone2.out hcap (by omega) (by simp; omega) ?_; intro v6 w6 hown6 hgrow _ hat6))
      go_roundw
      case rel =>
        have ha5 := balloc wr (.cells (ruleArr p.1 p.2) 36)
        refine ⟨j, by go_num, by omega, by omega, ?_, ?_, ?_⟩
        · have e : ps.length - j = ps.length - (j + 1) + 1 := by omega
          rw [← hrev.out, pairCells_snoc, e]
          exact hown6
        · exact Blk.grown (hW'.out.alloc _) hgrow (own_ne hal.out (by omega))
        · exact (hQ'.out.alloc hQ'.out.size _).grown hgrow (by rw [World.size_alloc]; omega) (fun k hk => by have := (hal.out.lt k hk).1; omega)
      case measure => simp [intOf]; omega
    · obtain rfl : j' = a := by omega
      subst hu
      have hrv := hid (rev_drop ps j' ha)
      rw [hrv.out] at hO'
      have hn0 : ps.length - j' + 0 = ps.length - j' := rfl
      go_wp2_with fail
      have hlen0 : ∀ i : Nat, i ≤ j' → (((ps.drop j').reverse ++ ps.take i).length = ps.length - j' + i) := by
        intro i hi
        simp only [List.length_append, List.length_reverse, List.length_drop, List.length_take]
        omega
      have hlen0' := hid hlen0
      clear hlen0 hrv
      go_loopw [7, 9] (fun m u w2 => ∃ i : Nat, u = .int .i64 (i : Nat) ∧ i ≤ j' ∧ w2.ownsRow (w.heap.size + 1) 36 7 m (ps.length - j' + i) (pairCells ((ps.drop j').reverse ++ ps.take i)) ∧
        Blk w2 w.heap.size (lwArr role tier label x y) 40 ∧ Below w.heap.size w w2) (fun _ u _ => j' - (intOf u).toNat)
      case atStart =>
        refine ⟨0, by go_num, Nat.zero_le _, ?_, hW'.out, hQ'.out⟩
        rw [List.take_zero, List.append_nil]
        exact hO'.out
      case round =>
        clear hO' hW' hQ'
        obtain ⟨i, rfl, hi, hO, hW, hQ⟩ := hrel
        have hO' := hid hO
        have hW' := hid hW
        have hQ' := hid hQ
        clear hO hW hQ
        by_cases hlt2 : i < j'
        · have hjlt : i < ps.length := by omega
          obtain ⟨g, off, rfl, hg⟩ := hPR.out (by omega)
          have hat := hid ((hg.ext hQ'.out).get i hjlt)
          have hone := hid ((ruleArr_one ps[i].1 (P0.out _ (List.getElem_mem hjlt)).1.one))
          have hrev := hid (show (ps.drop j').reverse ++ ps.take i ++ [ps[i]] = (ps.drop j').reverse ++ ps.take (i + 1) by rw [List.append_assoc, List.take_append_getElem hjlt])
          generalize ps[i] = p at *
          clear hg
          have hc1 := hid (cells_new wr (ruleArr p.1 p.2).toList 36 (k := wr.heap.size) rfl)
          rw [Array.toArray_toList] at hc1
          have hal := hid (hO'.out.alloc (.cells (ruleArr p.1 p.2) 36))
          have hone2 : Hid (∀ u ∈ (ruleArr p.1 p.2).toList, u.oneCell' = true) := hid (fun u hu => (Array.all_eq_true_iff_forall_mem.1 hone.out) u (by simpa using hu))
          have hlen7 : (ruleArr p.1 p.2).toList.length = 7 := rfl
          have hcap : ps.length - j' + i + 1 ≤ maxLen := by unfold maxLen; omega
          have hz5 := hQ'.out.size
          have hwlt := hW'.out.lt
          go_upto_region 11 with (fail)
          go_wp2_with (first | (refine wpList_load_at rfl 36 (.tmp 47) rfl 48 rfl g (off + i * 7) (ruleArr p.1 p.2) (hat.out) rfl Try.underlying36 rfl (by kernel_rfl) ?_) | (refine wpList_buildOne rfl 24 36 (.tmp 48) rfl 49 rfl Try.underlying24 i0 _ hinf hiz 7 hisz (by decide) (by decide) (ruleArr p.1 p.2) rfl rfl ?_) | (at_builtin; refine Go.wpList_append_own_at _ rfl _ _ 24 rfl (w.heap.size + 1) 36 i0 _ 7 72 Try.underlying24 hinf hiz hisz hiby rfl (by decide) _ _ _ rfl hal.out ⟨wr.heap.size, 0, none⟩ 1 1 (ruleArr p.1 p.2).toList rfl hlen7 hc1.out hone2.out hcap (by omega) (by simp; omega) ?_; intro v6 w6 hown6 hgrow _ hat6))
          go_roundw
          case rel =>
            have ha5 := balloc wr (.cells (ruleArr p.1 p.2) 36)
            refine ⟨i + 1, by go_num, by omega, ?_, ?_, ?_⟩
            · rw [← hrev.out, pairCells_snoc]
              exact hown6
            · exact Blk.grown (hW'.out.alloc _) hgrow (own_ne hal.out (by omega))
            · exact (hQ'.out.alloc hQ'.out.size _).grown hgrow (by rw [World.size_alloc]; omega) (fun k hk => by have := (hal.out.lt k hk).1; omega)
          case measure => simp [intOf]; omega
        · obtain rfl : i = j' := by omega
          have hM := hid (RSl.of_own hO'.out (hlen0'.out i (Nat.le_refl _)).symm (fun p hp => by
            refine (P0.out.ext hQ'.out) p ?_
            rcases List.mem_append.1 hp with hp | hp
            · exact List.mem_of_mem_drop (List.mem_reverse.1 hp)
            · exact List.mem_of_mem_take hp))
          have hmap : ((ps.drop i).reverse ++ ps.take i).map (·.1) = ((ps.map (·.1)).drop i).reverse ++ (ps.map (·.1)).take i := by
            rw [List.map_append, List.map_reverse, List.map_drop, List.map_take]
          rw [hmap] at hM
          have hR := hid (R0.out.ext hQ'.out)
          have hmlen : Hid ((((ps.map (·.1)).drop i).reverse ++ (ps.map (·.1)).take i).length ≤ 140737488355328) := hid (by
            simp only [List.length_append, List.length_reverse, List.length_drop, List.length_take, List.length_map]; omega)
          have hz1 := hid ((Ru.zoom_perm (Ru.turned_perm (ps.map (·.1)) i) role tier label x y).symm)
          have hz2 := hid ((Ru.cloaks_perm (Ru.turned_perm (ps.map (·.1)) i) role).symm)
          have cZ1 : ∀ d os, Calls Try.prog 12 #[.slice vp ps.length vc, .agg #[.int .i64 role, .int .i64 tier, .int .i64 label, .int .i64 x, .int .i64 y]] (grow (redrawn wr d) os) fun e w'' => e = .returned (.int .i64 (Ru.zoomV (ps.map (·.1)) role tier label x y)) ∧ ∃ p : Regrown, w'' = grow (redrawn wr p.d) p.os :=
            fun d os => Calls.regrown_of (lzoom_any role tier label x y (hR.out.ext (below_regrown wr d os)) (by rw [List.length_map]; exact hn))
          have cZ2 : ∀ d os, Calls Try.prog 12 #[u7, .agg #[.int .i64 role, .int .i64 tier, .int .i64 label, .int .i64 x, .int .i64 y]] (grow (redrawn wr d) os) fun e w'' => e = .returned (.int .i64 (Ru.zoomV (ps.map (·.1)) role tier label x y)) ∧ ∃ p : Regrown, w'' = grow (redrawn wr p.d) p.os := by
            intro d os
            have := Calls.regrown_of (lzoom_any role tier label x y (hM.out.ext (below_regrown wr d os)) hmlen.out)
            rw [hz1.out] at this
            exact this
          have cC1 : ∀ d os, Calls Try.prog 19 #[.slice vp ps.length vc, .int .i64 role] (grow (redrawn wr d) os) fun e w'' => e = .returned (.bool (Ru.cloaksV (ps.map (·.1)) role)) ∧ ∃ p : Regrown, w'' = grow (redrawn wr p.d) p.os :=
            fun d os => Calls.regrown_of (cloaks_any role (hR.out.ext (below_regrown wr d os)) (by rw [List.length_map]; exact hn))
          have cC2 : ∀ d os, Calls Try.prog 19 #[u7, .int .i64 role] (grow (redrawn wr d) os) fun e w'' => e = .returned (.bool (Ru.cloaksV (ps.map (·.1)) role)) ∧ ∃ p : Regrown, w'' = grow (redrawn wr p.d) p.os := by
            intro d os
            have := Calls.regrown_of (cloaks_any role (hM.out.ext (below_regrown wr d os)) hmlen.out)
            rw [hz2.out] at this
            exact this
          have cK : ∀ d os, Calls Try.prog 7 #[] (grow (redrawn wr d) os) fun e w'' => e = .returned (.bool true) ∧ ∃ p : Regrown, w'' = grow (redrawn wr p.d) p.os := fun d os => Calls.regrown_of (known_any _)
          generalize Ru.zoomV (ps.map (·.1)) role tier label x y = z at *
          generalize Ru.cloaksV (ps.map (·.1)) role = b at *
          have c0 : ∀ d os, (grow (redrawn wr d) os).cell? ⟨w.heap.size, 0, none⟩ = some (.int .i64 role) := cell_regrown (hW'.out.cell 0 rfl)
          have c1 : ∀ d os, (grow (redrawn wr d) os).cell? ⟨w.heap.size, 1, none⟩ = some (.int .i64 tier) := cell_regrown (hW'.out.cell 1 rfl)
          have c2 : ∀ d os, (grow (redrawn wr d) os).cell? ⟨w.heap.size, 2, none⟩ = some (.int .i64 label) := cell_regrown (hW'.out.cell 2 rfl)
          have e2 : ∀ d os, (grow (redrawn wr d) os).cell? ⟨w.heap.size, 1 + 1, none⟩ = some (.int .i64 label) := c2
          have c3 : ∀ d os, (grow (redrawn wr d) os).cell? ⟨w.heap.size, 3, none⟩ = some (.int .i64 x) := cell_regrown (hW'.out.cell 3 rfl)
          have e3 : ∀ d os, (grow (redrawn wr d) os).cell? ⟨w.heap.size, 1 + 1 + 1, none⟩ = some (.int .i64 x) := c3
          have c4 : ∀ d os, (grow (redrawn wr d) os).cell? ⟨w.heap.size, 4, none⟩ = some (.int .i64 y) := cell_regrown (hW'.out.cell 4 rfl)
          have e4 : ∀ d os, (grow (redrawn wr d) os).cell? ⟨w.heap.size, 1 + 1 + 1 + 1, none⟩ = some (.int .i64 y) := c4
          clear hM hR hz1 hz2 hmlen hmap
          have hwr := hid (show ∀ (pp : Regrown), Below w.heap.size w (grow (redrawn wr pp.d) pp.os) from fun pp => bthen hQ'.out (below_regrown wr pp.d pp.os))
          clear hO' hW'
          go_upto_region 12 with (fail)
          refine wp_region_quiet_below (by kernel_rfl) (by kernel_rfl) ?_
          quiet_step (fail)
          quiet_step (fail)
          quiet_step (exact cZ1 _ _)
          quiet_step (fail)
          quiet_step (fail)
          quiet_step (exact cZ2 _ _)
          quiet_step (fail)
          quiet_step (fail)
          quiet_step (fail)
          quiet_step (fail)
          quiet_step (fail)
          quiet_step (exact cC1 _ _)
          quiet_step (fail)
          quiet_step (fail)
          quiet_step (fail)
          quiet_step (exact cC2 _ _)
          quiet_step (fail)
          quiet_step (fail)
          quiet_step (fail)
          quiet_step (exact cK _ _)
          quiet_step (fail)
          quiet_step (fail)
          refine wpQuiet_nil ?_
          intro _ hw'
          obtain ⟨pp, hw''⟩ := hw'
          subst hw''
          go_wp2_with fail
          go_ret
          exact ⟨rfl, hwr.out pp⟩

end Go.Proofs.Ytelphkhacadfaaa
