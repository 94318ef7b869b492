/-
  The walk of the tree of points: a record is put.
  The walks of the tree of points: Insert, Len.
  The walks of the tree of points: New, Len, Nodes, a counter that is told.
-/
import Derived.Test.YteddkgpnklfppaaPk06
import Derived.StillTailTactics

namespace Go.Proofs.Yteddkgpnklfppaa
open Go.RowKit Go.Sort Go.Maps

theorem TrN.pos {w : World} {t m b : Nat} {N : List Tc.Node} {O : Nat → Prop} (h : TrN w t m b N O) {a : Nat} {n : Tc.Node} (ha : N[a]? = some n) : ∃ (ps : List NP) (p : NP) (g cap : Nat), ps.map (·.1) = N ∧ ps[a]? = some p ∧ p.1 = n ∧ TrM w t m b ps (.slice (some ⟨g, 0, none⟩) ps.length cap) O ∧ ps.length = N.length ∧ a < ps.length := by
  obtain ⟨ps, vN, hN, hM⟩ := h
  have hl : ps.length = N.length := by rw [← hN, List.length_map]
  have hlt : a < ps.length := by have := (List.getElem?_eq_some_iff.1 ha).1; omega
  obtain ⟨g, cap, rfl, _⟩ := hM.nodes (by omega)
  have e := ha
  rw [← hN, List.getElem?_map] at e
  cases hq : ps[a]? with
  | none => rw [hq] at e; simp at e
  | some q => rw [hq] at e; simp at e; exact ⟨ps, q, g, cap, hN, hq, e, hM, hl, hlt⟩
theorem map_set {ps : List NP} {N : List Tc.Node} (h : ps.map (·.1) = N) (a : Nat) (u : NP) : (ps.set a u).map (·.1) = N.set a u.1 := by rw [List.map_set, h]
theorem node_kid (n : Tc.Node) (v : Value) {q : Nat} (hq : q < 4) : (nodeArr n v)[3 + q]? = some (.int .i64 (n.kid q)) := by
  obtain rfl | rfl | rfl | rfl : q = 0 ∨ q = 1 ∨ q = 2 ∨ q = 3 := by omega
  all_goals rfl
set_option maxRecDepth 100000 in
set_option maxHeartbeats 8000000 in
theorem put_step {b f : Nat} (ih : ∀ k, k < f → PutOK b k) : PutOK b f := by
  intro w t m N O a n r A hT hpre hA hAf
  have T0 := hid (hT.ext (balloc w (.cells (recArr r) 40)))
  have X0 := hid (Blk.new w (recArr r) 40)
  have Q0 := hid (balloc w (.cells (recArr r) 40))
  have ih' := hid ih
  have hpre' := hid hpre
  have hbdO : Hid (∀ q, O q → t < q ∧ q < w.heap.size) := by
    obtain ⟨ps, vN, _, hM⟩ := hT
    exact hid hM.bd
  have htw : t < w.heap.size := by
    obtain ⟨ps, vN, _, hM⟩ := hT
    exact hM.blk.lt
  have hxr : (recArr r) = #[.int .i64 r.id, .int .i64 r.x, .int .i64 r.y, .int .i64 r.label] := rfl
  clear hT hpre ih
  go_enter Try.func24, Try.ntmps24
  go_wp2_with fail
  go_loopg [1] f (fun k u1 wr => ∃ (N' : List Tc.Node) (a' : Nat) (n' : Tc.Node) (O' : Nat → Prop), u1 = .int .i64 a' ∧ k ≤ f ∧ TrN wr t m b N' O' ∧ Tc.Pre k N' a' n' r A ∧ Tc.putV b f N a r = Tc.putV b k N' a' r ∧ (∀ q, O' q → O q ∨ w.heap.size + 1 ≤ q) ∧ Keep (TrS t O) w wr ∧ w.heap.size + 1 ≤ wr.heap.size ∧ Blk wr w.heap.size (recArr r) 40)
  case atStart => exact ⟨N, a, n, O, rfl, Nat.le_refl _, T0.out, hpre'.out, rfl, fun q hq => .inl hq, Keep.of_below Q0.out, by rw [World.size_alloc]; omega, X0.out⟩
  case round =>
    obtain ⟨N1, a1, n1, O1, rfl, hkf, hT, hP, hV, hO, hK, hsz, hX⟩ := hrel
    have V1 := hid hV
    have P1 := hid hP
    have O1' := hid hO
    have K1 := hid hK
    have X1 := hid hX
    obtain ⟨f1, rfl⟩ : ∃ j, gk = j + 1 := ⟨gk - 1, by have := hP.pos; omega⟩
    obtain ⟨ps, p, g, cap, hN, hpa, hp1, hM, hlen, hlt⟩ := hT.pos hP.at_
    have hNs := hP.shape.len
    have hps : ps.length ≤ 73014444032 := by omega
    have hltI : (a1 : Int) < ps.length := by omega
    have N1' := hid hN
    have M1 := hid hM
    have hpa' := hid hpa
    obtain ⟨g', cap', hge, htg, hgl, hcell, hfr⟩ := hM.nodes (by omega)
    cases hge
    have c1 : wr.cell? ⟨t, 1, none⟩ = some (.slice (some ⟨g, 0, none⟩) ps.length cap) := hM.blk.cell 1 rfl
    have q8 : wr.cell? ⟨g, a1 * 10 + 8, none⟩ = some (.bool n1.split) := by rw [← hp1]; exact hcell a1 p hpa 8 _ rfl
    have q7 : wr.cell? ⟨g, a1 * 10 + 7, none⟩ = some (.int .i64 n1.many) := by rw [← hp1]; exact hcell a1 p hpa 7 _ rfl
    have hmany : (n1.many : Int) ≤ 1000 := by
      have h1 := (hP.holds a1 n1 hP.at_ (Tc.under_self n1)).1
      have h2 := List.length_filter_le n1.has A
      omega
    have hp1' := hid hp1
    have hgk : g ≠ w.heap.size := by
      intro e
      rcases hO g (hM.inO g rfl) with e2 | e2
      · have := (hbdO.out g e2).2; omega
      · omega
    cases hsp : n1.split with
    | true =>
      rw [hsp] at q8
      obtain ⟨k, m1, hkid, hka, h16, hPk, hVk⟩ := hP.kid hsp
      have hPk' := hid hPk
      have hVk' := hid (hVk b)
      have hkid' := hid hkid
      clear hT hP hV hO hK hX hN hM hpa hPk hVk hp1 hlen hkid hsp
      go_upto_region 3 with (fail)
      have M2 := hid (M1.out.setN (j := 7) (n' := Tc.more n1) (u := .int .i64 (n1.many + 1)) hpa'.out (by decide) (by rw [hp1'.out]; rfl) (by rw [hp1'.out]; rfl))
      have tch : Touch g wr (wr.setCell ⟨g, a1 * 10 + 7, none⟩ (.int .i64 (n1.many + 1))) := (Touch.refl g wr).setCell _ _
      have K2 := hid (Keep.chain K1.out (Keep.of_touch (S := TrS t O1) tch (.inr (M1.out.inO g rfl))) (fun q hq => by
        rcases O1'.out q hq with e | e
        · exact .inl e
        · exact .inr (by omega)))
      have X2 := hid (X1.out.touch tch (Ne.symm hgk))
      have hsz2 : w.heap.size + 1 ≤ (wr.setCell ⟨g, a1 * 10 + 7, none⟩ (.int .i64 (n1.many + 1))).heap.size := by rw [World.size_setCell]; exact hsz
      have tl2 := hid tch
      clear c1 q8 q7 tch hcell hfr K1 X1
      generalize wr.setCell ⟨g, a1 * 10 + 7, none⟩ (.int .i64 (n1.many + 1)) = w2 at *
      have hsa := hid (set_at hlt (Tc.more n1, p.2))
      have hlset : (ps.set a1 (Tc.more n1, p.2)).length = ps.length := List.length_set
      have hkd := hid (tkid_any M2.out (by rw [hlset]; omega) hsa.out h16 hpre'.out.fit)
      have hmap := hid (map_set N1'.out a1 (Tc.more n1, p.2))
      have hq4 := Tc.which_lt n1.lv r
      have kcell := hid (show w2.cell? ⟨g, a1 * 10 + 3 + Tc.which n1.lv r, none⟩ = some (.int .i64 k) from by
        obtain ⟨g2, cap2, hge, _, _, hc2, _⟩ := M2.out.nodes (by rw [hlset]; omega)
        have hgg : g2 = g := by injection hge with e1 e2 e3; injection e1 with e1; injection e1 with e1; exact e1.symm
        subst hgg
        have h1 := hc2 a1 _ hsa.out (3 + Tc.which n1.lv r) _ (node_kid _ _ hq4)
        rw [show (Tc.more n1).kid (Tc.which n1.lv r) = (k : Int) from hkid'.out] at h1
        rw [Nat.add_assoc]
        exact h1)
      have hgw2 : g < w2.heap.size := (M2.out.bd g (M2.out.inO g rfl)).2
      have T2c := hid M2.out.blk
      clear hlset hsa
      have hkd2 := hid (show ∀ w', Below w2.heap.size w2 w' → Calls Try.prog 37 #[.pointer (some ⟨t, 0, none⟩), .int .i64 a1, .agg #[.int .i64 r.x, .int .i64 r.y]] w' fun e w'' => e = .returned (.int .i64 (Tc.which n1.lv r : Nat)) ∧ Below w'.heap.size w' w'' from fun w' hb => tkid_any (M2.out.ext hb) (by rw [List.length_set]; omega) (set_at hlt (Tc.more n1, p.2)) h16 hpre'.out.fit)
      clear hkd
      generalize Tc.which n1.lv r = q at *
      have hqI : (q : Int) < 4 := by omega
      have F2 : w2.drew.cell? ⟨t, 1, none⟩ = some (.slice (some ⟨g, 0, none⟩) ps.length cap) ∧ w2.drew.cell? ⟨w.heap.size, 1, none⟩ = some (.int .i64 r.x) ∧ w2.drew.cell? ⟨w.heap.size, 1 + 1, none⟩ = some (.int .i64 r.y) ∧ w2.drew.cell? ⟨g, a1 * 10 + 3 + q, none⟩ = some (.int .i64 k) := ⟨T2c.out.cell 1 rfl, X2.out.cell 1 rfl, X2.out.cell 2 rfl, kcell.out⟩
      go_region_held3 (fun w' => w'.cell? ⟨t, 1, none⟩ = some (.slice (some ⟨g, 0, none⟩) ps.length cap) ∧ w'.cell? ⟨w.heap.size, 1, none⟩ = some (.int .i64 r.x) ∧ w'.cell? ⟨w.heap.size, 1 + 1, none⟩ = some (.int .i64 r.y) ∧ w'.cell? ⟨g, a1 * 10 + 3 + q, none⟩ = some (.int .i64 k)) (first | with_reducible assumption | go_keep) (first
        | ((go_at_call 37
            with_reducible refine (hkd2.out w2.drew (Below.refl _ _).drew).mono ?_
            rintro en w6 ⟨rfl, hb⟩
            have B6 := hid (show Below w2.heap.size w2 w6 from (Below.refl w2.heap.size w2).drew.trans hb)
            have F6 : w6.cell? ⟨t, 1, none⟩ = some (.slice (some ⟨g, 0, none⟩) ps.length cap) ∧ w6.cell? ⟨w.heap.size, 1, none⟩ = some (.int .i64 r.x) ∧ w6.cell? ⟨w.heap.size, 1 + 1, none⟩ = some (.int .i64 r.y) ∧ w6.cell? ⟨g, a1 * 10 + 3 + q, none⟩ = some (.int .i64 k) := ⟨(Blk.drew T2c.out).ext hb |>.cell 1 rfl, (Blk.drew X2.out).ext hb |>.cell 1 rfl, (Blk.drew X2.out).ext hb |>.cell 2 rfl, (hb.cell (p := ⟨g, a1 * 10 + 3 + q, none⟩) hgw2).trans kcell.out⟩
            clear hb F2)))
      clear F6
      have hs6 := B6.out.size
      go_wp2_with fail
      go_roundg f1
      case measure => omega
      case rel => exact ⟨_, k, m1, O1, rfl, by omega, ⟨_, _, hmap.out, M2.out.ext B6.out⟩, hPk'.out, by rw [V1.out, hVk'.out], O1'.out, K2.out.trans (Keep.of_below B6.out), by omega, X2.out.ext B6.out⟩
    | false =>
      rw [hsp] at q8
      obtain ⟨i0, hinf, hiz, hisz, hiby⟩ := info_parts Try.infoRec
      have hsp' := hid hsp
      have P1' := hid hP
      have hshort := hP.short hsp
      have hll : p.1.l.length = n1.l.length := by rw [hp1]
      obtain ⟨sp, sc, hsl⟩ := owns_shape (hM.recs a1 p hpa)
      rw [hll] at hsl
      have hsl' := hid hsl
      have hlen' := hid hlen
      clear hT hP hV hO hK hX hN hM hpa hp1 hlen hsp hll hsl
      go_upto_region 6 with (fail)
      have M2 := hid (M1.out.setN (j := 7) (n' := Tc.more n1) (u := .int .i64 (n1.many + 1)) hpa'.out (by decide) (by rw [hp1'.out]; rfl) (by rw [hp1'.out]; rfl))
      have tch : Touch g wr (wr.setCell ⟨g, a1 * 10 + 7, none⟩ (.int .i64 (n1.many + 1))) := (Touch.refl g wr).setCell _ _
      have K2 := hid (Keep.chain K1.out (Keep.of_touch (S := TrS t O1) tch (.inr (M1.out.inO g rfl))) (fun q hq => by
        rcases O1'.out q hq with e | e
        · exact .inl e
        · exact .inr (by omega)))
      have X2 := hid (X1.out.touch tch (Ne.symm hgk))
      have hsz2 : w.heap.size + 1 ≤ (wr.setCell ⟨g, a1 * 10 + 7, none⟩ (.int .i64 (n1.many + 1))).heap.size := by rw [World.size_setCell]; exact hsz
      clear c1 q8 q7 tch hcell hfr K1 X1
      generalize wr.setCell ⟨g, a1 * 10 + 7, none⟩ (.int .i64 (n1.many + 1)) = w2 at *
      have hsa := hid (set_at hlt (Tc.more n1, p.2))
      obtain ⟨pv, hpv⟩ : ∃ v, v = p.2 := ⟨_, rfl⟩
      rw [← hpv] at M2 hsa hsl'
      clear hpv
      obtain rfl : pv = .slice sp n1.l.length sc := hsl'.out
      have hnc := hid (show ∀ j u, (nodeArr (Tc.more n1) (.slice sp n1.l.length sc))[j]? = some u → w2.cell? ⟨g, a1 * 10 + j, none⟩ = some u from by
        obtain ⟨g2, cap2, hge, _, _, hc2, _⟩ := M2.out.nodes (by rw [List.length_set]; omega)
        have hgg : g2 = g := by injection hge with e1 e2 e3; injection e1 with e1; injection e1 with e1; exact e1.symm
        subst hgg
        exact hc2 a1 _ hsa.out)
      have hfg := hid (show ∀ o, w2.frozen? ⟨g, o, none⟩ = false from by
        obtain ⟨g2, cap2, hge, _, _, _, hf2⟩ := M2.out.nodes (by rw [List.length_set]; omega)
        have hgg : g2 = g := by injection hge with e1 e2 e3; injection e1 with e1; injection e1 with e1; exact e1.symm
        subst hgg
        exact hf2)
      have q9 : w2.cell? ⟨g, a1 * 10 + 9, none⟩ = some (.slice sp n1.l.length sc) := hnc.out 9 _ rfl
      have q9' : w2.drew.cell? ⟨g, a1 * 10 + 9, none⟩ = some (.slice sp n1.l.length sc) := q9
      have hxS : w2.cell? ⟨w.heap.size, 0, none⟩ = some (.int .i64 r.id) ∧ w2.cell? ⟨w.heap.size, 1, none⟩ = some (.int .i64 r.x) ∧ w2.cell? ⟨w.heap.size, 1 + 1, none⟩ = some (.int .i64 r.y) ∧ w2.cell? ⟨w.heap.size, 1 + 1 + 1, none⟩ = some (.int .i64 r.label) := ⟨X2.out.cell 0 rfl, X2.out.cell 1 rfl, X2.out.cell 2 rfl, X2.out.cell 3 rfl⟩
      have hxS' : w2.drew.cell? ⟨w.heap.size, 0, none⟩ = some (.int .i64 r.id) ∧ w2.drew.cell? ⟨w.heap.size, 1, none⟩ = some (.int .i64 r.x) ∧ w2.drew.cell? ⟨w.heap.size, 1 + 1, none⟩ = some (.int .i64 r.y) ∧ w2.drew.cell? ⟨w.heap.size, 1 + 1 + 1, none⟩ = some (.int .i64 r.label) := hxS
      have nlen : n1.l.length + 1 ≤ maxLen := by unfold maxLen; omega
      have nby : (n1.l.length + 1) * 32 ≤ 140737488355328 := by omega
      have hal := hid (((M2.out.ext (Below.refl w2.heap.size w2).drew).recs a1 _ hsa.out).alloc (.cells (recArr r) 40))
      have hc1 := hid (cells_new w2.drew (recArr r).toList 40 (k := w2.heap.size) rfl)
      have hone : Hid (∀ u ∈ (recArr r).toList, u.oneCell' = true) := hid (fun u hu => (Array.all_eq_true_iff_forall_mem.1 (recArr_one r)) u (by simpa using hu))
      have hwy := hid ((Below.refl w2.heap.size w2).drew.trans (balloc w2.drew (.cells (recArr r) 40)))
      have hba := hid (show t + 1 ≤ (w2.drew.alloc (.cells (recArr r) 40)).heap.size by rw [World.size_alloc]; exact Nat.le_succ_of_le M2.out.blk.lt)
      have hng := hid (show (Value.slice sp n1.l.length sc).ownBlock ≠ some g from fun e => M2.out.sep a1 _ hsa.out g e rfl)
      have hgw := hid (show g < (w2.drew.alloc (.cells (recArr r) 40)).heap.size by rw [World.size_alloc]; exact Nat.lt_succ_of_lt (M2.out.bd g (M2.out.inO g rfl)).2)
      have hgw2 : g < w2.heap.size := (M2.out.bd g (M2.out.inO g rfl)).2
      have hww2 : w.heap.size < w2.heap.size := by omega
      have M2L := hid (show TrM w2 t m b (ps.set a1 (Tc.more n1, .slice sp n1.l.length sc)) (.slice (some ⟨g, 0, none⟩) (ps.set a1 (Tc.more n1, .slice sp n1.l.length sc)).length cap) O1 by rw [List.length_set]; exact M2.out)
      go_region_law (
        (refine step_append_lies _ rfl _ _ 83 rfl (t + 1) 40 i0 _ 4 32 Try.underlying83 hinf hiz hisz hiby rfl (by decide) _ _ _ rfl hal.out ⟨w2.heap.size, 0, none⟩ 1 1 (recArr r).toList rfl rfl hc1.out hone.out (by decide) nlen nby hba.out _ rfl ?_
         intro g5 cap5 w5 hown5 hgrow hat5 hlt5
         have hfin := hid (M2L.out.newL hsa.out hwy.out hown5 hgrow hat5 hlt5)
         have hg5 := hid (hgrow.block g hgw.out (fun e => hng.out e.symm))
         have cc5 : w5.cell? ⟨g, a1 * 10 + 9, none⟩ = some (.slice sp n1.l.length sc) := (World.cell?_of_block (a := ⟨g, a1 * 10 + 9, none⟩) hg5.out).trans ((hwy.out.cell (p := ⟨g, a1 * 10 + 9, none⟩) (M2.out.bd g (M2.out.inO g rfl)).2).trans q9)
         have cf5 : w5.frozen? ⟨g, a1 * 10 + 9, none⟩ = false := (World.frozen?_of_block (a := ⟨g, a1 * 10 + 9, none⟩) hg5.out).trans ((hwy.out.frozen (p := ⟨g, a1 * 10 + 9, none⟩) (M2.out.bd g (M2.out.inO g rfl)).2).trans (hfg.out _))
         have hsz5 := hgrow.size
         clear hown5 hgrow hat5 hlt5))
      all_goals
        have T6 := hid (show TrM (w5.setCell ⟨g, a1 * 10 + 9, none⟩ (.slice (some ⟨g5, 0, none⟩) ((Tc.more n1).l.length + 1) cap5)) t m b (ps.set a1 (Tc.addR n1 r, .slice (some ⟨g5, 0, none⟩) (n1.l.length + 1) cap5)) (.slice (some ⟨g, 0, none⟩) ps.length cap) (fun k => O1 k ∨ k = g5) from by
          have h := hfin.out.1
          rw [List.set_set, List.length_set] at h
          exact h)
        have K6 := hid (Keep.chain K2.out hfin.out.2.2 (fun q hq => by
          rcases O1'.out q hq with e | e
          · exact .inl e
          · exact .inr (by omega)))
        obtain ⟨O6, hO6⟩ : ∃ O6 : Nat → Prop, O6 = (fun k => O1 k ∨ k = g5) := ⟨_, rfl⟩
        have O6' := hid (show ∀ q, O6 q → O q ∨ w.heap.size ≤ q from fun q hq => by
          rw [hO6] at hq
          rcases hq with hq | rfl
          · rcases O1'.out q hq with e | e
            · exact .inl e
            · exact .inr (by omega)
          · rcases hfin.out.2.1 with e | e
            · rcases O1'.out _ e with e2 | e2
              · exact .inl e2
              · exact .inr (by omega)
            · exact .inr (by omega))
        rw [← hO6] at T6
        clear hO6 hfin cc5 cf5 hg5 hsz5 q9 q9' hxS hxS' hal hc1 hone hwy hba hng hgw M2L M2 X2 hnc hfg K2
        generalize w5.setCell ⟨g, a1 * 10 + 9, none⟩ (.slice (some ⟨g5, 0, none⟩) ((Tc.more n1).l.length + 1) cap5) = w6 at *
        have hsa6 := set_at hlt (Tc.addR n1 r, Value.slice (some ⟨g5, 0, none⟩) (n1.l.length + 1) cap5)
        have hmap := hid (map_set N1'.out a1 (Tc.addR n1 r, Value.slice (some ⟨g5, 0, none⟩) (n1.l.length + 1) cap5))
        have t0 : w6.cell? ⟨t, 0, none⟩ = some (.int .i64 b) := T6.out.blk.cell 0 rfl
        obtain ⟨q9, q0⟩ : w6.cell? ⟨g, a1 * 10 + 9, none⟩ = some (.slice (some ⟨g5, 0, none⟩) (n1.l.length + 1) cap5) ∧ w6.cell? ⟨g, a1 * 10, none⟩ = some (.int .i64 n1.lv) := by
          obtain ⟨g2, cap2, hge, _, _, hc2, _⟩ := T6.out.nodes (by rw [List.length_set]; omega)
          have hgg : g2 = g := by injection hge with e1 e2 e3; injection e1 with e1; injection e1 with e1; exact e1.symm
          subst hgg
          exact ⟨hc2 a1 _ hsa6 9 _ rfl, hc2 a1 _ hsa6 0 _ rfl⟩
        clear hsa6
        have hsh : (n1.l.length : Int) ≤ 1000 := by omega
        by_cases hb1 : b < n1.l.length + 1
        · have hbI : (b : Int) < (n1.l.length : Int) + 1 := by omega
          by_cases hb2 : n1.lv < 16
          · have hlI : (n1.lv : Int) < 16 := by omega
            have hdl : decide ((n1.lv : Int) < 16) = true := decide_eq_true hlI
            have hpart := hid (fun w' (hb : Below w6.heap.size w6 w') => tpart_of (ih'.out f1 (by omega)) (T6.out.ext hb) hmap.out P1'.out hsp'.out ⟨hb1, hb2⟩ hA hAf)
            have hv := hid (P1'.out.parts hsp'.out (b := b) ⟨hb1, hb2⟩)
            go_wp2_with fail
            go_quiet (fail)
            go_wp2_with fail
            refine (hpart.out _ (bdrewN (Below.refl _ _) _)).mono ?_
            rintro e w8 ⟨rfl, O8, hT8, hO8, hK8⟩
            have T8 := hid hT8
            have O8' := hid hO8
            have K8 := hid ((Keep.of_below (S := TrS t O6) (bdrewN (Below.refl w6.heap.size w6) nq)).trans hK8)
            clear hT8 hO8 hK8 t0 q9 q0
            go_wp2_with fail
            go_end0
            refine ⟨rfl, O8, ?_, fun q hq => ?_, Keep.chain K6.out K8.out O6'.out⟩
            · rw [V1.out, hv.out]; exact T8.out
            · rcases O8'.out q hq with e | e
              · exact O6'.out q e
              · have := K6.out.size
                exact .inr (Nat.le_trans this e)
          · have hlI : ¬ (n1.lv : Int) < 16 := by omega
            have hdl : decide ((n1.lv : Int) < 16) = false := decide_eq_false hlI
            have hv := hid (P1'.out.add hsp'.out (b := b) (fun h => hb2 h.2))
            go_wp2_with fail
            go_quiet (fail)
            go_wp2_with fail
            go_end0
            refine ⟨rfl, O6, ?_, O6'.out, K6.out.trans (Keep.of_below (bdrewN (Below.refl _ _) _))⟩
            rw [V1.out, hv.out]
            exact ⟨_, _, hmap.out, T6.out.ext (bdrewN (Below.refl _ _) _)⟩
        · have hbI : ¬ (b : Int) < (n1.l.length : Int) + 1 := by omega
          have hdl : decide ((b : Int) < (n1.l.length : Int) + 1) = false := decide_eq_false hbI
          have hdn : decide (b < n1.l.length + 1) = false := decide_eq_false hb1
          have hv := hid (P1'.out.add hsp'.out (b := b) (fun h => hb1 h.1))
          go_wp2_with fail
          go_quiet (fail)
          go_wp2_with fail
          go_end0
          refine ⟨rfl, O6, ?_, O6'.out, K6.out.trans (Keep.of_below (bdrewN (Below.refl _ _) _))⟩
          rw [V1.out, hv.out]
          exact ⟨_, _, hmap.out, T6.out.ext (bdrewN (Below.refl _ _) _)⟩
theorem put_all (b : Nat) : ∀ f, PutOK b f := fun f => by
  induction f using Nat.strongRecOn with
  | _ f ih => exact put_step ih

end Go.Proofs.Yteddkgpnklfppaa

namespace Go.Proofs.Yteddkgpnklfppaa
open Go.RowKit Go.Sort Go.Maps

theorem tstill_tail_at {P : Program} {id : Nat} {Q : Exit → Act → World → Prop} {a : Act} {w : World} {l : List Oper} (n : Nat) (hm : P.follows .mixedOrders = true) (hB : Region.lexTailB .any l.toArray n = true) (w3 : World) (hw : w3 = w.drew)
    (h : wpStill P l.toArray w3 (fun a' => wpList P l.toArray Q (l.drop n) a' w3) (l.take n) a) : (Code.region id l.toArray true).wp P Q a w := wp_region_still_tail n hm hB (by subst hw; exact h)
/-- the records by their IDs -/
def byF (A : List Tc.Rec) : Lit → Option Value
  | .int .i64 k => (A.find? fun r => r.id == k).map fun r => .agg (recArr r)
  | _ => none
theorem byF_none {A : List Tc.Rec} {k : Int} (h : ∀ x ∈ A, x.id ≠ k) : byF A (.int .i64 k) = none := by
  unfold byF
  simp only [Option.map_eq_none_iff, List.find?_eq_none]
  intro x hx
  simpa using h x hx
theorem byF_same {A : List Tc.Rec} {r : Tc.Rec} (h : ∀ x ∈ A, x.id ≠ r.id) : byF (A ++ [r]) (.int .i64 r.id) = some (.agg (recArr r)) := by
  have hn : A.find? (fun x => x.id == r.id) = none := by
    rw [List.find?_eq_none]; intro x hx; simpa using h x hx
  unfold byF
  simp [List.find?_append, hn]
theorem byF_other {A : List Tc.Rec} {r : Tc.Rec} {l : Lit} (h : l ≠ .int .i64 r.id) : byF (A ++ [r]) l = byF A l := by
  unfold byF
  split
  · rename_i k
    have : (r.id == k) = false := beq_eq_false_iff_ne.2 (fun e => h (by rw [e]))
    rw [List.find?_append]
    simp [this]
  · rfl
abbrev KB (w : World) (b n : Nat) (f : Lit → Option Value) : Prop := KMap Try.prog 3 w b n f
structure TrW (w : World) (t m b : Nat) (N : List Tc.Node) (A : List Tc.Rec) (O : Nat → Prop) : Prop where
  mem : TrN w t m b N O
  tree : Tc.Tree N A
  by_ : KB w m A.length (byF A)
  ord : m < t
theorem TrN.lt {w : World} {t m b : Nat} {N : List Tc.Node} {O : Nat → Prop} (h : TrN w t m b N O) : t < w.heap.size := by
  obtain ⟨ps, vN, _, hM⟩ := h
  exact hM.blk.lt
theorem TrN.bd {w : World} {t m b : Nat} {N : List Tc.Node} {O : Nat → Prop} (h : TrN w t m b N O) : ∀ q, O q → t < q ∧ q < w.heap.size := by
  obtain ⟨ps, vN, _, hM⟩ := h
  exact hM.bd
/-- all that a tree may turn -/
def TwS (t m : Nat) (O : Nat → Prop) : Nat → Prop := fun k => k = m ∨ TrS t O k
theorem TrW.keep {w w' : World} {t m b : Nat} {N : List Tc.Node} {A : List Tc.Rec} {O S : Nat → Prop} (h : TrW w t m b N A O) (hk : Keep S w w') (hS : ∀ k, S k → k ≠ t ∧ k ≠ m ∧ ¬ O k) : TrW w' t m b N A O :=
  ⟨h.mem.keep hk (fun k hs => ⟨(hS k hs).1, (hS k hs).2.2⟩), h.tree, h.by_.keep hk (fun e => (hS m e).2.1 rfl), h.ord⟩
theorem TrW.ext {w w' : World} {t m b : Nat} {N : List Tc.Node} {A : List Tc.Rec} {O : Nat → Prop} (h : TrW w t m b N A O) (hb : Below w.heap.size w w') : TrW w' t m b N A O :=
  h.keep (S := fun _ => False) (Keep.of_below hb) (fun _ e => e.elim)
theorem TrW.pos {w : World} {t m b : Nat} {N : List Tc.Node} {A : List Tc.Rec} {O : Nat → Prop} (h : TrW w t m b N A O) : 0 < N.length := by
  obtain ⟨n, h0, _⟩ := h.tree.root
  exact (List.getElem?_eq_some_iff.1 h0).1
theorem tmadeN {w : World} {t m b : Nat} {N : List Tc.Node} {A : List Tc.Rec} {O : Nat → Prop} (h : TrW w t m b N A O) : Calls Try.prog 22 #[.pointer (some ⟨t, 0, none⟩)] w fun e w' => e = .returned (.bool true) ∧ w = w' := by
  have hp := h.pos
  have hl := h.tree.shape.len
  obtain ⟨ps, vN, rfl, hM⟩ := h.mem
  rw [List.length_map] at hp hl
  exact tmade_any hM hp (by omega)
theorem lawI2 : Keyed Try.prog 3 := int_keyed Try.underlying3
theorem keyI2 {k : Int} (h0 : 0 ≤ k) (h1 : k ≤ 1000) : keyOf Try.prog 3 (.int .i64 k) = some (.int .i64 k) :=
  keyOf_int_mk Try.underlying3 (WalkArith.wf_i64 (by omega))
theorem zeroR (w : World) : (zeroValue 40).run Try.prog w = .ok (.agg #[.int .i64 0, .int .i64 0, .int .i64 0, .int .i64 0]) w := by kernel_rfl
theorem tins_no {w : World} {t m b : Nat} {N : List Tc.Node} {A : List Tc.Rec} {O : Nat → Prop} (h : TrW w t m b N A O) {r : Tc.Rec} (hr : Ru.fits r.x r.y = false) :
    Calls Try.prog 8 #[.pointer (some ⟨t, 0, none⟩), .agg (recArr r)] w fun e w' => e = .returned (.int .i64 1) ∧ Below w.heap.size w w' := by
  have z := balloc w (.cells (recArr r) 40)
  have Q0 := hid z
  have X0 := hid (Blk.new w (recArr r) 40)
  have hm := hid (tmadeN (h.ext z))
  have hf := hid (tfits_any r.x r.y)
  rw [hr] at hf
  have hxr : (recArr r) = #[.int .i64 r.id, .int .i64 r.x, .int .i64 r.y, .int .i64 r.label] := rfl
  clear z h hr
  unfold pointV at hf
  go_enter Try.func8, Try.ntmps8
  go_wp2_with fail
  refine hm.out.mono ?_
  rintro e w1 ⟨rfl, rfl⟩
  have x1 : (w.alloc (.cells (recArr r) 40)).cell? ⟨w.heap.size, 1, none⟩ = some (.int .i64 r.x) := X0.out.cell 1 rfl
  have x2 : (w.alloc (.cells (recArr r) 40)).cell? ⟨w.heap.size, 1 + 1, none⟩ = some (.int .i64 r.y) := X0.out.cell 2 rfl
  go_wp2_with fail
  refine (hf.out _).mono ?_
  rintro e w2 ⟨rfl, hb2⟩
  have Q2 := hid (bthen Q0.out hb2)
  clear hb2
  go_wp2_with fail
  go_ret
  exact ⟨rfl, Q2.out⟩
def InsPost (w : World) (t m b : Nat) (N : List Tc.Node) (A : List Tc.Rec) (O : Nat → Prop) (r : Tc.Rec) (w' : World) : Prop :=
  ∃ O', TrW w' t m b (Tc.putV b Tc.fuel N 0 r) (A ++ [r]) O' ∧ (∀ q, O' q → O q ∨ w.heap.size ≤ q) ∧ Keep (TwS t m O) w w'
set_option maxRecDepth 100000 in
set_option maxHeartbeats 4000000 in
theorem tins_yes {w : World} {t m b : Nat} {N : List Tc.Node} {A : List Tc.Rec} {O : Nat → Prop} (h : TrW w t m b N A O) {r : Tc.Rec} (hr : r.fit) (hid0 : 0 ≤ r.id) (hid1 : r.id ≤ 1000) (hnew : ∀ x ∈ A, x.id ≠ r.id) (hA : A.length ≤ 1000) :
    Calls Try.prog 8 #[.pointer (some ⟨t, 0, none⟩), .agg (recArr r)] w fun e w' => e = .returned (.int .i64 0) ∧ InsPost w t m b N A O r w' := by
  have z := balloc w (.cells (recArr r) 40)
  have Q0 := hid z
  have W0 := hid h
  have X0 := hid (Blk.new w (recArr r) 40)
  have T0 := hid (h.ext z)
  have hm := hid (tmadeN (h.ext z))
  have hf := hid (tfits_any r.x r.y)
  rw [fits_of hr] at hf
  have hr' := hid hr
  have hkey := hid (keyI2 hid0 hid1)
  have hno := hid (byF_none hnew)
  have hsm := hid (byF_same hnew)
  have hoth := hid (fun l (hl : l ≠ Lit.int .i64 r.id) => byF_other (A := A) (r := r) hl)
  have hxr : (recArr r) = #[.int .i64 r.id, .int .i64 r.x, .int .i64 r.y, .int .i64 r.label] := rfl
  have htw := h.mem.lt
  have hmt := h.ord
  clear z h hr hnew hid0 hid1
  unfold pointV at hf
  go_enter Try.func8, Try.ntmps8
  go_wp2_with fail
  refine hm.out.mono ?_
  rintro e w1 ⟨rfl, rfl⟩
  have x1 : (w.alloc (.cells (recArr r) 40)).cell? ⟨w.heap.size, 1, none⟩ = some (.int .i64 r.x) := X0.out.cell 1 rfl
  have x2 : (w.alloc (.cells (recArr r) 40)).cell? ⟨w.heap.size, 1 + 1, none⟩ = some (.int .i64 r.y) := X0.out.cell 2 rfl
  go_wp2_with fail
  refine (hf.out _).mono ?_
  rintro e w2 ⟨rfl, hb2⟩
  have Q2 := hid (bthen Q0.out hb2)
  have T2 := hid (T0.out.ext hb2)
  have X2 := hid (X0.out.ext hb2)
  clear hb2 x1 x2 hm hf T0 X0 Q0
  obtain ⟨ps, vN, hN, hM⟩ := T2.out.mem
  have c3 : w2.cell? ⟨t, 3, none⟩ = some (.map (some m)) := hM.blk.cell 3 rfl
  have c3' : w2.drew.cell? ⟨t, 3, none⟩ = some (.map (some m)) := c3
  have ht2 := hM.blk.lt
  have x0 : w2.cell? ⟨w.heap.size, 0, none⟩ = some (.int .i64 r.id) := X2.out.cell 0 rfl
  have x0' : w2.drew.cell? ⟨w.heap.size, 0, none⟩ = some (.int .i64 r.id) := x0
  have hxl := X2.out.lt
  have hl1 : Sem.run Try.prog (Instr.lookup 57 (.map (some m)) (.int .i64 r.id) true) w2.drew = .ok (.tuple #[.agg #[.int .i64 0, .int .i64 0, .int .i64 0, .int .i64 0], .bool false]) w2.drew := by
    have h := (T2.out.by_.drewN 1).look lawI2 Try.underlying57 (zeroR _) hkey.out trivial
    rw [hno.out] at h
    exact h
  have hl2 : Sem.run Try.prog (Instr.lookup 57 (.map (some m)) (.int .i64 r.id) true) (w2.alloc (.cells #[.int .i64 0, .int .i64 0, .int .i64 0, .int .i64 0] 40)).drew = .ok (.tuple #[.agg #[.int .i64 0, .int .i64 0, .int .i64 0, .int .i64 0], .bool false]) (w2.alloc (.cells #[.int .i64 0, .int .i64 0, .int .i64 0, .int .i64 0] 40)).drew := by
    have h := ((T2.out.by_.ext (balloc w2 (.cells #[.int .i64 0, .int .i64 0, .int .i64 0, .int .i64 0] 40))).drewN 1).look lawI2 Try.underlying57 (zeroR _) hkey.out trivial
    rw [hno.out] at h
    exact h
  clear hN hM
  go_wp2_with fail
  go_region
  all_goals
    have z3 : Below w2.heap.size w2 (w2.alloc (.cells #[.int .i64 0, .int .i64 0, .int .i64 0, .int .i64 0] 40)).drew := (balloc w2 _).drew
    have Q3 := hid (bthen Q2.out z3)
    have T3 := hid (T2.out.ext z3)
    have X3 := hid (X2.out.ext z3)
    clear z3 c3 c3' x0 x0' hl1 hl2 Q2 T2 X2 ht2 hxl
    generalize (w2.alloc (.cells #[.int .i64 0, .int .i64 0, .int .i64 0, .int .i64 0] 40)).drew = w3 at *
    go_wp2_with fail
    obtain ⟨w4, hw4⟩ : ∃ w4, w4 = w3.drew := ⟨_, rfl⟩
    have T4 := hid (show TrW w4 t m b N A O from hw4 ▸ T3.out.ext (Below.refl _ _).drew)
    have X4 := hid (show Blk w4 w.heap.size (recArr r) 40 from hw4 ▸ X3.out.drew)
    have Q4 := hid (show Below w.heap.size w w4 from hw4 ▸ Q3.out.drew)
    obtain ⟨ps, vN, hN, hM⟩ := T4.out.mem
    have c3 : w4.cell? ⟨t, 3, none⟩ = some (.map (some m)) := hM.blk.cell 3 rfl
    have x0 : w4.cell? ⟨w.heap.size, 0, none⟩ = some (.int .i64 r.id) := X4.out.cell 0 rfl
    have x1 : w4.cell? ⟨w.heap.size, 1, none⟩ = some (.int .i64 r.x) := X4.out.cell 1 rfl
    have x2 : w4.cell? ⟨w.heap.size, 1 + 1, none⟩ = some (.int .i64 r.y) := X4.out.cell 2 rfl
    have x3 : w4.cell? ⟨w.heap.size, 1 + 1 + 1, none⟩ = some (.int .i64 r.label) := X4.out.cell 3 rfl
    clear hN hM T3 X3 Q3
    refine tstill_tail_at 7 (by kernel_rfl) (by kernel_rfl) w4 hw4 ?_
    clear hw4
    simp only [List.take_succ_cons, List.take_zero, List.drop_succ_cons, List.drop_zero]
    repeat still_step
    try refine wpStill_nil ?_
    refine wpList_put rfl (.tmp 28) (.tmp 30) (.tmp 31) 57 (.inl rfl) rfl 40 lawI2 Try.underlying57 rfl T4.out.by_ (by unfold maxLen; omega) (.int .i64 r.id) (.agg (recArr r)) (.int .i64 r.id) rfl rfl hkey.out trivial ?_
    intro w5 hput hg
    have K5 := hid (Keep.of_grown (S := fun k => k = m) hg (fun k hk => (Option.some.inj hk).symm))
    have B5 := hid (hput _ hsm.out (fun l _ hl => hoth.out l hl))
    clear hput hg c3 x0 x1 x2 x3
    have N5 := hid (T4.out.mem.keep K5.out (fun k hk => by
      subst hk
      exact ⟨by omega, fun e => by have := (W0.out.mem.bd _ e).1; omega⟩))
    have X5 := hid (X4.out.keep K5.out (by omega))
    have x0 : w5.cell? ⟨w.heap.size, 0, none⟩ = some (.int .i64 r.id) := X5.out.cell 0 rfl
    have x1 : w5.cell? ⟨w.heap.size, 1, none⟩ = some (.int .i64 r.x) := X5.out.cell 1 rfl
    have x2 : w5.cell? ⟨w.heap.size, 1 + 1, none⟩ = some (.int .i64 r.y) := X5.out.cell 2 rfl
    have x3 : w5.cell? ⟨w.heap.size, 1 + 1 + 1, none⟩ = some (.int .i64 r.label) := X5.out.cell 3 rfl
    obtain ⟨n0, hpre⟩ := T4.out.tree.pre hr'.out
    have hput := hid (put_all b Tc.fuel w5 t m N O 0 n0 r A N5.out hpre hA T4.out.tree.fit)
    have hs5 := K5.out.size
    have hs4 := Q4.out.size
    clear hpre
    go_wp2_with fail
    refine hput.out.mono ?_
    rintro e w6 ⟨rfl, O6, hT6, hO6, hK6⟩
    have N6 := hid hT6
    have O6' := hid hO6
    have K6 := hid hK6
    clear hT6 hO6 hK6 hput x0 x1 x2 x3
    go_wp2_with fail
    go_ret
    refine ⟨rfl, O6, ⟨N6.out, T4.out.tree.put hr'.out, ?_, hmt⟩, fun q hq => ?_, ?_⟩
    · rw [List.length_append, List.length_singleton]
      exact B5.out.keep K6.out (fun e => by
        rcases e with e | e
        · omega
        · have := (N5.out.bd m e).1; omega)
    · rcases O6'.out q hq with e | e
      · exact .inl e
      · exact .inr (by omega)
    · refine ((Keep.of_below (S := TwS t m O) Q4.out).trans (K5.out.mono (fun k hk => .inl hk))).trans (K6.out.mono (fun k hk => .inr hk))

end Go.Proofs.Yteddkgpnklfppaa

namespace Go.Proofs.Yteddkgpnklfppaa
open Go.RowKit Go.Sort Go.Maps

def NewPost (w : World) (b : Nat) (e : Ending) (w' : World) : Prop :=
  ∃ t m O, e = .returned (.tuple #[.pointer (some ⟨t, 0, none⟩), .int .i64 0]) ∧ w.heap.size ≤ m ∧ TrW w' t m b Tc.rootN [] O
set_option maxRecDepth 100000 in
theorem tqnew_any {b : Nat} (h1 : 1 ≤ b) (h2 : b ≤ 64) (w : World) : Calls Try.prog 5 #[.int .i64 b] w fun e w' => NewPost w b e w' ∧ Below w.heap.size w w' := by
  have hmm := @run_makeMap Try.prog
  have z1 := balloc w (.map #[] 0)
  have hta : treeArr b (.slice none 0 0) w.heap.size = #[.int .i64 b, .slice none 0 0, .slice none 0 0, .map (some w.heap.size)] := rfl
  have z2 := balloc (w.alloc (.map #[] 0)) (.cells (treeArr b (.slice none 0 0) w.heap.size) 61)
  have B2 := hid (Blk.newAt (w := w.alloc (.map #[] 0)) (k := w.heap.size + 1) (by simp) (treeArr b (.slice none 0 0) w.heap.size) 61)
  have M2 := hid ((KMap.made w Try.prog 3).ext z2)
  have Q2 := hid (bthen z1 z2)
  have h1I : ¬ (b : Int) < 1 := by omega
  have h2I : ¬ (64 : Int) < b := by omega
  rw [hta] at B2 M2 Q2
  clear z1 z2 hta
  go_enter Try.func5, Try.ntmps5
  go_wp2_with fail
  have T2 := hid (show TrM ((w.alloc (.map #[] 0)).alloc (.cells #[.int .i64 b, .slice none 0 0, .slice none 0 0, .map (some w.heap.size)] 61)) (w.heap.size + 1) w.heap.size b [] (.slice none 0 0) (fun _ => False) from
    ⟨B2.out, World.ownsRow_nil _ _ _ _, (fun i p hp => by simp at hp), (fun i p hp => by simp at hp), (fun i j p u hp => by simp at hp), (fun q hq => by cases hq), (fun i p hp => by simp at hp), (fun q hq => hq.elim)⟩)
  have hlf := hid (tleaf_any T2.out (by simp) 0 0 0)
  unfold cellV at hlf
  refine hlf.out.mono ?_
  rintro e w3 ⟨rfl, vN, O, hT, hO, hK⟩
  have T3 := hid hT
  have K3 := hid hK
  have hlf2 := hO
  clear hT hO hK
  go_wp2_with fail
  go_ret2
  have B3 : Below w.heap.size w w3 := Q2.out.trans (K3.out.below (by simp only [World.size_alloc]; omega) (fun k hk => by
    rcases hk with rfl | hk
    · omega
    · exact hk.elim))
  refine ⟨⟨w.heap.size + 1, w.heap.size, O, rfl, Nat.le_refl _, ⟨_, _, rfl, T3.out⟩, Tc.root_tree, ?_, by omega⟩, B3⟩
  have h5 := M2.out.keep K3.out (fun e => by
    rcases e with e | e
    · omega
    · exact e)
  exact h5.congr (fun l _ => by unfold byF; split <;> rfl)
theorem wpList_klen {P : Program} {ops : Array Oper} {rest : List Oper} {o : Oper} {a : Act} {w : World} {Q : Exit → Act → World → Prop} (hg : o.guard = none) (m : Operand) (t : TypeId) (hop : o.op = Op.call { callee := Callee.builtin Builtin.len, args := #[m], argTypes := #[t] })
    (b : Nat) (hm : a.eval m = .map (some b)) (n : Nat) (hlen : ∀ ty, (Builtin.len_ #[t] ty #[.map (some b)]).run P w = .ok (.int .i64 n) w) (hK : wpList P ops Q rest (a.put o.dst (.int .i64 n)) w) : wpList P ops Q (o :: rest) a w := by
  refine wpList_plain hg fun K' hK' => ?_
  unfold Oper.wp
  simp [execOp, hop, resolve, invoke, builtin, hm, hlen o.type, Result.andThen]
  exact hK' _ _ hK
theorem ids_keys (A : List Tc.Rec) (l : Lit) (hl : WideAt.IsKeyLit l) : (byF A l).isSome = true ↔ l ∈ A.map (fun r => Lit.int .i64 r.id) := by
  unfold byF
  split
  · rename_i k
    rw [Option.isSome_map, List.find?_isSome]
    simp
  · rename_i h
    simp only [Option.isSome_none, Bool.false_eq_true, false_iff, List.mem_map, not_exists, not_and]
    rintro r _ rfl
    exact h _ rfl
theorem tlen_any {w : World} {t m b : Nat} {N : List Tc.Node} {A : List Tc.Rec} {O : Nat → Prop} (h : TrW w t m b N A O) (hd : A.Pairwise (fun x y => x.id ≠ y.id)) :
    Calls Try.prog 13 #[.pointer (some ⟨t, 0, none⟩)] w fun e w' => e = .returned (.int .i64 A.length) ∧ w = w' := by
  have hm := hid (tmadeN h)
  obtain ⟨ps, vN, hN, hM⟩ := h.mem
  have c3 : w.cell? ⟨t, 3, none⟩ = some (.map (some m)) := hM.blk.cell 3 rfl
  have hks : (A.map (fun r => Lit.int .i64 r.id)).Pairwise (· ≠ ·) := List.pairwise_map.2 (hd.imp (fun {x y} hne e => hne (by injection e)))
  have hlen := fun ty => h.by_.len lawI2 Try.underlying57 ty hks (fun x hx => by obtain ⟨r, _, rfl⟩ := List.mem_map.1 hx; trivial) (ids_keys A)
  rw [List.length_map] at hlen
  clear hN hM h hks
  go_enter Try.func13, Try.ntmps13
  go_wp2_with fail
  refine hm.out.mono ?_
  rintro e w1 ⟨rfl, rfl⟩
  go_wp2_with (first | (at_len; refine wpList_klen rfl (.tmp 9) 57 rfl m rfl A.length hlen ?_))
  go_ret
  exact ⟨rfl, rfl⟩
theorem tnodes_any {w : World} {t m b : Nat} {N : List Tc.Node} {A : List Tc.Rec} {O : Nat → Prop} (h : TrW w t m b N A O) :
    Calls Try.prog 16 #[.pointer (some ⟨t, 0, none⟩)] w fun e w' => e = .returned (.int .i64 N.length) ∧ Below w.heap.size w w' := by
  have hm := hid (tmadeN h)
  have hl := h.tree.shape.len
  obtain ⟨ps, vN, hN, hM⟩ := h.mem
  obtain ⟨p, c, rfl⟩ := owns_shape hM.row
  have c1 : w.cell? ⟨t, 1, none⟩ = some (.slice p ps.length c) := hM.blk.cell 1 rfl
  have c2 : w.cell? ⟨t, 2, none⟩ = some (.slice none 0 0) := hM.blk.cell 2 rfl
  have hlen : Hid (ps.length = N.length) := hid (by rw [← hN, List.length_map])
  have hl2 : ps.length ≤ 73014444032 := by have := hlen.out; omega
  clear hN hM h hl
  go_enter Try.func16, Try.ntmps16
  go_wp2_with fail
  refine hm.out.mono ?_
  rintro e w1 ⟨rfl, rfl⟩
  go_wp2_with fail
  go_quiet (fail)
  go_wp2_with fail
  go_ret
  exact ⟨ret_int (by rw [← hlen.out]), bdrewN (Below.refl _ _) _⟩
theorem lv_one (l : Nat) (r : Tc.Rec) (x : Lit) : (lvF l [r] x).isSome = true ↔ x ∈ [Lit.int .u64 (Tc.key l r.x r.y)] := by
  unfold lvF
  split
  · rename_i k
    have h1 : Tc.cntK l k [r] = if Tc.key l r.x r.y = k then 1 else 0 := by
      have := Tc.cntK_snoc l k [] r
      rw [List.nil_append] at this
      rw [this]
      show Tc.cntK l k [] + _ = _
      unfold Tc.cntK
      simp
    rw [h1]
    by_cases h : Tc.key l r.x r.y = k
    · subst h; simp
    · rw [if_neg h]
      simp only [if_true, Option.isSome_none, Bool.false_eq_true, List.mem_singleton, Lit.int.injEq, true_and, false_iff]
      exact fun e => h e.symm
  · rename_i h
    simp only [Option.isSome_none, Bool.false_eq_true, List.mem_singleton, false_iff]
    intro e
    exact h _ e
theorem tlevel_one {w : World} {y : Nat} {r : Tc.Rec} (hP : Py w y [r]) {l : Nat} (hl : l < 17) :
    Calls Try.prog 36 #[.pointer (some ⟨y, 0, none⟩), .int .i64 l] w fun e w' => e = .returned (.int .i64 1) ∧ w = w' := by
  have hm := hid (tpmade_any hP.blk)
  have c0 : w.cell? ⟨y, l, none⟩ = some (.map (some (y + 1 + l))) := hP.blk.cell l (by rw [pyCells_get _ _ hl, if_pos hl])
  have hlen := fun ty => (hP.at hl).len lawU Try.underlying53 ty (ks := [Lit.int .u64 (Tc.key l r.x r.y)]) (by simp) (fun x hx => by rw [List.mem_singleton.1 hx]; trivial) (fun x _ => lv_one l r x)
  have hlen' : ∀ ty, (Builtin.len_ #[53] ty #[.map (some (y + 1 + l))]).run Try.prog w = .ok (.int .i64 (1 : Nat)) w := hlen
  have h0 : ¬ (l : Int) < 0 := by omega
  have h1 : (l : Int) ≤ 16 := by omega
  clear hP hlen
  go_enter Try.func36, Try.ntmps36
  go_wp2_with fail
  refine hm.out.mono ?_
  rintro e w1 ⟨rfl, rfl⟩
  go_wp2_with (first | (at_len; refine wpList_klen rfl (.tmp 21) 53 rfl (y + 1 + l) rfl 1 hlen' ?_))
  go_ret
  exact ⟨rfl, rfl⟩
theorem tcells_one {w : World} {y : Nat} {r : Tc.Rec} (hP : Py w y [r]) :
    Calls Try.prog 17 #[.pointer (some ⟨y, 0, none⟩)] w fun e w' => e = .returned (.int .i64 17) ∧ w = w' := by
  have hl := hid (fun l (h : l < 17) => tlevel_one hP h)
  clear hP
  go_enter Try.func17, Try.ntmps17
  go_wp2_with fail
  go_loop [3, 4, 5] (fun u3 _ u5 => ∃ i : Nat, u5 = .int .i64 i ∧ u3 = .int .i64 i ∧ i ≤ 17) (fun _ _ u5 => 17 - (intOf u5).toNat)
  case atStart => exact ⟨0, rfl, rfl, by omega⟩
  case round =>
    obtain ⟨i, rfl, rfl, hi⟩ := hrel
    by_cases hlt : i < 17
    · have hc := hid (hl.out i hlt)
      go_wp2_with fail
      refine hc.out.mono ?_
      rintro e w1 ⟨rfl, rfl⟩
      go_wp2_with fail
      go_round
      case rel => exact ⟨i + 1, by go_num, by go_num, by omega⟩
      case measure => simp [intOf]; omega
    · obtain rfl : i = 17 := by omega
      go_wp2_with fail
      go_ret
      exact ⟨rfl, rfl⟩

end Go.Proofs.Yteddkgpnklfppaa
