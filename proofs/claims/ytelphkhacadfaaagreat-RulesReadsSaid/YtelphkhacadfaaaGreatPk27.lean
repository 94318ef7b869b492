/-
  The walk of the document's own Check.
-/
import Derived.Test.YtelphkhacadfaaaGreatPk07
import Derived.Test.YtelphkhacadfaaaGreatPk20
import Derived.Test.YtelphkhacadfaaaGreatPk21
import Derived.Test.YtelphkhacadfaaaGreatPk22
import Derived.Test.YtelphkhacadfaaaGreatPk24
import Derived.Test.YtelphkhacadfaaaGreatPk25
import Derived.Test.YtelphkhacadfaaaGreatPk26
import Derived.Test.YtelphkhacadfaaaGreatPk19

namespace Go.Proofs.YtelphkhacadfaaaGreat
open Go.RowKit Go.Sort

set_option maxRecDepth 100000 in
theorem rdright_any (d : Po.Decl) (v : Value) (w : World) (hs0 : d.name.size ≤ 140737488355328) (hs1 : d.role.name.size ≤ 140737488355328) (hs2 : d.label.name.size ≤ 140737488355328) (hs3 : d.place.name.size ≤ 140737488355328) (hr : BRow w v d.boxes) (hn : d.boxes.length ≤ 140737488355328) :
    Calls Tryz.prog 16 #[.agg (declCells d v)] w fun e w' => e = .returned (.bool (Ru.rRight d)) ∧ Below w.heap.size w w' := by
  by_cases h1 : d.kind < 1
  · obtain ⟨bp, bc, rfl⟩ := hr.shape
    have e := hid (show Ru.rRight d = false by unfold Ru.rRight; rw [if_pos (.inl h1)])
    have Q0 := hid (balloc w (.cells (declCells d (.slice bp d.boxes.length bc)) 39))
    have y0 : (declCells d (.slice bp d.boxes.length bc))[0]? = some (.int .i64 d.kind) := rfl
    go_enter Tryz.func16, Tryz.ntmps16
    go_wp2_with fail
    go_ret
    exact ⟨ret_bool e.out.symm, Q0.out⟩
  by_cases h6 : 6 < d.kind
  · obtain ⟨bp, bc, rfl⟩ := hr.shape
    have e := hid (show Ru.rRight d = false by unfold Ru.rRight; rw [if_pos (.inr h6)])
    have Q0 := hid (balloc w (.cells (declCells d (.slice bp d.boxes.length bc)) 39))
    have y0 : (declCells d (.slice bp d.boxes.length bc))[0]? = some (.int .i64 d.kind) := rfl
    go_enter Tryz.func16, Tryz.ntmps16
    go_wp2_with fail
    go_ret
    exact ⟨ret_bool e.out.symm, Q0.out⟩
  by_cases h2 : d.kind ≤ 2
  · exact rdright_12 d v w (by omega) h2 hs0 hs1 hs2 hs3 hr hn
  by_cases h3 : d.kind ≤ 3
  · exact rdright_3 d v w (by omega) h3 hs0 hs1 hs2 hs3 hr hn
  by_cases h5 : d.kind ≤ 5
  · exact rdright_45 d v w (by omega) h5 hs0 hs1 hs2 hs3 hr hn
  · exact rdright_6 d v w (by omega) (by omega) hs0 hs1 hs2 hs3 hr hn

set_option maxRecDepth 100000 in
set_option maxHeartbeats 8000000 in
theorem rcheck_any {w : World} {v : Value} {l : List Po.Decl} (h : DSl w v l) (hn : l.length ≤ 140737488355328) (hs : ∀ d ∈ l, DSmall d) :
    Calls Tryz.prog 7 #[v] w fun e w' => RCheckPost l w' e ∧ Below w.heap.size w w' := by
  obtain ⟨i0, hinf, hiz, hisz, hiby⟩ := info_parts Tryz.infoRule
  obtain ⟨vp, vc, rfl⟩ := h.shape
  have hPR : Hid (0 < l.length → ∃ g off, vp = some ⟨g, off, none⟩ ∧ DRow w g off vc l) := by
    refine hid (fun hpos => ?_)
    rcases h with ⟨_, h0⟩ | ⟨g, off, cap, hv, hr⟩
    · rw [h0] at hpos; simp at hpos
    · cases hv; exact ⟨g, off, rfl, hr⟩
  have B0 := hid (Blk.new w #[.int .i64 0, .int .i64 0, .int .i64 0] 27)
  have Q0 := hid (balloc w (.cells #[.int .i64 0, .int .i64 0, .int .i64 0] 27))
  have hs' := hid hs
  have hn2 := Nat.le_refl w.heap.size
  clear h hs
  go_enter Tryz.func7, Tryz.ntmps7
  go_wp2_with fail
  go_loopw [6] (fun u wr => ∃ i : Nat, u = .int .i64 i ∧ i ≤ l.length ∧ (l.take i).all Ru.rRight = true ∧ Blk wr w.heap.size #[.int .i64 0, .int .i64 0, .int .i64 0] 27 ∧ Below w.heap.size w wr) (fun u _ => l.length - (intOf u).toNat)
  case atStart => exact ⟨0, rfl, Nat.zero_le _, rfl, B0.out, Q0.out⟩
  case round =>
    obtain ⟨i, rfl, hle, hall, hB, hQ⟩ := hrel
    have hall' := hid hall
    have B1 := hid hB
    have Q1 := hid hQ
    clear hall hB hQ B0 Q0
    by_cases hlt : i < l.length
    · obtain ⟨g, off, rfl, hr⟩ := hPR.out (by omega)
      obtain ⟨x, hx⟩ := hr.at Q1.out hlt
      have hx' := hid hx
      have hyes := hid (fun h => all_take hlt hall'.out h)
      have hno := hid (fun h => all_no (p := Ru.rRight) hlt h)
      have hsm := hs'.out _ (List.getElem_mem hlt)
      have hb := hid (rdright_any l[i] x wr hsm.name hsm.role hsm.label hsm.place hx.box (by have := hsm.boxes; omega))
      clear hx hsm hr
      generalize l[i] = d at *
      go_wp2_with (first | (refine wpList_load_at rfl 39 (.tmp 23) rfl 24 rfl g (off + i * 24) (declCells d x) (hx'.out.at_) rfl Tryz.underlying39 rfl (by kernel_rfl) ?_))
      refine hb.out.mono ?_
      rintro en w1 ⟨rfl, hb1⟩
      have B2 := hid (B1.out.ext hb1)
      have Q2 := hid (bthen Q1.out hb1)
      clear hb1 hb
      cases hrr : Ru.rRight d with
      | true =>
        have hy := hid (hyes.out hrr)
        clear hrr
        go_wp2_with fail
        go_roundw
        case rel => exact ⟨i + 1, by go_num, by omega, hy.out, B2.out, Q2.out⟩
        case measure => simp [intOf]; omega
      | false =>
        have hy := hid (show Ru.rcheckV l = .error (1, 0, 0) by unfold Ru.rcheckV; rw [hno.out hrr]; rfl)
        clear hrr
        obtain ⟨d0, d1, d2, df, dz⟩ := B2.out.three
        go_wp2_with fail
        refine bodyPost_ret (v := .tuple #[.slice (some ⟨w1.heap.size, 0, none⟩) 0 0, .agg #[.int .i64 1, .int .i64 0, .int .i64 0]]) (by simp [results, Tryz.results7, go_sem, d0, d1, d2, dz]) rfl ⟨?_, (bset (bset (bset Q2.out hn2 _) hn2 _) hn2 _).alloc (by simp only [szSet]; exact Q2.out.size) _⟩
        unfold RCheckPost
        rw [hy.out]
        exact ⟨_, rfl, by simp only [World.size_alloc, szSet]; omega⟩
    · obtain rfl : i = l.length := by omega
      have ha := hid (show l.all Ru.rRight = true by have h := hall'.out; rw [List.take_length] at h; exact h)
      have e := hid (show Ru.rcheckV l = Ru.rrun [] l [] 0 by unfold Ru.rcheckV; rw [ha.out]; rfl)
      clear hall'
      go_wp2_with fail
      go_loopw [4, 5, 7] (fun v4 v5 u wr => ∃ (i : Nat) (ps : List RP) (bx : Int), u = .int .i64 i ∧ v5 = .int .i64 bx ∧ i ≤ l.length ∧ wr.ownsRow (w.heap.size + 1) 52 7 v4 ps.length (pairCells ps) ∧ POwn w.heap.size wr v4 ps ∧ Ru.rrun [] l [] 0 = Ru.rrun (l.take i) (l.drop i) (ps.map (·.1)) bx ∧ 0 ≤ bx ∧ bx ≤ 32 ∧ ps.length ≤ 32 ∧
        Blk wr w.heap.size #[.int .i64 0, .int .i64 0, .int .i64 0] 27 ∧ Below w.heap.size w wr) (fun _ _ u _ => l.length - (intOf u).toNat)
      case atStart => exact ⟨0, [], 0, rfl, rfl, Nat.zero_le _, World.ownsRow_nil _ _ _ _, fun p hp => by simp at hp, rfl, by omega, by omega, by simp, B1.out, Q1.out⟩
      case round =>
        obtain ⟨i, ps, bx, rfl, rfl, hle, hO, hPin, hV, hb0, hb32, hpl, hB, hQ⟩ := hrel
        have O1 := hid hO
        have P1 := hid hPin
        have V1 := hid hV
        have B2 := hid hB
        have Q2 := hid hQ
        clear hO hPin hV hB hQ B1 Q1
        obtain ⟨rp, rc, rfl⟩ := row_shape (Row.of_owns O1.out)
        by_cases hlt : i < l.length
        · obtain ⟨g, off, rfl, hr⟩ := hPR.out (by omega)
          obtain ⟨x, hx⟩ := hr.at Q2.out hlt
          have hx' := hid hx
          have D0 := hid (DRow.take hr i)
          have hcap := hr.cap
          have hsm := hid (hs'.out _ (List.getElem_mem hlt))
          have hR := hid (List.all_eq_true.1 ha.out _ (List.getElem_mem hlt))
          have htk := hid (show l.take (i + 1) = l.take i ++ [l[i]] from (List.take_append_getElem hlt).symm)
          have hdr := hid (show l.drop i = l[i] :: l.drop (i + 1) from List.drop_eq_getElem_cons hlt)
          clear hx hr
          generalize l[i] = d at *
          have z := balloc wr (.cells (declCells d x) 39)
          have O2 := hid (O1.out.alloc (.cells (declCells d x) 39))
          have P2 := hid (P1.out.ext z)
          have B3 := hid (B2.out.ext z)
          have Q3 := hid (bthen Q2.out z)
          have X3 := hid (Blk.new wr (declCells d x) 39)
          have Y3 := hid (hx'.out.box.ext z)
          have hone := hid hx'.out.one
          have hwl := B2.out.lt
          clear z
          go_upto_region 12 with (first | (refine wpList_load_at rfl 39 (.tmp 37) rfl 38 rfl g (off + i * 24) (declCells d x) (hx'.out.at_) rfl Tryz.underlying39 rfl (by kernel_rfl) ?_) | (refine wpList_store_new rfl 39 (.tmp 8) (.tmp 38) rfl rfl wr 39 _ (declCells d x) rfl rfl rfl (by kernel_rfl) rfl (hx'.out.one) ?_))
          generalize wr.alloc (.cells (declCells d x) 39) = w3 at *
          generalize hdb : wr.heap.size = db at *
          have hdb' : w.heap.size < db := by omega
          clear hx' O1 P1 B2 Q2 hdb
          have y0 := X3.out.cell 0 (v := .int .i64 d.kind) rfl
          by_cases h3 : 3 < d.kind
          · go_upto_region 13 with (fail)
            -- REGION 13
            have t1 : (0 : Int) ≤ i := by omega
            have t2 : (i : Int) ≤ vc := by omega
            obtain ⟨xp, xc, rfl⟩ := Y3.out.shape
            have dpre := hid (show DSl w (.slice (some ⟨g, off, none⟩) (l.take i).length vc) (l.take i) from .inr ⟨g, off, vc, rfl, D0.out⟩)
            have hlti : (l.take i).length = i := by rw [List.length_take]; omega
            rw [hlti] at dpre
            have hti := hid (show (l.take i).length ≤ 140737488355328 by omega)
            have hst := hid (fun d (hd : d ∈ l.take i) => hs'.out d (List.mem_of_mem_take hd))
            clear hlti
            have hdb3 : db < w3.heap.size := X3.out.lt
            have hSx := dS X3.out
            have hSd : _ ∧ _ := dS (Blk.drew X3.out)
            cases hrr : Ru.rrule (l.take i) d ps.length bx with
            | error ff =>
              as_aux_lemma =>
              obtain ⟨er, fl, fk⟩ := ff
              have hrr' := hid hrr
              clear hrr
              go_cut [10] (fun s10 wx => ∃ b10, s10 = .pointer (some ⟨b10, 0, none⟩) ∧ w3.heap.size ≤ b10 ∧ Blk wx b10 #[.int .i64 er, .int .i64 fl, .int .i64 fk] 27 ∧ Below w3.heap.size w3 wx)
              case first =>
                rename_i hJ hM
                refine check_13e hdb' hdb3 t1 t2 hb0 hb32 dpre hti hst Q3 X3 hrr' (hid (fun a' wx hx => ?_))
                obtain ⟨u9, u10, u42, u43, u44, u45, u46, u47, u48, u49, u50, u51, u52, ⟨b10, rfl, c1, c2, c3⟩, rfl⟩ := hx
                refine hM _ _ ?_
                go_meet
                case rel => exact ⟨b10, rfl, c1, c2, c3⟩
              case rest =>
              as_aux_lemma =>
              obtain ⟨b10, rfl, hge, hF, hbel⟩ := hcut
              have hne := hid (rrule_ne hrr'.out)
              have F4 := hid hF
              have Q4 := hid (bthen Q3.out hbel)
              have B4 := hid (B3.out.ext hbel)
              clear hF hbel hSx hSd
              obtain ⟨f0, f1, f2, ff, fz⟩ := F4.out.three
              obtain ⟨d0, d1, d2, df, dz⟩ := B4.out.three
              have nfb : w.heap.size ≠ b10 := by omega
              have nbf : b10 ≠ w.heap.size := by omega
              have e1 : (er != 0) = true := by rw [bne_iff_ne]; exact hne.out
              have ev := hid (show Ru.rcheckV l = .error (er, fl, fk) by
                rw [e.out, V1.out, hdr.out]
                unfold Ru.rrun
                rw [if_pos h3, List.length_map, hrr'.out])
              go_wp2_with fail
              go_region_held3 (fun w' => w'.cell? ⟨b10, 0, none⟩ = some (.int .i64 er) ∧ w'.cell? ⟨b10, 1, none⟩ = some (.int .i64 fl) ∧ w'.cell? ⟨b10, 1 + 1, none⟩ = some (.int .i64 fk)) (go_keep) (first | fail)
              go_wp2_with fail
              refine bodyPost_ret (v := .tuple #[.slice (some ⟨wc.heap.size, 0, none⟩) 0 0, .agg #[.int .i64 er, .int .i64 fl, .int .i64 fk]]) (by simp [results, Tryz.results7, go_sem, d0, d1, d2, dz]) rfl ⟨?_, ((bset (bset (bset Q4.out hn2 _) hn2 _) hn2 _).alloc (by simp only [szSet]; exact Q4.out.size) _).drew⟩
              unfold RCheckPost
              rw [ev.out]
              exact ⟨_, rfl, by simp only [szDrew, World.size_alloc, szSet]; omega⟩
            | ok r =>
              as_aux_lemma =>
              have hrr' := hid hrr
              clear hrr
              go_cut [9, 10] (fun s9 s10 wx => ∃ b9 b10 xv, s9 = .pointer (some ⟨b9, 0, none⟩) ∧ s10 = .pointer (some ⟨b10, 0, none⟩) ∧ w3.heap.size ≤ b9 ∧ w3.heap.size ≤ b10 ∧ Blk wx b9 (ruleArr r xv) 52 ∧ Blk wx b10 #[.int .i64 0, .int .i64 0, .int .i64 0] 27 ∧ BRow wx xv r.boxes ∧ BoxOwn xv r.boxes w.heap.size w3.heap.size ∧ Below w3.heap.size w3 wx)
              case first =>
                rename_i hJ hM
                refine check_13o hdb' hdb3 t1 t2 hb0 hb32 dpre hti hst Q3 X3 hrr' (hid (fun a' wx hx => ?_))
                obtain ⟨u9, u10, u42, u43, u44, u45, u46, u47, u48, u49, u50, u51, u52, ⟨b9, b10, xv, rfl, rfl, c1, c2, c3, c4, c5, c6, c7⟩, rfl⟩ := hx
                refine hM _ _ ?_
                go_meet
                case rel => exact ⟨b9, b10, xv, rfl, rfl, c1, c2, c3, c4, c5, c6, c7⟩
              case rest =>
              as_aux_lemma =>
              obtain ⟨b9, b10, xv, rfl, rfl, hg9, hg10, hR9, hF10, hbx, hbo, hbel⟩ := hcut
              obtain ⟨vp5, vc5, rfl⟩ := hbx.shape
              obtain ⟨hbd, hpl32⟩ := rrule_ok hrr'.out hb32
              have R9 := hid hR9
              have Q4 := hid (bthen Q3.out hbel)
              have B4 := hid (B3.out.ext hbel)
              have O4 := hid (owns_ext O2.out hbel)
              have P4 := hid (P2.out.ext hbel)
              have X4 := hid hbx
              have N4 := hid (show ∀ k, (Value.slice rp ps.length rc).ownBlock = some k → w.heap.size < k ∧ k < w3.heap.size from fun k e => by have := O2.out.lt k e; omega)
              have BO := hid hbo
              have f0 : wc.cell? ⟨b10, 0, none⟩ = some (.int .i64 0) := hF10.cell 0 rfl
              have q5 := hR9.cell 5 (v := .slice vp5 r.boxes.length vc5) rfl
              have hI := hid hrr'.out
              clear hR9 hF10 hbx hbel hbo hSx hSd
              go_upto_region 17 with (fail)
              clear f0 q5
              have hone := hid (ruleArr_one r (v := .slice vp5 r.boxes.length vc5) rfl)
              have hc1 := hid (cells_new wc (ruleArr r (.slice vp5 r.boxes.length vc5)).toList 52 (k := wc.heap.size) rfl)
              rw [Array.toArray_toList] at hc1
              have hal := hid (O4.out.alloc (.cells (ruleArr r (.slice vp5 r.boxes.length vc5)) 52))
              have hone2 : Hid (∀ u ∈ (ruleArr r (.slice vp5 r.boxes.length vc5)).toList, u.oneCell' = true) := hid (fun u hu => (Array.all_eq_true_iff_forall_mem.1 hone.out) u (by simpa using hu))
              have hlen7 : (ruleArr r (.slice vp5 r.boxes.length vc5)).toList.length = 7 := rfl
              have hcap7 : ps.length + 1 ≤ maxLen := by unfold maxLen; omega
              have hz5 := Q4.out.size
              go_wp2_with (first | (refine wpList_load_blk rfl 52 (.tmp 9) rfl 64 rfl b9 52 (ruleArr r (.slice vp5 r.boxes.length vc5)) (R9.out) rfl Tryz.underlying52 rfl (by kernel_rfl) ?_) | (refine wpList_buildOne rfl 22 52 (.tmp 64) rfl 65 rfl Tryz.underlying22 i0 _ hinf hiz 7 hisz (by decide) (by decide) (ruleArr r (.slice vp5 r.boxes.length vc5)) rfl rfl ?_) | (at_builtin; refine Go.wpList_append_own_at _ rfl _ _ 22 rfl (w.heap.size + 1) 52 i0 _ 7 72 Tryz.underlying22 hinf hiz hisz hiby rfl (by decide) _ _ _ rfl hal.out ⟨wc.heap.size, 0, none⟩ 1 1 (ruleArr r (.slice vp5 r.boxes.length vc5)).toList rfl hlen7 hc1.out hone2.out hcap7 (by omega) (by simp; omega) ?_; intro v6 w6 hown6 hgrow _ hat6))
              go_roundw
              case rel =>
                refine ⟨i + 1, ps ++ [(r, .slice vp5 r.boxes.length vc5)], bx + r.boxes.length, by go_num, rfl, by omega, by rw [pairCells_snoc, List.length_append]; exact hown6, ?_, ?_, by omega, by omega, by rw [List.length_append]; simp only [List.length_cons, List.length_nil]; omega, ?_, ?_⟩
                · exact POwn.snoc (P4.out.alloc _) (by omega) (X4.out.ext (balloc wc _)) (by omega) BO.out N4.out hgrow hat6
                · rw [V1.out, hdr.out]
                  conv => lhs; unfold Ru.rrun
                  rw [if_pos h3, List.length_map, hI.out, htk.out]
                  simp
                · exact Blk.grown (B4.out.alloc _) hgrow (own_ne hal.out (by omega))
                · exact (Q4.out.alloc Q4.out.size _).grown hgrow (by rw [World.size_alloc]; omega) (fun k hk => by have := (hal.out.lt k hk).1; omega)
              case measure => simp [intOf]; omega
          · -- SMALL KINDS
            as_aux_lemma =>
            have t1 : (0 : Int) ≤ i := by omega
            have t2 : (i : Int) ≤ vc := by omega
            obtain ⟨xp, xc, rfl⟩ := Y3.out.shape
            have dpre := hid (show DSl w (.slice (some ⟨g, off, none⟩) (l.take i).length vc) (l.take i) from .inr ⟨g, off, vc, rfl, D0.out⟩)
            have hlti : (l.take i).length = i := by rw [List.length_take]; omega
            rw [hlti] at dpre
            have hti := hid (show (l.take i).length ≤ 140737488355328 by omega)
            clear hlti
            have hdb3 : db < w3.heap.size := X3.out.lt
            have hSx := kS X3.out
            have hSd : _ ∧ _ := kS (Blk.drew X3.out)
            go_upto_region 18 with (fail)
            clear y0
            cases hdc : Ru.declared (l.take i) d.kind d.name with
            | some d2 =>
              as_aux_lemma =>
              have hdc' := hid hdc
              clear hdc
              go_cut [12] (fun s12 wx => s12 = .bool true ∧ Below w3.heap.size w3 wx)
              case first =>
                rename_i hJ hM
                refine check_18s hdb' hdb3 t1 t2 hb0 hb32 dpre hti (hid (fun d (hd : d ∈ l.take i) => hs'.out d (List.mem_of_mem_take hd))) Q3 X3 hdc' (hid (fun a' wx hx => ?_))
                obtain ⟨u11, u12, u67, u68, u69, u70, u71, u72, u73, u74, u75, u76, u77, ⟨rfl, c1⟩, rfl⟩ := hx
                refine hM _ _ ?_
                go_meet
                case rel => exact ⟨rfl, c1⟩
              case rest =>
              as_aux_lemma =>
              obtain ⟨rfl, hbel⟩ := hcut
              have Q4 := hid (bthen Q3.out hbel)
              have B4 := hid (B3.out.ext hbel)
              have X4 := hid (X3.out.ext hbel)
              have hwc := hbel.size
              clear hbel hSx hSd
              have ev := hid (show Ru.rcheckV l = .error (20, d.line, d.col) by
                rw [e.out, V1.out, hdr.out]
                unfold Ru.rrun
                rw [if_neg (by omega), if_pos (by rw [hdc'.out]; rfl)])
              obtain ⟨d0, d1, d2, df, dz⟩ := B4.out.three
              have nfb : w.heap.size ≠ db := by omega
              have nbf : db ≠ w.heap.size := by omega
              have p0 : wc.cell? ⟨db, 22, none⟩ = some (.int .i64 d.line) := X4.out.cell 22 rfl
              have p1 : wc.cell? ⟨db, 22 + 1, none⟩ = some (.int .i64 d.col) := X4.out.cell 23 rfl
              generalize d.line = dl at *
              generalize d.col = dk at *
              go_wp2_with fail
              go_region_held3 (fun w' => w'.cell? ⟨db, 22, none⟩ = some (.int .i64 dl) ∧ w'.cell? ⟨db, 22 + 1, none⟩ = some (.int .i64 dk)) (go_keep) (first | fail)
              go_wp2_with fail
              refine bodyPost_ret (v := .tuple #[.slice (some ⟨wc.heap.size, 0, none⟩) 0 0, .agg #[.int .i64 20, .int .i64 dl, .int .i64 dk]]) (by simp [results, Tryz.results7, go_sem, d0, d1, d2, dz]) rfl ⟨?_, ((bset (bset (bset Q4.out hn2 _) hn2 _) hn2 _).alloc (by simp only [szSet]; exact Q4.out.size) _).drew⟩
              unfold RCheckPost
              rw [ev.out]
              exact ⟨_, rfl, by simp only [szDrew, World.size_alloc, szSet]; omega⟩
            | none =>
              as_aux_lemma =>
              have hdc' := hid hdc
              clear hdc
              go_cut [12] (fun s12 wx => s12 = .bool false ∧ Below w3.heap.size w3 wx)
              case first =>
                rename_i hJ hM
                refine check_18n hdb' hdb3 t1 t2 hb0 hb32 dpre hti (hid (fun d (hd : d ∈ l.take i) => hs'.out d (List.mem_of_mem_take hd))) Q3 X3 hdc' (hid (fun a' wx hx => ?_))
                obtain ⟨u11, u12, u67, u68, u69, u70, u71, u72, u73, u74, u75, u76, u77, ⟨rfl, c1⟩, rfl⟩ := hx
                refine hM _ _ ?_
                go_meet
                case rel => exact ⟨rfl, c1⟩
              case rest =>
              as_aux_lemma =>
              obtain ⟨rfl, hbel⟩ := hcut
              have X4 := hid (X3.out.ext hbel)
              have HB := hid hbel
              have hds := hsm.out.boxes
              clear hbel hSx hSd
              go_upto_region 21 with (fail)
              go_cut [13] (fun s13 wx => s13 = .bool (decide (d.kind < 3) && decide (7 < d.n)) ∧ Below w3.heap.size w3 wx)
              case first =>
                have c0 := X4.out.cell 0 (v := .int .i64 d.kind) rfl
                have c2 := X4.out.cell 2 (v := .int .i64 d.n) rfl
                by_cases hk : d.kind < 3
                · by_cases h7 : 7 < d.n
                  · go_wp2_with fail
                    go_meet
                    case rel => exact ⟨congrArg Value.bool (by rw [decide_eq_true hk, decide_eq_true h7]; rfl), HB.out⟩
                  · go_wp2_with fail
                    go_meet
                    case rel => exact ⟨congrArg Value.bool (by rw [decide_eq_true hk, decide_eq_false (by omega)]; rfl), HB.out⟩
                · go_wp2_with fail
                  go_meet
                  case rel => exact ⟨congrArg Value.bool (by rw [decide_eq_false (by omega)]; rfl), HB.out⟩
              case rest =>
              obtain ⟨rfl, hbel⟩ := hcut
              have HB2 := hid hbel
              clear hbel X4 HB
              generalize hc0 : (decide (d.kind < 3) && decide (7 < d.n)) = cc at *
              have hc0' := hid hc0
              clear hc0
              have hPB : Hid (0 < d.boxes.length → ∃ gg oo, xp = some ⟨gg, oo, none⟩ ∧ SRow w3 gg oo xc 4 boxArr d.boxes) := by
                refine hid (fun hpos => ?_)
                rcases brow_of Y3.out with ⟨_, _, _, h0⟩ | ⟨gg, oo, cap, hv, hr⟩
                · rw [h0] at hpos; simp at hpos
                · cases hv; exact ⟨gg, oo, rfl, hr⟩
              go_wp2_with fail
              go_loopw [13, 14] (fun s13 u wr2 => ∃ (j : Nat) (c : Bool), u = .int .i64 j ∧ s13 = .bool c ∧ j ≤ d.boxes.length ∧ (d.boxes.take j).foldl (fun b x => b || !Ru.boxR x) cc = c ∧ Below w3.heap.size w3 wr2) (fun _ u _ => d.boxes.length - (intOf u).toNat)
              case atStart => exact ⟨0, cc, rfl, rfl, Nat.zero_le _, rfl, HB2.out⟩
              case round =>
                obtain ⟨j, c, rfl, rfl, hlej, hf, hbel⟩ := hrel
                have hf' := hid hf
                have HB3 := hid hbel
                have c3 := (X3.out.ext hbel).cell 3 (v := .slice xp d.boxes.length xc) rfl
                clear hf hbel HB2
                by_cases hltj : j < d.boxes.length
                · obtain ⟨gg, oo, rfl, hg⟩ := hPB.out (by omega)
                  have hat := hid ((hg.ext HB3.out).get j hltj)
                  have hst2 := hid (foldl_take (f := fun b x => b || !Ru.boxR x) hltj hf'.out)
                  generalize d.boxes[j] = bxj at *
                  clear hg
                  cases c with
                  | true =>
                    go_wp2_with fail
                    go_roundw
                    case rel => exact ⟨j + 1, true, by go_num, rfl, by omega, by rw [hst2.out]; rfl, HB3.out⟩
                    case measure => simp [intOf]; omega
                  | false =>
                    go_wp2_with (first | (refine wpList_load_partG rfl 63 (.tmp 103) rfl 104 rfl gg (oo + j * 4) (boxArr bxj) (hat.out) rfl Tryz.underlying63 rfl (by kernel_rfl) ?_))
                    refine (rboxR_any bxj _).mono ?_
                    rintro en w7 ⟨rfl, hb7⟩
                    have HB4 := hid (bthen HB3.out hb7)
                    clear hb7
                    cases hrb : Ru.boxR bxj with
                    | true =>
                      have hrb' := hid hrb
                      clear hrb
                      go_wp2_with fail
                      go_roundw
                      case rel => exact ⟨j + 1, false, by go_num, rfl, by omega, by rw [hst2.out, hrb'.out]; rfl, HB4.out⟩
                      case measure => simp [intOf]; omega
                    | false =>
                      have hrb' := hid hrb
                      clear hrb
                      go_wp2_with fail
                      go_roundw
                      case rel => exact ⟨j + 1, true, by go_num, rfl, by omega, by rw [hst2.out, hrb'.out]; rfl, HB4.out⟩
                      case measure => simp [intOf]; omega
                · obtain rfl : j = d.boxes.length := by omega
                  have hbd := hid (show Ru.rbad d = c by have h := hf'.out; rw [List.take_length, ← hc0'.out] at h; exact h)
                  have Q4 := hid (bthen Q3.out HB3.out)
                  have B4 := hid (B3.out.ext HB3.out)
                  have X4 := hid (X3.out.ext HB3.out)
                  have hwc := HB3.out.size
                  have hd0 : decide ((d.boxes.length : Int) < d.boxes.length) = false := decide_eq_false (by omega)
                  cases c with
                  | true =>
                    have ev := hid (show Ru.rcheckV l = .error (33, d.line, d.col) by
                      rw [e.out, V1.out, hdr.out]
                      unfold Ru.rrun
                      rw [if_neg (by omega), if_neg (by rw [hdc'.out]; decide), if_pos hbd.out])
                    go_upto_region 27 with (fail)
                    clear c3 hd0
                    obtain ⟨d0, d1, d2, df, dz⟩ := B4.out.three
                    have nfb : w.heap.size ≠ db := by omega
                    have nbf : db ≠ w.heap.size := by omega
                    have p0 : wr.cell? ⟨db, 22, none⟩ = some (.int .i64 d.line) := X4.out.cell 22 rfl
                    have p1 : wr.cell? ⟨db, 22 + 1, none⟩ = some (.int .i64 d.col) := X4.out.cell 23 rfl
                    generalize d.line = dl at *
                    generalize d.col = dk at *
                    go_wp2_with fail
                    go_region_held3 (fun w' => w'.cell? ⟨db, 22, none⟩ = some (.int .i64 dl) ∧ w'.cell? ⟨db, 22 + 1, none⟩ = some (.int .i64 dk)) (go_keep) (first | fail)
                    go_wp2_with fail
                    refine bodyPost_ret (v := .tuple #[.slice (some ⟨wr.heap.size, 0, none⟩) 0 0, .agg #[.int .i64 33, .int .i64 dl, .int .i64 dk]]) (by simp [results, Tryz.results7, go_sem, d0, d1, d2, dz]) rfl ⟨?_, ((bset (bset (bset Q4.out hn2 _) hn2 _) hn2 _).alloc (by simp only [szSet]; exact Q4.out.size) _).drew⟩
                    unfold RCheckPost
                    rw [ev.out]
                    exact ⟨_, rfl, by simp only [szDrew, World.size_alloc, szSet]; omega⟩
                  | false =>
                    have hV := hid (show Ru.rrun [] l [] 0 = Ru.rrun (l.take (i + 1)) (l.drop (i + 1)) (ps.map (·.1)) bx by
                      rw [V1.out, hdr.out]
                      conv => lhs; unfold Ru.rrun
                      rw [if_neg (by omega), if_neg (by rw [hdc'.out]; decide), if_neg (by rw [hbd.out]; decide), htk.out])
                    go_wp2_with fail
                    go_roundw
                    case rel => exact ⟨i + 1, ps, bx, by go_num, rfl, by omega, owns_ext O2.out HB3.out, P2.out.ext HB3.out, hV.out, hb0, hb32, hpl, B4.out, Q4.out⟩
                    case measure => simp [intOf]; omega
        · obtain rfl : i = l.length := by omega
          have ev := hid (show Ru.rcheckV l = .ok (ps.map (·.1)) by rw [e.out, V1.out, List.drop_length]; unfold Ru.rrun; rfl)
          obtain ⟨d0, d1, d2, df, dz⟩ := B2.out.three
          go_wp2_with fail
          have ht := ((((Touch.refl w.heap.size wr).setCell 0 (.int .i64 0)).setCell 1 (.int .i64 0)).setCell 2 (.int .i64 0))
          refine bodyPost_ret (v := .tuple #[.slice rp ps.length rc, .agg #[.int .i64 0, .int .i64 0, .int .i64 0]]) (by simp [results, Tryz.results7, go_sem, d0, d1, d2]) rfl ⟨?_, bset (bset (bset Q2.out hn2 _) hn2 _) hn2 _⟩
          unfold RCheckPost
          rw [ev.out]
          exact ⟨_, rfl, RSl.of_own (owns_touch O1.out ht (by omega)) rfl (P1.out.pin ht), by rw [List.length_map]; omega⟩

end Go.Proofs.YtelphkhacadfaaaGreat
