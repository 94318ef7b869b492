/-
  The walk of the checker's region.
-/
import Derived.Test.YtelphkhacadfaaaGreatPk13
import Derived.Deep.AppendLies

namespace Go.Proofs.YtelphkhacadfaaaGreat
open Go.RowKit Go.Sort Go.Maps

theorem brow_news {w : World} {g off n cap : Nat} {l : List Po.Box} (h : Row w (.slice (some ⟨g, off, none⟩) n cap) l.length 4 (boxesCells l)) : ∀ j u, (boxesCells l)[j]? = some u → w.cell? ((⟨g, off, none⟩ : Addr).add j) = some u := by
  rcases h.2 with ⟨hv, _⟩ | ⟨g', off', cap', hv, _, _, hc⟩
  · cases hv
  · cases hv
    intro j u hj
    rw [addr_add]
    exact hc j u hj
/-- what region's last step reads -/
def RgS (bd c br : Nat) (nm : ByteArray) (x : Value) (w : World) : Prop := w.cell? ⟨c, 1, none⟩ = some (.map (some br)) ∧ w.cell? ⟨bd, 1, none⟩ = some (.string nm) ∧ w.cell? ⟨bd, 3, none⟩ = some x
theorem RgS.of {w : World} {bo b1 b2 br c bd : Nat} {ahead : List Po.Decl} {k : Ru.Ck} {rv : Value} {d : Po.Decl} {x : Value} {t : TypeId} (h : Chk w bo b1 b2 br c ahead k rv) (hb : Blk w bd (declCells d x) t) :
    w.cell? ⟨c, 1, none⟩ = some (.map (some br)) ∧ w.cell? ⟨bd, 1, none⟩ = some (.string d.name) ∧ w.cell? ⟨bd, 3, none⟩ = some x := ⟨h.f.c1, hb.cell 1 rfl, hb.cell 3 rfl⟩

set_option maxRecDepth 100000 in
set_option maxHeartbeats 4000000 in
theorem cregion_any {w : World} {bo b1 b2 br c : Nat} {ahead : List Po.Decl} {k : Ru.Ck} {rv : Value} (h : Chk w bo b1 b2 br c ahead k rv) (h0 : k.f.1 = 0) (d : Po.Decl) (x : Value) (hk : d.kind = 3) (hs : d.name.size ≤ 140737488355328) (hl : ahead.length < maxLen)
    (hx : Row w x d.boxes.length 4 (boxesCells d.boxes)) (hbn : 0 < d.boxes.length) (hbs : d.boxes.length * 32 ≤ 140737488355328) :
    Calls Tryz.prog 66 #[.pointer (some ⟨c, 0, none⟩), .agg (declCells d x)] w (CkPost w bo b1 b2 br c ahead d (Ru.ckRegion ahead k d)) := by
  obtain ⟨i0, hinf, hz0, hz1, hz2⟩ := info_parts Tryz.infoRect
  rcases hx.2 with ⟨_, hn0⟩ | ⟨g, off, cap, rfl, hcap, hg, hcc⟩
  · omega
  clear hcc hcap hg
  have hz := balloc w (.cells (declCells d (.slice (some ⟨g, off, none⟩) d.boxes.length cap)) 39)
  have h1 := hid (h.ext hz)
  have t1 := hid (Touch.of_below (b := c) hz)
  have B0 := hid (Blk.new w (declCells d (.slice (some ⟨g, off, none⟩) d.boxes.length cap)) 39)
  have X1 := hid (hx.ext hz)
  obtain ⟨vs, rg, hi1⟩ := (h.ext hz).inn
  have l2 := hi1.lookR hs
  have hc := h.blk.lt
  have hne : w.heap.size ≠ c := by omega
  have hne' : c ≠ w.heap.size := by omega
  obtain ⟨c0, c1, c2, c3, c4, c5, c6, hf, hlt⟩ := h.f
  have hord := hid h.ord
  have y1 : (declCells d (.slice (some ⟨g, off, none⟩) d.boxes.length cap))[1]? = some (.string d.name) := rfl
  have y3 : (declCells d (.slice (some ⟨g, off, none⟩) d.boxes.length cap))[3]? = some (.slice (some ⟨g, off, none⟩) d.boxes.length cap) := rfl
  have hl' := hid hl
  have hk' := hid hk
  have hs' := hid hs
  have h0' := hid h0
  have hbn' := hid hbn
  have hbs' := hid hbs
  clear hz hl hk hs h0 hx hi1
  cases hd : Ru.declared ahead 3 d.name with
  | some d2 =>
    have e := hid (show Ru.ckRegion ahead k d = k.wrong 20 d.line d.col by unfold Ru.ckRegion; rw [hd]; rfl)
    rw [hd] at l2
    simp only [Option.isSome_some] at l2
    generalize lookRv ahead rg d.name = ln at *
    clear hd
    go_enter Tryz.func66, Tryz.ntmps66
    go_wp2_with fail
    go_quiet (fail)
    clear l2 c0 c1 c2 c3 c4 c5 c6 hf
    have h2 := hid (h1.out.drewN nq)
    have t2 := hid (t1.out.drewN nq)
    have B2 := hid (B0.out.drewN nq)
    go_wp2_with (first | (refine wpList_load_at rfl 25 (.tmp 28) rfl 29 rfl w.heap.size (22) (#[.int .i64 d.line, .int .i64 d.col]) (range_pos B2.out) rfl Tryz.underlying25 rfl (by kernel_rfl) ?_))
    refine (cwrong_any h2.out _ _ _).mono ?_
    rintro en w3 ⟨rfl, h3, t3⟩
    have h3' := hid h3
    have t3' := hid (t2.out.trans t3)
    clear h3 t3
    go_wp2_with fail
    go_end0
    exact CkPost.fault h3'.out t3'.out hord.out e.out (wrong_stop h0'.out (by decide) _ _)
  | none =>
    have hd' := hid hd
    rw [hd] at l2
    simp only [Option.isSome_none] at l2
    generalize lookRv ahead rg d.name = ln at *
    cases hbx : Ru.boxesR d.boxes with
    | false =>
      have e := hid (show Ru.ckRegion ahead k d = k.wrong 33 d.line d.col by unfold Ru.ckRegion; rw [hd, hbx]; rfl)
      clear hd
      go_enter Tryz.func66, Tryz.ntmps66
      go_wp2_with fail
      go_quiet (fail)
      clear l2 c0 c1 c2 c3 c4 c5 c6 hf
      have h2 := hid (h1.out.drewN nq)
      have t2 := hid (t1.out.drewN nq)
      have B2 := hid (B0.out.drewN nq)
      have X2 := hid (X1.out.ext (bdrewN (Below.refl _ _) nq))
      have hbl : d.boxes.length ≤ 140737488355328 := by omega
      go_wp2_with fail
      refine (boxes_any X2.out.b hbl).mono ?_
      rw [hbx]
      rintro en w4 ⟨rfl, hb4⟩
      have h4 := hid (h2.out.ext hb4)
      have t4 := hid (t2.out.below hb4)
      have B4 := hid (B2.out.ext hb4)
      clear hb4
      go_wp2_with (first | (refine wpList_load_at rfl 25 (.tmp 37) rfl 38 rfl w.heap.size (22) (#[.int .i64 d.line, .int .i64 d.col]) (range_pos B4.out) rfl Tryz.underlying25 rfl (by kernel_rfl) ?_))
      refine (cwrong_any h4.out _ _ _).mono ?_
      rintro en w3 ⟨rfl, h3, t3⟩
      have h3' := hid h3
      have t3' := hid (t4.out.trans t3)
      clear h3 t3
      go_wp2_with fail
      go_end0
      exact CkPost.fault h3'.out t3'.out hord.out e.out (wrong_stop h0'.out (by decide) _ _)
    | true =>
      have e := hid (show Ru.ckRegion ahead k d = k by unfold Ru.ckRegion; rw [hd, hbx]; rfl)
      clear hd
      go_enter Tryz.func66, Tryz.ntmps66
      go_wp2_with fail
      go_quiet (fail)
      clear l2 c0 c1 c2 c3 c4 c5 c6 hf
      have h2 := hid (h1.out.drewN nq)
      have t2 := hid (t1.out.drewN nq)
      have B2 := hid (B0.out.drewN nq)
      have X2 := hid (X1.out.ext (bdrewN (Below.refl _ _) nq))
      have hbl : d.boxes.length ≤ 140737488355328 := by omega
      go_wp2_with fail
      refine (boxes_any X2.out.b hbl).mono ?_
      rw [hbx]
      rintro en w4 ⟨rfl, hb4⟩
      have h4 := hid (h2.out.ext hb4)
      have t4 := hid (t2.out.below hb4)
      have B4 := hid (B2.out.ext hb4)
      have X4 := hid (X2.out.ext hb4)
      have S4 := RgS.of (h2.out.ext hb4) (B2.out.ext hb4)
      clear hb4 hbx
      have hlen : Hid ((boxesCells d.boxes).length = d.boxes.length * 4) := hid (boxesCells_len d.boxes)
      generalize hbg : d.boxes.length = bl at *
      have hbg' := hid hbg
      clear hbg
      go_wp2_with fail
      go_region_held3 (fun w' => w'.cell? ⟨c, 1, none⟩ = some (.map (some br)) ∧ w'.cell? ⟨w.heap.size, 1, none⟩ = some (.string d.name) ∧ w'.cell? ⟨w.heap.size, 3, none⟩ = some (.slice (some ⟨g, off, none⟩) bl cap)) (first | assumption | exact S4) (
        (refine step_append_lies _ rfl _ _ 35 rfl w4.drew.heap.size 63 i0 (.agg #[.int .i64 0, .int .i64 0, .int .i64 0, .int .i64 0]) 4 32 Tryz.underlying35 hinf hz0 hz1 hz2 rfl (by decide) _ _ _ rfl (World.ownsRow_nil _ _ _ 4) ⟨g, off, none⟩ bl cap (boxesCells d.boxes) rfl hlen.out (brow_news (by rw [hbg'.out]; exact X4.out.ext (Below.refl _ _).drew)) (boxesCells_one _) hbn'.out (by unfold maxLen; omega) (by omega) (Nat.le_refl _) _ rfl ?_
         intro g5 cap5 w5 hown5 hgrow hat5 hlt5
         simp only [Nat.zero_add] at hown5 hgrow ⊢
         have hn5 : Below w4.heap.size w4 w5 := (Below.refl w4.heap.size w4).drew.trans (below_of_grown hgrow)
         obtain ⟨vs5, rg5, hi5⟩ := (h4.out.ext hn5).inn
         obtain ⟨w6, hrun, hput, hg6⟩ := hi5.regs.put lawS Tryz.underlying75 hl'.out (val := .slice (some ⟨g5, 0, none⟩) bl cap5) (keyS hs'.out) trivial
         have S5 := RgS.of (h4.out.ext hn5) (B4.out.ext hn5)
         have ht6 := Touch.of_grown hg6
         have ho5 := hi5.ord
         have hb4 := B4.out.lt
         have ho := hord.out
         have S6 : w6.cell? ⟨c, 1, none⟩ = some (.map (some br)) ∧ w6.cell? ⟨w.heap.size, 1, none⟩ = some (.string d.name) ∧ w6.cell? ⟨w.heap.size, 3, none⟩ = some (.slice (some ⟨g, off, none⟩) bl cap) :=
           ⟨((h4.out.ext hn5).blk.touch ht6 (by omega)).cell 1 rfl, (Blk.touch (B4.out.ext hn5) ht6 (by omega)).cell 1 rfl, (Blk.touch (B4.out.ext hn5) ht6 (by omega)).cell 3 rfl⟩
         have hin := hid (Inner.reg hi5 hk'.out hd'.out (by rw [hbg'.out]; have hr := Row.of_owns hown5; rwa [List.nil_append] at hr) (by rw [hbg'.out]; exact hbs'.out) (fun b hb => by
           have h1 := (hown5.lt b hb).1
           have h2 : w4.drew.heap.size = w4.heap.size := rfl
           refine ⟨by omega, fun hb2 => ?_⟩
           obtain ⟨vs4, rg4, hi4⟩ := h4.out.inn
           have := (hi4.own.lt b hb2).2
           omega) hput hg6)
         have hfin := hid (show CkPost w bo b1 b2 br c ahead d (Ru.ckRegion ahead k d) (.returned (.tuple #[])) w6 from by
           rw [e.out]
           have hsz5 := hn5.size
           have hsz4 := t4.out.size
           exact ⟨rfl, ((t4.out.below hn5).to_below (by omega) (by omega)).trans (ht6.to_below (by omega) (by omega)), _, rv, ⟨(h4.out.ext hn5).blk.touch ht6 (by omega), vs5, _, hin.out⟩, fun _ => rfl⟩)
         clear hin hput hi5 hg6 ht6 ho5 hb4 ho hn5 hown5 hgrow hat5 hlt5))
      go_wp2_with fail
      go_end0
      exact hfin.out

end Go.Proofs.YtelphkhacadfaaaGreat
