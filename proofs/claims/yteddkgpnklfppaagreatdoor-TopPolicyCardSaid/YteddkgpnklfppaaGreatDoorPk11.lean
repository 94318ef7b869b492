/-
  The walk of grant: the function that takes a band's runs.
  The walk of grant: bands.
  Maps of whatever elements: what a map's block holds, key by key, as the values themselves.
-/
import Derived.Test.YteddkgpnklfppaaGreatDoorPk10
import Derived.Below
import Derived.Test.YteddkgpnklfppaaGreatDoorPk01
import Derived.Maps.OwnSet

namespace Go.Proofs.YteddkgpnklfppaaGreatDoor
open Go.RowKit Go.Sort

def patchArr (q : Gr.Patch) : Array Value := #[.int .i64 q.box.x0, .int .i64 q.box.y0, .int .i64 q.box.x1, .int .i64 q.box.y1, .int .i64 q.z]
def patchesC (l : List Gr.Patch) : List Value := l.flatMap fun q => (patchArr q).toList
theorem patchesC_snoc (l : List Gr.Patch) (q : Gr.Patch) : patchesC (l ++ [q]) = patchesC l ++ (patchArr q).toList := by unfold patchesC; simp
theorem Tryz.infoPatch : (Tryz.prog.info? 63).map (fun i => (i.zero, i.size, i.bytes)) = some (some (.agg #[.int .i64 0, .int .i64 0, .int .i64 0, .int .i64 0, .int .i64 0]), 5, 40) := by kernel_rfl
/-- the captured variable in which patches are gathered -/
structure OutV (w : World) (ob H : Nat) (ps : List Gr.Patch) (v : Value) : Prop where
  blk : Blk w ob #[v] 49
  row : w.ownsRow H 63 5 v ps.length (patchesC ps)
  lt : ob < H
theorem OutV.ext {w w' : World} {ob H : Nat} {ps : List Gr.Patch} {v : Value} (h : OutV w ob H ps v) (hb : Below w.heap.size w w') : OutV w' ob H ps v := ⟨h.blk.ext hb, owns_ext h.row hb, h.lt⟩
theorem bandP_take {y0 y1 : Int} {runs : List Gr.Span} {i : Nat} (hi : i < runs.length) : Gr.bandP y0 y1 (runs.take (i + 1)) = Gr.bandP y0 y1 (runs.take i) ++ [⟨⟨runs[i].s0, y0, runs[i].s1, y1⟩, runs[i].z⟩] := by
  unfold Gr.bandP
  rw [← List.take_append_getElem hi, List.map_append]
  rfl
theorem SRow.grown {α : Type} {w w' : World} {row : Option Nat} {g off cap size : Nat} {f : α → Array Value} {l : List α} (h : SRow w g off cap size f l) (hg : w.grownBy w' row) (hn : row ≠ some g) : SRow w' g off cap size f l :=
  ⟨h.cap, Nat.lt_of_lt_of_le h.lt hg.size, fun i hi j u hu => (World.cell?_of_block (w := w) (a := ⟨g, off + i * size + j, none⟩) (hg.block g h.lt (Ne.symm hn))).trans (h.get i hi j u hu)⟩
theorem SRow.setOther {α : Type} {w : World} {g off cap size : Nat} {f : α → Array Value} {l : List α} (h : SRow w g off cap size f l) {b : Nat} (hn : g ≠ b) (o : Nat) (u : Value) : SRow (w.setCell ⟨b, o, none⟩ u) g off cap size f l :=
  ⟨h.cap, by simpa [World.setCell] using h.lt, fun i hi j u hu => (World.cell?_of_block (w := w) (a := ⟨g, off + i * size + j, none⟩) (Below.heap_setCell _ _ _ _ hn)).trans (h.get i hi j u hu)⟩

/-- the function value that takes a band -/
def takeFV (ob : Nat) : Value := .func (.func 40) #[] #[.pointer (some ⟨ob, 0, none⟩)]
theorem enter_take (args : Array Value) (w : World) : Sem.run Tryz.prog (callFunc 40 args) w = .ok (.enter 40 args) w := by kernel_rfl
theorem patch_len_snoc {ps : List Gr.Patch} {q : Gr.Patch} : (ps ++ [q]).length = ps.length + 1 := by simp

set_option maxRecDepth 100000 in
set_option maxHeartbeats 8000000 in
theorem tell_any {W0 w : World} {ob : Nat} {ps : List Gr.Patch} {v rv : Value} {runs : List Gr.Span} (y0 y1 : Int) (hO : OutV w ob W0.heap.size ps v) (hT : Touch ob W0 w) (hr : Row w rv runs.length 3 (spansC runs)) (hs : ∀ q, rv.ownBlock = some q → q ≠ ob ∧ v.ownBlock ≠ some q) (hn : ps.length + runs.length ≤ 100000000) :
    Calls Tryz.prog 40 #[.int .i64 y0, .int .i64 y1, rv, .pointer (some ⟨ob, 0, none⟩)] w fun e w' => e = .returned (.tuple #[]) ∧ (∃ v', OutV w' ob W0.heap.size (ps ++ Gr.bandP y0 y1 runs) v') ∧ Touch ob W0 w' := by
  obtain ⟨i0, hinf, hiz, hisz, hiby⟩ := info_parts Tryz.infoPatch
  by_cases h0 : runs.length = 0
  · obtain ⟨rp, rc, rfl⟩ := row_shape hr
    have hnil := List.eq_nil_of_length_eq_zero h0
    subst hnil
    have O0 := hid hO
    have T0 := hid hT
    clear hO hT hr hs hn h0
    go_enter Tryz.func40, Tryz.ntmps40
    go_wp2_with fail
    go_loop [11] (fun u => u = .int .i64 0) (fun _ => 0)
    case atStart => rfl
    case round =>
      subst hrel
      go_wp2_with fail
      go_end0
      exact ⟨rfl, ⟨v, by rw [show Gr.bandP y0 y1 [] = [] from rfl, List.append_nil]; exact O0.out⟩, T0.out⟩
  · rcases spans_srow hr with ⟨_, rfl⟩ | ⟨g, off, cap, rfl, hsr⟩
    · exact absurd rfl h0
    obtain ⟨hgo, hgv⟩ := hs g rfl
    have R0 := hid hsr
    have O0 := hid hO
    have T0 := hid hT
    have hgo' := hid hgo
    have hgv' := hid hgv
    have hob := hO.lt
    clear hO hT hr hs h0 hsr
    go_enter Tryz.func40, Tryz.ntmps40
    go_wp2_with fail
    go_loopw [11] (fun u wr => ∃ (i : Nat) (v' : Value), u = .int .i64 i ∧ i ≤ runs.length ∧ OutV wr ob W0.heap.size (ps ++ Gr.bandP y0 y1 (runs.take i)) v' ∧ SRow wr g off cap 3 spanArr runs ∧ v'.ownBlock ≠ some g ∧ Touch ob W0 wr) (fun u _ => runs.length - (intOf u).toNat)
    case atStart => exact ⟨0, v, rfl, Nat.zero_le _, by rw [List.take_zero, show Gr.bandP y0 y1 [] = [] from rfl, List.append_nil]; exact O0.out, R0.out, hgv'.out, T0.out⟩
    case round =>
      clear O0 R0 T0 hgv'
      obtain ⟨i, v', rfl, hle, hO, hR, hgv, hT⟩ := hrel
      have hgv' := hid hgv
      have T0 := hid hT
      by_cases hlt : i < runs.length
      · have hat := hid (hR.get i hlt)
        have hsn := hid (bandP_take (y0 := y0) (y1 := y1) hlt)
        have hlen : (ps ++ Gr.bandP y0 y1 (runs.take i)).length ≤ 100000000 := by
          unfold Gr.bandP
          rw [List.length_append, List.length_map, List.length_take]; omega
        generalize runs[i] = s at *
        have hF2 := hid (show ps ++ Gr.bandP y0 y1 (runs.take (i + 1)) = (ps ++ Gr.bandP y0 y1 (runs.take i)) ++ [⟨⟨s.s0, y0, s.s1, y1⟩, s.z⟩] by rw [hsn.out, List.append_assoc])
        clear hsn
        generalize ps ++ Gr.bandP y0 y1 (runs.take i) = F at *
        have z1 := balloc wr (.cells (spanArr s) 113)
        have O1 := hid (hO.ext z1)
        have R1 := hid (hR.ext z1)
        have T1 := hid (hT.below z1)
        have hwH := hT.size
        have hone := hid (spanArr_one s)
        obtain ⟨op, oc, hov⟩ := row_shape (Row.of_owns hO.row)
        subst hov
        clear hO hR hT
        have s0 := (Blk.new wr (spanArr s) 113).cell 0 (v := .int .i64 s.s0) rfl
        have s1 := (Blk.new wr (spanArr s) 113).cell 1 (v := .int .i64 s.s1) rfl
        have s2 := (Blk.new wr (spanArr s) 113).cell 2 (v := .int .i64 s.z) rfl
        have b0 := O1.out.blk.cell 0 (v := .slice op F.length oc) rfl
        go_upto_region 3 with (first | (refine wpList_load_at rfl 113 (.tmp 13) rfl 14 rfl g (off + i * 3) (spanArr s) (hat.out) rfl Tryz.underlying113 rfl (by kernel_rfl) ?_) | (refine wpList_store_new rfl 113 (.tmp 8) (.tmp 14) rfl rfl wr 113 _ (spanArr s) rfl rfl rfl (by kernel_rfl) rfl (hone.out) ?_))
        generalize hwa : wr.alloc (.cells (spanArr s) 113) = wa at *
        generalize wr.heap.size = k at *
        clear hwa hat hone
        have hal := hid (O1.out.row.alloc (.cells #[.int .i64 s.s0, .int .i64 y0, .int .i64 s.s1, .int .i64 y1, .int .i64 s.z] 63))
        have hc1 := hid (cells_new wa [.int .i64 s.s0, .int .i64 y0, .int .i64 s.s1, .int .i64 y1, .int .i64 s.z] 63 (k := wa.heap.size) rfl)
        have hone2 : Hid (∀ u ∈ [Value.int .i64 s.s0, .int .i64 y0, .int .i64 s.s1, .int .i64 y1, .int .i64 s.z], u.oneCell' = true) := hid (fun u hu => by simp only [List.mem_cons, List.not_mem_nil, or_false] at hu; rcases hu with rfl | rfl | rfl | rfl | rfl <;> rfl)
        have hcap : F.length + 1 ≤ maxLen := by unfold maxLen; omega
        have hq4 := T1.out.size
        have O2 := hid (O1.out.ext (balloc wa (.cells #[.int .i64 s.s0, .int .i64 y0, .int .i64 s.s1, .int .i64 y1, .int .i64 s.z] 63)))
        have R2 := hid (R1.out.ext (balloc wa (.cells #[.int .i64 s.s0, .int .i64 y0, .int .i64 s.s1, .int .i64 y1, .int .i64 s.z] 63)))
        have T2 := hid (T1.out.below (balloc wa (.cells #[.int .i64 s.s0, .int .i64 y0, .int .i64 s.s1, .int .i64 y1, .int .i64 s.z] 63)))
        have hfr := hid (fun q hq => O1.out.row.lt q hq)
        clear O1 R1 T1
        go_wp2_with (first | (at_builtin; refine Go.wpList_append_own_at _ rfl _ _ 49 rfl W0.heap.size 63 i0 _ 5 40 Tryz.underlying49 hinf hiz hisz hiby rfl (by decide) _ _ _ rfl hal.out ⟨wa.heap.size, 0, none⟩ 1 1 [.int .i64 s.s0, .int .i64 y0, .int .i64 s.s1, .int .i64 y1, .int .i64 s.z] rfl rfl hc1.out hone2.out hcap (by omega) (by simp; omega) ?_; intro v6 w6 hown6 hgrow _ hat6; obtain ⟨p6, c6, rfl⟩ := row_shape (Row.of_owns hown6); have B6 := hid (O2.out.blk.grown hgrow (own_ne O2.out.row hob)); have b6 := B6.out.cell 0 (v := .slice op F.length oc) rfl; have f6 := B6.out.free 0))
        go_roundw
        case rel =>
          refine ⟨i + 1, .slice p6 (F.length + 1) c6, by go_num, by omega, ⟨B6.out.set 0 _, ?_, hob⟩, (R2.out.grown hgrow hgv'.out).setOther hgo'.out 0 _, ?_, ((T2.out.grown hgrow (fun q hq => (hfr.out q hq).1)).setCell 0 _)⟩
          · rw [hF2.out, patch_len_snoc, patchesC_snoc]
            exact ownsRow_setCell_below hown6 hob _
          · intro e
            rcases hat6 with h6 | h6
            · exact hgv'.out (h6.symm.trans e)
            · have h7 := R2.out.lt
              rw [e] at h6
              cases h6
              omega
        case measure => simp [intOf]; omega
      · obtain rfl : i = runs.length := by omega
        rw [List.take_of_length_le (Nat.le_refl _)] at hO
        have O1 := hid hO
        clear hO hR hT
        go_wp2_with fail
        go_end0
        exact ⟨rfl, ⟨_, O1.out⟩, T0.out⟩

end Go.Proofs.YteddkgpnklfppaaGreatDoor

namespace Go.Proofs.YteddkgpnklfppaaGreatDoor
open Go.RowKit Go.Sort

theorem edges_len {of : Po.Box → Int × Int} {l : List Ru.Rule} (hF : Few l) : (Gr.edges of l).length ≤ 2640 := by
  have h1 := hF.raw of l.length
  rw [List.take_of_length_le (Nat.le_refl _)] at h1
  refine Nat.le_trans ?_ h1
  unfold Gr.edges Lib.compact Lib.compactUpTo
  rw [List.length_map]
  refine Nat.le_trans (List.length_filter_le _ _) ?_
  rw [List.length_range, List.length_mergeSort]
  exact Nat.le_refl _
theorem edges_rng {f : FuncId} {of : Po.Box → Int × Int} (hT : Tells f of) {l : List Ru.Rule} (hF : Few l) : ∀ e ∈ Gr.edges of l, 0 ≤ e ∧ e ≤ 65536 := by
  intro e he
  obtain ⟨r, hr, b, hb, h1⟩ := (Gr.edged of l).from_ e he
  have := hT.ok b (hF.box r hr b hb)
  omega
theorem grow_len (l : List Ru.Rule) (xs : List Int) (y : Int) : (Gr.row l xs y).length ≤ xs.length := Nat.le_trans (rowN_len l xs y _) (Nat.sub_le _ _)
theorem bandEnd_on {l : List Ru.Rule} {xs ys : List Int} {now : List Gr.Span} {k : Nat} (h : k + 1 < ys.length) (h2 : now = Gr.row l xs (ys.getD k 0)) : Gr.bandEnd l xs ys now k = Gr.bandEnd l xs ys now (k + 1) := by
  rw [Gr.bandEnd, if_pos ⟨h, h2⟩]
theorem bandEnd_stop {l : List Ru.Rule} {xs ys : List Int} {now : List Gr.Span} {k : Nat} (h : ¬ (k + 1 < ys.length ∧ now = Gr.row l xs (ys.getD k 0))) : Gr.bandEnd l xs ys now k = k := by
  rw [Gr.bandEnd, if_neg h]
theorem bandsN_on {l : List Ru.Rule} {xs ys : List Int} {i k : Nat} (h : i + 1 < ys.length) (hk : Gr.bandEnd l xs ys (Gr.row l xs (ys.getD i 0)) (i + 1) = k) :
    Gr.bandsN l xs ys i = Gr.bandP (ys.getD i 0) (ys.getD k 0 - 1) (Gr.row l xs (ys.getD i 0)) ++ Gr.bandsN l xs ys k := by
  rw [Gr.bandsN, if_pos h, hk]
theorem bandsN_end {l : List Ru.Rule} {xs ys : List Int} {i : Nat} (h : ¬ (i + 1 < ys.length)) : Gr.bandsN l xs ys i = [] := by rw [Gr.bandsN, if_neg h]
theorem bandP_len (y0 y1 : Int) (runs : List Gr.Span) : (Gr.bandP y0 y1 runs).length = runs.length := by unfold Gr.bandP; simp
/-- numbers that lie below some worlds' ends, in a world in which another block was written -/
theorem Row.touch2 {w w' : World} {v : Value} {n size : Nat} {xs : List Value} {b : Nat} (h : Row w v n size xs) (hb : Touch b w w') (hne : ∀ q, v.ownBlock = some q → q ≠ b) : Row w' v n size xs := h.touch hb (fun e => hne _ e rfl)

set_option maxRecDepth 100000 in
set_option maxHeartbeats 16000000 in
theorem bands_any {w : World} {ob : Nat} {v : Value} {l : List Ru.Rule} (hB : Blk w ob #[.slice none 0 0] 49) (hR : ∀ w', Touch ob w w' → RSl w' v l) (hF : Few l) :
    Calls Tryz.prog 39 #[v, takeFV ob] w fun e w' => e = .returned (.tuple #[]) ∧ (∃ v', Blk w' ob #[v'] 49 ∧ Row w' v' (Gr.bands l).length 5 (patchesC (Gr.bands l)) ∧ ∀ q, v'.ownBlock = some q → w.heap.size ≤ q) ∧ Touch ob w w' := by
  have hen := enter_take
  have hR' := hid hR
  have hF' := hid hF
  have B0 := hid hB
  have hob := hB.lt
  have e1 := hid (edges_any tellsX (hR w (Touch.refl ob w)) hF)
  have e2 : Hid (∀ w1, Touch ob w w1 → Calls Tryz.prog 71 #[v, .func (.func 73) #[] #[]] w1 fun e w' => (∃ v', e = .returned v' ∧ Row w' v' (Gr.edges Gr.ofY l).length 1 (intsC (Gr.edges Gr.ofY l)) ∧ ∀ q, v'.ownBlock = some q → w1.heap.size ≤ q) ∧ Below w1.heap.size w1 w') := hid (fun w1 h1 => edges_any tellsY (hR w1 h1) hF)
  have hlx := edges_len (of := Gr.ofX) hF
  have hly := edges_len (of := Gr.ofY) hF
  have hrx := hid (edges_rng tellsX hF)
  have hry := hid (edges_rng tellsY hF)
  have hbd : Hid (Gr.bands l = Gr.bandsN l (Gr.edges Gr.ofX l) (Gr.edges Gr.ofY l) 0) := hid rfl
  clear hB hR hF
  generalize Gr.edges Gr.ofX l = xs at *
  generalize Gr.edges Gr.ofY l = ys at *
  unfold takeFV
  go_enter Tryz.func39, Tryz.ntmps39
  go_wp2_with fail
  refine e1.out.mono ?_
  rintro e w1 ⟨⟨xv, rfl, hx1, hx2⟩, hb1⟩
  have X1 := hid hx1
  have XF := hid (fun q hq => show q ≠ ob by have := hx2 q hq; omega)
  have T1 := hid (Touch.of_below (b := ob) hb1)
  have B1 := hid (B0.out.ext hb1)
  have h21 := hid (e2.out w1 (Touch.of_below hb1))
  have hs1 := hb1.size
  clear hx1 hx2 hb1 e1 e2 B0
  go_wp2_with fail
  refine h21.out.mono ?_
  rintro e wz ⟨⟨yv, rfl, hy1, hy2⟩, hb2⟩
  have Xz := hid (X1.out.ext hb2)
  have Yz := hid hy1
  have YF := hid (fun q hq => show q ≠ ob by have := hy2 q hq; omega)
  have Tz := hid (T1.out.below hb2)
  have Oz := hid (show OutV wz ob wz.heap.size [] (.slice none 0 0) from ⟨B1.out.ext hb2, World.ownsRow_nil _ _ _ _, by have := hb2.size; omega⟩)
  clear hy1 hy2 hb2 h21 B1 X1 T1
  obtain ⟨xp, xc, hxv, _⟩ := ints_at Xz.out
  obtain ⟨yp, yc, hyv, hya⟩ := ints_at Yz.out
  subst hxv hyv
  have hY := hid hya
  clear hya
  go_wp2_with fail
  go_loopw [6] (fun u wr => ∃ (i : Nat) (acc : List Gr.Patch) (vo : Value), u = .int .i64 i ∧ (i = 0 ∨ i < ys.length) ∧ OutV wr ob wz.heap.size acc vo ∧ acc ++ Gr.bandsN l xs ys i = Gr.bandsN l xs ys 0 ∧ acc.length ≤ i * 3000 ∧ Touch ob wz wr) (fun u _ => ys.length - (intOf u).toNat)
  case atStart => exact ⟨0, [], _, rfl, .inl rfl, Oz.out, rfl, Nat.zero_le _, Touch.refl _ _⟩
  case round =>
    clear Oz
    obtain ⟨i, acc, vo, rfl, hle, hO, hacc, hal, hT⟩ := hrel
    have O0 := hid hO
    have A0 := hid hacc
    have T0 := hid hT
    clear hO hacc hT
    have hin : i ≤ 2640 := by omega
    by_cases hlt : i + 1 < ys.length
    · obtain ⟨g, off, rfl, hglt, hcy⟩ := hY.out (by omega)
      have hgo : g ≠ ob := YF.out g rfl
      have cy : Hid (∀ w', Touch ob wz w' → ∀ j, j < ys.length → w'.cell? ⟨g, off + j, none⟩ = some (.int .i64 (ys.getD j 0))) := hid (fun w' h j hj => ((tcell h).1 g (off + j) hglt hgo).trans (hcy j hj))
      have c0 := cy.out wr T0.out i (by omega)
      have i0' : (0 : Int) ≤ i := by omega
      have i1' : (i : Int) < ys.length := by omega
      have i2' : (i : Int) + 1 < ys.length := by omega
      have hrw := hid (grow_any (ys.getD i 0) (hR'.out wr (Tz.out.trans T0.out)) hF'.out.len (Xz.out.touch2 T0.out XF.out) (by omega) hrx.out)
      have hnl := grow_len l xs (ys.getD i 0)
      have hgetD : ∀ j, j < ys.length → 0 ≤ ys.getD j 0 ∧ ys.getD j 0 ≤ 65536 := fun j hj => hry.out _ (Gr.getD_mem hj)
      have hgD := hid hgetD
      clear hcy hY hgetD
      go_wp2_with fail
      refine hrw.out.mono ?_
      rintro e wn ⟨⟨nv, rfl, hnw⟩, hbn⟩
      have N1 := hid hnw
      have NF := hid (fun q hq => (hnw.lt q hq).1)
      have O1 := hid (O0.out.ext hbn)
      have T1 := hid (T0.out.below hbn)
      have hvo := hid (fun q hq => (O0.out.row.lt q hq).2)
      have hobr := O0.out.blk.lt
      obtain ⟨np, nc, hnv⟩ := row_shape (Row.of_owns hnw)
      subst hnv
      clear hbn hnw hrw c0
      obtain ⟨now, hnow⟩ : ∃ now, Gr.row l xs (ys.getD i 0) = now := ⟨_, rfl⟩
      rw [hnow] at N1 NF hnl
      have hnow' := hid hnow
      have hnl2 : now.length ≤ 2640 := by omega
      have SEP := hid (fun q hq => (⟨by have := NF.out q hq; omega, fun e => by have := hvo.out q e; have := NF.out q hq; omega⟩ : q ≠ ob ∧ vo.ownBlock ≠ some q))
      rw [hnow]
      clear hnow
      generalize hy0 : ys.getD i 0 = y0 at *
      have hy0' := hid hy0
      clear hy0
      go_wp2_with fail
      go_loopw [8] (fun u wr => ∃ k : Nat, u = .int .i64 k ∧ i + 1 ≤ k ∧ k < ys.length ∧ Gr.bandEnd l xs ys now k = Gr.bandEnd l xs ys now (i + 1) ∧ Below wn.heap.size wn wr) (fun u _ => ys.length - (intOf u).toNat)
      case atStart => exact ⟨i + 1, by go_num, Nat.le_refl _, hlt, rfl, Below.refl _ _⟩
      case round =>
        obtain ⟨k, rfl, hk1, hk2, hend, hQ⟩ := hrel
        have E2 := hid hend
        have O2 := hid (O1.out.ext hQ)
        have T2 := hid (T1.out.below hQ)
        have N2 := hid (Row.ext (Row.of_owns N1.out) hQ)
        have Q2 := hid hQ
        clear hend hQ
        have hk3 : k ≤ 2640 := by omega
        have k0' : (0 : Int) ≤ k := by omega
        have k1' : (k : Int) < ys.length := by omega
        obtain ⟨yk, hyk⟩ : ∃ yk, ys.getD k 0 = yk := ⟨_, rfl⟩
        have hyk' := hid hyk
        have hyb := hgD.out k hk2
        have cyk := hid (fun w' h => cy.out w' h k hk2)
        rw [hyk] at cyk hyb
        clear hyk
        by_cases hlk : k + 1 < ys.length
        · have c1 := cyk.out wr T2.out
          have k2' : (k : Int) + 1 < ys.length := by omega
          have hr2 := hid (grow_any yk (hR'.out wr (Tz.out.trans T2.out)) hF'.out.len (Xz.out.touch2 T2.out XF.out) (by omega) hrx.out)
          have hl2 := grow_len l xs yk
          have hon := hid (fun h => bandEnd_on (l := l) (xs := xs) (now := now) hlk h)
          have hst := hid (fun h : now ≠ Gr.row l xs (ys.getD k 0) => bandEnd_stop (l := l) (xs := xs) (ys := ys) (now := now) (k := k) (fun h2 => h h2.2))
          rw [hyk'.out] at hon hst
          generalize Gr.row l xs yk = r2 at *
          have hl3 : r2.length ≤ 2640 := by omega
          clear hl2
          go_wp2_with fail
          refine hr2.out.mono ?_
          rintro e w3 ⟨⟨v3, rfl, hr3⟩, hb3⟩
          have Q3 := hid (Q2.out.trans (hb3.mono Q2.out.size))
          have N3 := hid (N2.out.ext hb3)
          have R3 := hid (Row.of_owns hr3)
          obtain ⟨rp, rc, hrv⟩ := row_shape R3.out
          subst hrv
          clear hb3 hr3 hr2 c1 Q2 N2
          go_wp2_with fail
          refine (eqspan_any N3.out R3.out (by omega) (by omega)).mono ?_
          rintro e w4 ⟨rfl, hb4⟩
          have Q4 := hid (Q3.out.trans (hb4.mono Q3.out.size))
          clear hb4 Q3 R3 N3
          by_cases heq : now = r2
          · have hb5 : decide (now = r2) = true := decide_eq_true heq
            have E3 := hid ((hon.out heq).symm.trans E2.out)
            rw [hb5]
            clear heq hb5 hon hst
            go_wp2_with fail
            go_roundw
            case rel => exact ⟨k + 1, by go_num, by omega, by omega, E3.out, Q4.out⟩
            case measure => simp [intOf]; omega
          · have hb5 : decide (now = r2) = false := decide_eq_false heq
            have E3 := hid ((hst.out heq).symm.trans E2.out)
            rw [hb5]
            clear heq hb5 hon hst
            have O5 := hid (O1.out.ext Q4.out)
            have T5 := hid (T1.out.below Q4.out)
            have N5 := hid (Row.ext (Row.of_owns N1.out) Q4.out)
            have f1 : w4.cell? ⟨g, off + i, none⟩ = some (.int .i64 y0) := (cy.out w4 T5.out i (by omega)).trans (by rw [hy0'.out])
            have f2 : w4.cell? ⟨g, off + k, none⟩ = some (.int .i64 yk) := cyk.out w4 T5.out
            have F0 : w4.cell? ⟨g, off + i, none⟩ = some (.int .i64 y0) ∧ w4.cell? ⟨g, off + k, none⟩ = some (.int .i64 yk) := ⟨f1, f2⟩
            have F1 : w4.drew.cell? ⟨g, off + i, none⟩ = some (.int .i64 y0) ∧ w4.drew.cell? ⟨g, off + k, none⟩ = some (.int .i64 yk) := ⟨f1, f2⟩
            clear f1 f2
            have p5 : IntKind.i64.wrap (yk - 1) = yk - 1 := IntWalk.i64_in _ (by omega)
            have p6 : IntKind.i64.wrap (i : Int) = i := IntWalk.i64_in _ (by omega)
            have p7 : IntKind.i64.wrap (k : Int) = k := IntWalk.i64_in _ (by omega)
            have htl := hid (tell_any (W0 := wz) (w := w4.drew) y0 (yk - 1) ⟨Blk.drew O5.out.blk, World.ownsRow.drew O5.out.row, O5.out.lt⟩ T5.out.drew (show Row w4.drew _ _ _ _ from N5.out) SEP.out (by omega))
            clear O5 T5 N5
            go_upto_region 8 with (fail)
            go_region_held3 (fun w' => w'.cell? ⟨g, off + i, none⟩ = some (.int .i64 y0) ∧ w'.cell? ⟨g, off + k, none⟩ = some (.int .i64 yk)) (first | with_reducible assumption | go_keep) (first
              | ((with_reducible refine htl.out.mono ?_
                  rintro en w6 ⟨rfl, ⟨v6, h6⟩, t6⟩
                  have O6 := hid h6
                  have T6 := hid t6
                  have F6 : w6.cell? ⟨g, off + i, none⟩ = some (.int .i64 y0) ∧ w6.cell? ⟨g, off + k, none⟩ = some (.int .i64 yk) := ⟨(cy.out w6 T6.out i (by omega)).trans (by rw [hy0'.out]), cyk.out w6 T6.out⟩
                  clear h6 t6 F0 F1)))
            all_goals
              go_wp2_with fail
              go_roundw
              case rel =>
                refine ⟨k, acc ++ Gr.bandP y0 (yk - 1) now, v6, rfl, .inr hk2, O6.out, ?_, ?_, T6.out⟩
                · have h := bandsN_on (l := l) (xs := xs) hlt (k := k) (by rw [hy0'.out, hnow'.out]; exact E3.out.symm)
                  rw [hy0'.out, hyk'.out, hnow'.out] at h
                  rw [List.append_assoc, ← h]
                  exact A0.out
                · rw [List.length_append, bandP_len]; omega
              case measure => simp [intOf]; omega
        · have E3 := hid ((bandEnd_stop (l := l) (xs := xs) (ys := ys) (now := now) (k := k) (fun h2 => hlk h2.1)).symm.trans E2.out)
          have k2' : ¬ ((k : Int) + 1 < ys.length) := by omega
          have O5 := hid (O1.out.ext Q2.out)
          have T5 := hid (T1.out.below Q2.out)
          have N5 := hid (Row.ext (Row.of_owns N1.out) Q2.out)
          have f1 : wr.cell? ⟨g, off + i, none⟩ = some (.int .i64 y0) := (cy.out wr T5.out i (by omega)).trans (by rw [hy0'.out])
          have f2 : wr.cell? ⟨g, off + k, none⟩ = some (.int .i64 yk) := cyk.out wr T5.out
          have F0 : wr.cell? ⟨g, off + i, none⟩ = some (.int .i64 y0) ∧ wr.cell? ⟨g, off + k, none⟩ = some (.int .i64 yk) := ⟨f1, f2⟩
          have F1 : wr.drew.cell? ⟨g, off + i, none⟩ = some (.int .i64 y0) ∧ wr.drew.cell? ⟨g, off + k, none⟩ = some (.int .i64 yk) := ⟨f1, f2⟩
          clear f1 f2
          have p5 : IntKind.i64.wrap (yk - 1) = yk - 1 := IntWalk.i64_in _ (by omega)
          have p6 : IntKind.i64.wrap (i : Int) = i := IntWalk.i64_in _ (by omega)
          have p7 : IntKind.i64.wrap (k : Int) = k := IntWalk.i64_in _ (by omega)
          have htl := hid (tell_any (W0 := wz) (w := wr.drew) y0 (yk - 1) ⟨Blk.drew O5.out.blk, World.ownsRow.drew O5.out.row, O5.out.lt⟩ T5.out.drew (show Row wr.drew _ _ _ _ from N5.out) SEP.out (by omega))
          clear O5 T5 N5
          go_upto_region 8 with (fail)
          go_region_held3 (fun w' => w'.cell? ⟨g, off + i, none⟩ = some (.int .i64 y0) ∧ w'.cell? ⟨g, off + k, none⟩ = some (.int .i64 yk)) (first | with_reducible assumption | go_keep) (first
            | ((with_reducible refine htl.out.mono ?_
                rintro en w6 ⟨rfl, ⟨v6, h6⟩, t6⟩
                have O6 := hid h6
                have T6 := hid t6
                have F6 : w6.cell? ⟨g, off + i, none⟩ = some (.int .i64 y0) ∧ w6.cell? ⟨g, off + k, none⟩ = some (.int .i64 yk) := ⟨(cy.out w6 T6.out i (by omega)).trans (by rw [hy0'.out]), cyk.out w6 T6.out⟩
                clear h6 t6 F0 F1)))
          all_goals
            go_wp2_with fail
            go_roundw
            case rel =>
              refine ⟨k, acc ++ Gr.bandP y0 (yk - 1) now, v6, rfl, .inr hk2, O6.out, ?_, ?_, T6.out⟩
              · have h := bandsN_on (l := l) (xs := xs) hlt (k := k) (by rw [hy0'.out, hnow'.out]; exact E3.out.symm)
                rw [hy0'.out, hyk'.out, hnow'.out] at h
                rw [List.append_assoc, ← h]
                exact A0.out
              · rw [List.length_append, bandP_len]; omega
            case measure => simp [intOf]; omega
    · have h := A0.out
      rw [bandsN_end hlt, List.append_nil] at h
      have h' := hid h
      have i2' : ¬ ((i : Int) + 1 < ys.length) := by omega
      clear A0 h
      go_wp2_with fail
      go_end0
      exact ⟨rfl, ⟨vo, O0.out.blk, by rw [hbd.out, ← h'.out]; exact Row.of_owns O0.out.row, fun q hq => by have h1 := (O0.out.row.lt q hq).1; have h2 := Tz.out.size; omega⟩, Tz.out.trans T0.out⟩

end Go.Proofs.YteddkgpnklfppaaGreatDoor

namespace Go.Proofs.YteddkgpnklfppaaGreatDoor
open Go.RowKit Go.Sort Go.Maps

def heldR (v : Value) : Option (DataW Value × List MemPlace) := some (.held v, [])

/-- block b is a map with at most n entries; f says what stands at which key -/
def KMap (P : Program) (K : TypeId) (w : World) (b n : Nat) (f : Lit → Option Value) : Prop :=
  ∃ D : DataW Value, w.ownsMap P K heldR b n D ∧ ∀ l, WideAt.IsKeyLit l → Maps.has D l = (f l).isSome ∧ ∀ z, D.atKey l z = ((f l).map DataW.held).getD z

variable {P : Program} {K : TypeId} {w : World} {b n : Nat} {f : Lit → Option Value}
theorem KMap.made (w : World) (P : Program) (K : TypeId) : KMap P K (w.alloc (.map #[] 0)) w.heap.size 0 (fun _ => none) :=
  ⟨.map [], World.ownsMap_made w P K heldR, fun _ _ => ⟨rfl, fun _ => rfl⟩⟩
theorem KMap.madeAt {k : Nat} (hk : k = w.heap.size) (P : Program) (K : TypeId) : KMap P K (w.alloc (.map #[] 0)) k 0 (fun _ => none) := hk ▸ KMap.made w P K
theorem KMap.lt (h : KMap P K w b n f) : b < w.heap.size := by obtain ⟨D, h1, _⟩ := h; exact h1.lt
theorem KMap.mono (h : KMap P K w b n f) {n' : Nat} (hn : n ≤ n') : KMap P K w b n' f := by obtain ⟨D, h1, h2⟩ := h; exact ⟨D, h1.mono hn, h2⟩
theorem KMap.congr {f' : Lit → Option Value} (h : KMap P K w b n f) (hf : ∀ l, WideAt.IsKeyLit l → f' l = f l) : KMap P K w b n f' := by
  obtain ⟨D, h1, h2⟩ := h; exact ⟨D, h1, fun l hl => by rw [hf l hl]; exact h2 l hl⟩
theorem KMap.block {w' : World} (h : KMap P K w b n f) (hb : w'.heap[b]? = w.heap[b]?) : KMap P K w' b n f := by
  obtain ⟨D, ⟨es, clock, h1, h2⟩, h3⟩ := h
  exact ⟨D, ⟨es, clock, hb.trans h1, h2⟩, h3⟩
theorem KMap.ext {w' : World} (h : KMap P K w b n f) (hb : Below w.heap.size w w') : KMap P K w' b n f := h.block (hb.block b h.lt)
theorem KMap.touch {w' : World} {k : Nat} (h : KMap P K w b n f) (ht : Touch k w w') (hn : b ≠ k) : KMap P K w' b n f := h.block (ht.block b h.lt hn)
theorem KMap.grown {w' : World} {row : Option Nat} (h : KMap P K w b n f) (hg : w.grownBy w' row) (hne : some b ≠ row) : KMap P K w' b n f := h.block (hg.block b h.lt hne)
theorem KMap.drewN (h : KMap P K w b n f) (j : Nat) : KMap P K (w.drewN j) b n f := h.block rfl
theorem KMap.look {t e : TypeId} (h : KMap P K w b n f) (Kd : Keyed P K) (ht : P.underlying t = some (.map K e)) {z : Value} (hz : (zeroValue e).run P w = .ok z w) {key : Value} {kl : Lit} (hkey : keyOf P K key = some kl) (hl : WideAt.IsKeyLit kl) :
    (Instr.lookup t (.map (some b)) key true).run P w = .ok (.tuple #[(f kl).getD z, .bool (f kl).isSome]) w := by
  obtain ⟨D, h1, h2⟩ := h
  obtain ⟨v, ps, hrun, hv⟩ := h1.look_ok Kd ht hz (zd := .held z) (zp := []) rfl hkey
  rw [hrun]
  obtain ⟨a1, a2⟩ := h2 kl hl
  rw [a2] at hv
  rw [a1]
  unfold heldR at hv
  cases hf : f kl with
  | none => rw [hf] at hv; simp at hv; simp [hv.1]
  | some u => rw [hf] at hv; simp at hv; simp [hv.1]
theorem KMap.look1 {t e : TypeId} (h : KMap P K w b n f) (Kd : Keyed P K) (ht : P.underlying t = some (.map K e)) {z : Value} (hz : (zeroValue e).run P w = .ok z w) {key : Value} {kl : Lit} (hkey : keyOf P K key = some kl) (hl : WideAt.IsKeyLit kl) :
    (Instr.lookup t (.map (some b)) key false).run P w = .ok ((f kl).getD z) w := by
  obtain ⟨D, h1, h2⟩ := h
  obtain ⟨v, ps, hrun, hv⟩ := h1.lookup Kd ht hz (zd := .held z) (zp := []) rfl hkey
  rw [hrun]
  obtain ⟨a1, a2⟩ := h2 kl hl
  rw [a2] at hv
  unfold heldR at hv
  cases hf : f kl with
  | none => rw [hf] at hv; simp at hv; simp [hv.1]
  | some u => rw [hf] at hv; simp at hv; simp [hv.1]
theorem KMap.put {t e : TypeId} (h : KMap P K w b n f) (Kd : Keyed P K) (ht : P.underlying t = some (.map K e)) (hn : n < maxLen) {key val : Value} {kl : Lit} (hkey : keyOf P K key = some kl) (hl : WideAt.IsKeyLit kl) :
    ∃ w', (Instr.mapUpdate t (.map (some b)) key val).run P w = .ok () w' ∧ (∀ f' : Lit → Option Value, f' kl = some val → (∀ l, WideAt.IsKeyLit l → l ≠ kl → f' l = f l) → KMap P K w' b (n + 1) f') ∧ w.grownBy w' (some b) := by
  obtain ⟨D, h1, h2⟩ := h
  have hi := h1.isMap
  obtain ⟨w', hrun, r1, r2⟩ := h1.update Kd ht hn hkey (d := .held val) (ps := []) (val := val) rfl
  refine ⟨w', hrun, fun f' hf1 hf2 => ⟨_, r1, fun l hk => ?_⟩, r2⟩
  by_cases he : l = kl
  · subst he
    rw [hf1]
    exact ⟨has_put_same hi hl _, fun z => by rw [atKey_put_same hi hl]; rfl⟩
  · rw [hf2 l hk he]
    exact ⟨by rw [has_put_other he]; exact (h2 l hk).1, fun z => by rw [atKey_put_other he]; exact (h2 l hk).2 z⟩
/-- the law at the operation -/
theorem wpList_put {ops : Array Oper} {rest : List Oper} {o : Oper} {a : Act} {Q : Exit → Act → World → Prop} (hg : o.guard = none) (m x v : Operand) (t : TypeId) (hop : o.op = Op.mapUpdate t m x v ∨ o.op = Op.insert t m x v) (hd : o.dst = none)
    (e : TypeId) (Kd : Keyed P K) (ht : P.underlying t = some (.map K e)) (hm : a.eval m = .map (some b)) (h : KMap P K w b n f) (hn : n < maxLen) (key val : Value) (kl : Lit) (hx : a.eval x = key) (hv : a.eval v = val) (hkey : keyOf P K key = some kl) (hl : WideAt.IsKeyLit kl)
    (hK : ∀ w', (∀ f' : Lit → Option Value, f' kl = some val → (∀ l, WideAt.IsKeyLit l → l ≠ kl → f' l = f l) → KMap P K w' b (n + 1) f') → w.grownBy w' (some b) → wpList P ops Q rest a w') :
    wpList P ops Q (o :: rest) a w := by
  refine wpList_plain hg fun K' hK' => ?_
  obtain ⟨w', hrun, r1, r2⟩ := h.put Kd ht hn (val := val) hkey hl
  unfold Oper.wp
  have he : (execOp a.eval o).run P w = .ok .skip w' := by
    rcases hop with hop | hop <;> simp [execOp, hop, hm, hx, hv, hrun, Result.andThen]
  rw [he, Oper.upon_skip, hd]
  exact hK' _ _ (hK w' r1 r2)
theorem isKey_string (l : List UInt8) : WideAt.IsKeyLit (.string l) := trivial
theorem isKey_int (q : IntKind) (x : Int) : WideAt.IsKeyLit (.int q x) := trivial

end Go.Proofs.YteddkgpnklfppaaGreatDoor
