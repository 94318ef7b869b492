/-
  Rows of boxes that are copied: small laws.
  The walk of policy.Strip.
  The walk of PolicyStrips.
  What comes in, read: rows of rules, of boxes, of declarations, as the walks want them; and that all reads again as it did.
  What comes in, read: declarations.
-/
import Derived.Test.YtnoieobjfihbeaaDoorPk10
import Derived.Test.YtnoieobjfihbeaaDoorPk16
import Derived.Test.YtnoieobjfihbeaaDoorPk05
import Derived.Maps.AppendAt
import Derived.Test.YtnoieobjfihbeaaDoorPk18
import Derived.ProofKit
import Derived.OpenShut
import Derived.ShutString
import Derived.SizedLaws
import Derived.Carry
import Derived.Deep.Slices

namespace Go.Proofs.YtnoieobjfihbeaaDoor
open Go.RowKit Go.Sort

theorem Touch.of_grown {w w' : World} {b : Nat} (h : w.grownBy w' (some b)) : Touch b w w' := ⟨h.os, h.tape, h.output, h.size, fun k hk hn => h.block k hk (by simpa using hn)⟩
theorem below_of_grown {w w' : World} (h : w.grownBy w' none) : Below w.heap.size w w' := ⟨h.os, h.tape, h.output, h.size, fun i hi => h.block i hi (by simp)⟩
theorem boxesCells_one (l : List Po.Box) : ∀ u ∈ boxesCells l, u.oneCell' = true := by
  intro u hu
  obtain ⟨b, _, hb⟩ := List.mem_flatMap.1 hu
  exact boxCells_one b u hb
theorem boxesCells_len (l : List Po.Box) : (boxesCells l).length = l.length * 4 := by
  induction l with
  | nil => rfl
  | cons b l ih =>
    have e : boxesCells (b :: l) = boxCells b ++ boxesCells l := rfl
    rw [e, List.length_append, ih, List.length_cons]
    show 4 + l.length * 4 = _
    omega
theorem addr_add (g off j : Nat) : (⟨g, off, none⟩ : Addr).add j = ⟨g, off + j, none⟩ := by unfold Addr.add; split <;> simp_all
/-- the cells of a row that lies in memory -/
theorem Row.news {w : World} {g off n cap size : Nat} {xs : List Value} (h : Row w (.slice (some ⟨g, off, none⟩) n cap) n size xs) : ∀ j u, xs[j]? = some u → w.cell? ((⟨g, off, none⟩ : Addr).add j) = some u := by
  rcases h.2 with ⟨hv, _⟩ | ⟨g', off', cap', hv, _, _, hc⟩
  · cases hv
  · cases hv
    intro j u hj
    rw [addr_add]
    exact hc j u hj
end Go.Proofs.YtnoieobjfihbeaaDoor

namespace Go.Proofs.YtnoieobjfihbeaaDoor
open Go.RowKit Go.Sort

theorem strip_cells (d : Po.Decl) (x v : Value) : ((((((((((declCells d x).setIfInBounds 3 v).setIfInBounds 22 (.int .i64 0)).setIfInBounds 23 (.int .i64 0)).setIfInBounds 7 (.int .i64 0)).setIfInBounds 8 (.int .i64 0)).setIfInBounds 14 (.int .i64 0)).setIfInBounds 15 (.int .i64 0)).setIfInBounds 19 (.int .i64 0)).setIfInBounds 20 (.int .i64 0)) = declCells (Po.unD d) v := by
  unfold declCells Po.unD Po.unW
  simp
theorem bsrc {w : World} {x : Value} {l : List Po.Box} (h : BRow w x l) : (x = .slice none 0 0 ∧ l = []) ∨ (∃ c, x = .slice none 0 c ∧ l = []) ∨ ∃ a c, x = .slice (some a) l.length c ∧ ∀ j u, (boxesCells l)[j]? = some u → w.cell? (a.add j) = some u := by
  rcases h with ⟨p, c, rfl, rfl⟩ | h
  · cases p with
    | none => exact .inr (.inl ⟨c, rfl, rfl⟩)
    | some a => exact .inr (.inr ⟨a, c, rfl, fun j u hj => by simp [boxesCells] at hj⟩)
  · rcases h.2 with ⟨rfl, h0⟩ | ⟨g, off, cap, rfl, _, _, hc⟩
    · exact .inl ⟨rfl, List.eq_nil_of_length_eq_zero h0⟩
    · exact .inr (.inr ⟨⟨g, off, none⟩, cap, rfl, fun j u hj => by rw [addr_add]; exact hc j u hj⟩)

theorem owns_other {w w' : World} {base : Nat} {e : TypeId} {size : Nat} {v : Value} {n : Nat} {xs : List Value} {b : Nat} (h : w.ownsRow base e size v n xs) (hb : Touch b w w') (hne : v.ownBlock ≠ some b) : w'.ownsRow base e size v n xs := by
  refine ⟨h.1, ?_⟩
  rcases h.2 with h2 | ⟨g, cap, cur, hv, hbb, hg, r⟩
  · exact .inl h2
  · refine .inr ⟨g, cap, cur, hv, hbb, (hb.block g (lt_of_block hg) (fun e => hne (by rw [hv, e]; rfl))).trans hg, r⟩
theorem OwnBoxes.setOther {w w' : World} {b k : Nat} {u : Value} {ds : List Po.Decl} {vs : List Value} (h : OwnBoxes w b u ds vs) (ht : Touch k w w') (hk : ∀ y ∈ vs, y.ownBlock ≠ some k) (_ : u.ownBlock ≠ some k) : OwnBoxes w' b u ds vs :=
  ⟨h.len, fun i d x hd hx => (h.box i d x hd hx).touch ht (hk x (List.mem_of_getElem? hx)), fun x hx q hq => by
    have := h.far x hx q hq
    exact ⟨this.1, Nat.lt_of_lt_of_le this.2.1 ht.size, this.2.2⟩⟩

set_option maxRecDepth 100000 in
set_option maxHeartbeats 8000000 in
theorem strip_any {w : World} {v : Value} {l : List Po.Decl} (h : DSl w v l) (hn : l.length ≤ 1000) (hs : ∀ d ∈ l, DSmall d) (hpos : 0 < w.heap.size) :
    Calls Tryd.prog 16 #[v] w fun e w' => (∃ v', e = .returned v' ∧ DSl w' v' (l.map Po.unD)) ∧ Below w.heap.size w w' := by
  obtain ⟨i0, hinf, hiz, hisz, hiby⟩ := info_parts Tryd.infoDecl
  obtain ⟨r0, rinf, riz, risz, riby⟩ := info_parts Tryd.infoRect
  have hs' := hid hs
  have hds := hid h
  obtain ⟨vp, vc, rfl⟩ := h.shape
  obtain ⟨B, hB⟩ : ∃ B, w.heap.size = B + 1 := ⟨w.heap.size - 1, by omega⟩
  have hBw := hid hB
  have hbw : w.heap.size ≤ B + 1 := by omega
  have hbb : B < w.heap.size := by omega
  clear h hs hpos hB
  go_enter Tryd.func16, Tryd.ntmps16
  go_wp2_with fail
  go_loopw [3, 8] (fun u3 u8 wr => ∃ (i : Nat) (vs : List Value), u8 = .int .i64 i ∧ i ≤ l.length ∧ wr.ownsRow (B + 1) 44 24 u3 i (declsCells ((l.take i).map Po.unD) vs) ∧ OwnBoxes wr B u3 ((l.take i).map Po.unD) vs ∧ Below w.heap.size w wr) (fun _ u8 _ => l.length - (intOf u8).toNat)
  case atStart => exact ⟨0, [], rfl, Nat.zero_le _, World.ownsRow_nil _ _ _ _, OwnBoxes.nil _ _ _, Below.refl _ _⟩
  case round =>
    obtain ⟨i, vs, rfl, hle, hO, hX, hQ⟩ := hrel
    have O0 := hid hO
    have X0 := hid hX
    have Q0 := hid hQ
    clear hO hX hQ
    obtain ⟨op, oc, hov⟩ := row_shape (Row.of_owns O0.out)
    subst hov
    by_cases hlt : i < l.length
    · rcases hds.out with ⟨_, h0⟩ | ⟨g, off, cap, hv, hr⟩
      · rw [h0] at hlt; simp at hlt
      cases hv
      have j0 : (0 : Int) ≤ i := by omega
      have j1 : (i : Int) < l.length := by omega
      obtain ⟨x, h1, h2⟩ := hr.get i hlt
      have hx := hid (show wr.rangeAt g (off + i * 24) (declCells l[i] x).toList from fun j u hu => (Q0.out.cell (p := ⟨g, off + i * 24 + j, none⟩) hr.lt).trans (h1 j u hu))
      have hone := hid (declCells_one l[i] h2.one)
      have hbx := hid h2
      have hsm := (hs'.out _ (List.getElem_mem hlt)).boxes
      have htk := hid (show (l.take (i + 1)).map Po.unD = (l.take i).map Po.unD ++ [Po.unD l[i]] by rw [(List.take_append_getElem hlt).symm, List.map_append]; rfl)
      have hlen : ((l.take i).map Po.unD).length = i := by rw [List.length_map, List.length_take]; omega
      clear h1 h2 hr
      generalize l[i] = d at *
      generalize (l.take i).map Po.unD = ds at *
      have z := balloc wr (.cells (declCells d x) 44)
      have O1 := hid (owns_ext O0.out z)
      have X1 := hid (X0.out.touch (Touch.of_below z))
      have Q1 := hid (Q0.out.trans (z.mono Q0.out.size))
      have D1 := hid (Blk.new wr (declCells d x) 44)
      have Z1 := hid (hbx.out.ext Q1.out)
      have hkw := Q0.out.size
      have hlen' := hid hlen
      clear z hlen
      go_upto_region 5 with (first | (refine wpList_load_at rfl 44 (.tmp 10) rfl 11 rfl g (off + i * 24) (declCells d x) (hx.out) rfl Tryd.underlying44 rfl (by kernel_rfl) ?_) | (refine wpList_store_new rfl 44 (.tmp 5) (.tmp 11) rfl rfl wr 44 _ (declCells d x) rfl rfl rfl (by kernel_rfl) rfl (hone.out) ?_))
      clear hx hone
      generalize hwa : wr.alloc (.cells (declCells d x) 44) = wa at *
      have hsa : wa.heap.size = wr.heap.size + 1 := by rw [← hwa, World.size_alloc]
      have hku : Hid (∀ q, (Value.slice op i oc).ownBlock = some q → q < wr.heap.size) := hid (fun q hq => (O0.out.lt q hq).2)
      have hkv : Hid (∀ y ∈ vs, ∀ q, y.ownBlock = some q → q < wr.heap.size) := hid (fun y hy q hq => (X0.out.far y hy q hq).2.1)
      clear hwa O0 X0 Q0
      generalize wr.heap.size = k at *
      have hkk := D1.out.lt
      have y3 := D1.out.cell 3 (v := x) rfl
      have df := D1.out.free
      have hsm' := hid hsm
      have hbl := hid hlen'.out
      clear hsm
      go_cut [14] (fun s14 wx => ∃ x', Blk wx k ((declCells d x).setIfInBounds 3 x') 44 ∧ Row wx x' d.boxes.length 4 (boxesCells d.boxes) ∧ (∀ q, x'.ownBlock = some q → k < q) ∧ wx.ownsRow (B + 1) 44 24 (.slice op i oc) i (declsCells ds vs) ∧ OwnBoxes wx B (.slice op i oc) ds vs ∧ Below w.heap.size w wx)
      case first =>
        rcases bsrc Z1.out with ⟨rfl, h0⟩ | ⟨c, rfl, h0⟩ | ⟨a, c, rfl, hnews⟩
        · have hl0 := hid h0
          clear h0 Z1
          go_wp2_with fail
          go_meet
          case rel => exact ⟨.slice none 0 0, D1.out.set 3 _, by rw [hl0.out]; exact Row.nil _ 4, fun q hq => by simp [Value.ownBlock] at hq, owns_other O1.out ((Touch.refl k wa).setCell 3 _) (fun e => by have := hku.out k e; omega), X1.out.setOther ((Touch.refl k wa).setCell 3 _) (fun y hy e => by have := hkv.out y hy k e; omega) (fun e => by have := hku.out k e; omega), bset Q1.out hkw _⟩
        · have hl0 := hid h0
          clear h0 Z1
          go_wp2_with fail
          go_meet
          case rel => exact ⟨.slice none 0 0, D1.out.set 3 _, by rw [hl0.out]; exact Row.nil _ 4, fun q hq => by simp [Value.ownBlock] at hq, owns_other O1.out ((Touch.refl k wa).setCell 3 _) (fun e => by have := hku.out k e; omega), X1.out.setOther ((Touch.refl k wa).setCell 3 _) (fun y hy e => by have := hkv.out y hy k e; omega) (fun e => by have := hku.out k e; omega), bset Q1.out hkw _⟩
        · have hnews' := hid hnews
          have hnil := hid (World.ownsRow_nil wa wa.heap.size 73 4)
          have hm := hsm'.out
          obtain ⟨bn, hbn⟩ : ∃ n, n = d.boxes.length := ⟨_, rfl⟩
          have hbn' := hid hbn
          rw [← hbn] at y3 hm
          have hcl := hid (show (boxesCells d.boxes).length = bn * 4 by rw [hbn, boxesCells_len])
          clear hnews Z1 hbn
          go_wp2_with (first | (at_builtin; refine Go.wpList_append_own_at _ rfl _ _ 40 rfl wa.heap.size 73 r0 (.agg #[.int .i64 0, .int .i64 0, .int .i64 0, .int .i64 0]) 4 32 Tryd.underlying40 rinf riz risz riby rfl (by decide) (.slice none 0 0) 0 [] rfl hnil.out a bn c (boxesCells d.boxes) rfl hcl.out hnews'.out (boxesCells_one _) (by unfold maxLen; omega) (by omega) (Nat.le_refl _) ?_; intro x' w5 hown5 hgrow5 _ _; rw [Nat.zero_add, List.nil_append] at hown5; obtain ⟨xp, xc, hxe⟩ := row_shape (Row.of_owns hown5); subst hxe; have d5 := Blk.grown D1.out hgrow5 (by simp [Value.ownBlock]); have c5 := d5.cell 3 (v := .slice (some a) d.boxes.length c) rfl; have D5 := hid d5; have f5 := d5.free; have l5 := d5.lt; have W5 := hid hown5; have G5 := hid hgrow5; clear d5 hown5 hgrow5))
          go_meet
          case rel =>
            have b5 := below_of_grown G5.out
            have t5 : Touch k w5 (w5.setCell ⟨k, 3, none⟩ (.slice xp bn xc)) := (Touch.refl k w5).setCell 3 _
            have ho : ∀ q, (Value.slice xp bn xc).ownBlock = some q → k < q := fun q hq => by have := (W5.out.lt q hq).1; omega
            have hrow := Row.of_owns W5.out
            have hne1 : (Value.slice op i oc).ownBlock ≠ some k := fun e => by have := hku.out k e; omega
            have hne2 : ∀ y ∈ vs, y.ownBlock ≠ some k := fun y hy e => by have := hkv.out y hy k e; omega
            have hne3 : (Value.slice xp bn xc).ownBlock ≠ some k := fun e => by have := ho k e; omega
            exact ⟨.slice xp bn xc, D5.out.set 3 _, hbn'.out ▸ hrow.touch t5 hne3, ho, owns_other (owns_ext O1.out b5) t5 hne1, (X1.out.touch (Touch.of_below b5)).setOther t5 hne2 hne1, bset (Q1.out.trans (b5.mono (by omega))) hkw _⟩
      case rest =>
        obtain ⟨x', hD, hR, hF, hO, hX, hQ⟩ := hcut
        have D6 := hid hD
        have R6 := hid hR
        have F6 := hid hF
        have O6 := hid hO
        have X6 := hid hX
        have Q6 := hid hQ
        have f6 := hD.free
        have l6 := hD.lt
        have g22 := hD.cell 22 (v := .int .i64 d.line) rfl
        have g23 := hD.cell 23 (v := .int .i64 d.col) rfl
        have g7 := hD.cell 7 (v := .int .i64 d.role.line) rfl
        have g8 := hD.cell 8 (v := .int .i64 d.role.col) rfl
        have g14 := hD.cell 14 (v := .int .i64 d.label.line) rfl
        have g15 := hD.cell 15 (v := .int .i64 d.label.col) rfl
        have g19 := hD.cell 19 (v := .int .i64 d.place.line) rfl
        have g20 := hD.cell 20 (v := .int .i64 d.place.col) rfl
        clear hD hR hF hO hX hQ D1 O1 X1 Q1 Z1 y3 df
        go_upto_region 7 with (fail)
        clear g22 g23 g7 g8 g14 g15 g19 g20
        have tz : Touch k wc ((((((((wc.setCell ⟨k, 22, none⟩ (.int .i64 0)).setCell ⟨k, 23, none⟩ (.int .i64 0)).setCell ⟨k, 7, none⟩ (.int .i64 0)).setCell ⟨k, 8, none⟩ (.int .i64 0)).setCell ⟨k, 14, none⟩ (.int .i64 0)).setCell ⟨k, 15, none⟩ (.int .i64 0)).setCell ⟨k, 19, none⟩ (.int .i64 0)).setCell ⟨k, 20, none⟩ (.int .i64 0)) :=
          ((((((((Touch.refl k wc).setCell 22 _).setCell 23 _).setCell 7 _).setCell 8 _).setCell 14 _).setCell 15 _).setCell 19 _).setCell 20 _
        have D7 := hid (show Blk ((((((((wc.setCell ⟨k, 22, none⟩ (.int .i64 0)).setCell ⟨k, 23, none⟩ (.int .i64 0)).setCell ⟨k, 7, none⟩ (.int .i64 0)).setCell ⟨k, 8, none⟩ (.int .i64 0)).setCell ⟨k, 14, none⟩ (.int .i64 0)).setCell ⟨k, 15, none⟩ (.int .i64 0)).setCell ⟨k, 19, none⟩ (.int .i64 0)).setCell ⟨k, 20, none⟩ (.int .i64 0)) k (declCells (Po.unD d) x') 44 by
          rw [← strip_cells d x x']
          exact (((((((D6.out.set 22 _).set 23 _).set 7 _).set 8 _).set 14 _).set 15 _).set 19 _).set 20 _)
        have R7 := hid (R6.out.touch tz (fun e => by have := F6.out k e; omega))
        have O7 := hid (owns_other O6.out tz (fun e => by have := hku.out k e; omega))
        have X7 := hid (X6.out.setOther tz (fun y hy e => by have := hkv.out y hy k e; omega) (fun e => by have := hku.out k e; omega))
        have Q7 := hid (show Below w.heap.size w _ from bset (bset (bset (bset (bset (bset (bset (bset Q6.out hkw (o := 22) (.int .i64 0)) hkw (o := 23) (.int .i64 0)) hkw (o := 7) (.int .i64 0)) hkw (o := 8) (.int .i64 0)) hkw (o := 14) (.int .i64 0)) hkw (o := 15) (.int .i64 0)) hkw (o := 19) (.int .i64 0)) hkw (o := 20) (.int .i64 0))
        clear tz R6 O6 X6 Q6 D6 f6 l6
        generalize ((((((((wc.setCell ⟨k, 22, none⟩ (.int .i64 0)).setCell ⟨k, 23, none⟩ (.int .i64 0)).setCell ⟨k, 7, none⟩ (.int .i64 0)).setCell ⟨k, 8, none⟩ (.int .i64 0)).setCell ⟨k, 14, none⟩ (.int .i64 0)).setCell ⟨k, 15, none⟩ (.int .i64 0)).setCell ⟨k, 19, none⟩ (.int .i64 0)).setCell ⟨k, 20, none⟩ (.int .i64 0)) = wz at *
        have hfar : Hid (∀ q, x'.ownBlock = some q → B < q ∧ (Value.slice op i oc).ownBlock ≠ some q) := hid (fun q hq => ⟨by have := F6.out q hq; omega, fun e => by have := F6.out q hq; have := hku.out q e; omega⟩)
        clear F6 hku hkv
        have hub : (Po.unD d).boxes = d.boxes := rfl
        have hub' := hid hub
        clear hub
        rw [← hub'.out] at R7
        generalize Po.unD d = D at *
        clear hub'
        have hcap : i + 1 ≤ maxLen := by unfold maxLen; omega
        have hc1 := hid (cells_new wz (declCells D x').toList 44 (k := wz.heap.size) rfl)
        rw [Array.toArray_toList] at hc1
        have hal := hid (O7.out.alloc (.cells (declCells D x') 44))
        have hone1 := hid (show x'.oneCell' = true by obtain ⟨p, l, c, rfl⟩ := Row.shape R7.out; rfl)
        have hone : Hid (∀ u ∈ (declCells D x').toList, u.oneCell' = true) := hid (fun u hu => (Array.all_eq_true_iff_forall_mem.1 (declCells_one D hone1.out)) u (by simpa using hu))
        have hlen24 := hid (show (declCells D x').toList.length = 24 from rfl)
        have hsz7 := Q7.out.size
        go_wp2_with (first | (refine wpList_load_blk rfl 44 (.tmp 5) rfl 28 rfl k 44 (declCells D x') (D7.out) rfl Tryd.underlying44 rfl (by kernel_rfl) ?_) | (refine wpList_buildOne rfl 22 44 (.tmp 28) rfl 29 rfl Tryd.underlying22 i0 _ hinf hiz 24 hisz (by decide) (by decide) (declCells D x') rfl rfl ?_) | (at_builtin; refine Go.wpList_append_own_at _ rfl _ _ 22 rfl (B + 1) 44 i0 _ 24 240 Tryd.underlying22 hinf hiz hisz hiby rfl (by decide) _ _ _ rfl hal.out ⟨wz.heap.size, 0, none⟩ 1 1 (declCells D x').toList rfl hlen24.out hc1.out hone.out hcap (by omega) (by simp; omega) ?_; intro v6 w6 hown6 hgrow6 _ hat6; have W6 := hid hown6; have G6 := hid hgrow6; have T6 := hid hat6; clear hown6 hgrow6 hat6))
        go_roundw
        case rel =>
          have ha5 := balloc wz (.cells (declCells D x') 44)
          refine ⟨i + 1, vs ++ [x'], by go_num, by omega, ?_, ?_, ?_⟩
          · rw [htk.out, declsCells_snoc (by have := X7.out.len; exact this)]; exact W6.out
          · rw [htk.out]; exact OwnBoxes.snoc (X7.out.touch (Touch.of_below ha5)) (R7.out.ext ha5) hfar.out G6.out T6.out (Nat.le_refl _)
          · exact (Q7.out.alloc Q7.out.size _).grown G6.out (by rw [World.size_alloc]; omega) (fun q hq => by have := (hal.out.lt q hq).1; omega)
        case measure => simp [intOf]; omega
    · obtain rfl : i = l.length := by omega
      have hdec := hid (show Decls wr (.slice op l.length oc) (l.map Po.unD) vs by
        have hX := X0.out
        have hO := O0.out
        rw [List.take_of_length_le (Nat.le_refl _)] at hX hO
        exact ⟨hX.len, by rw [List.length_map]; exact Row.of_owns hO, hX.box⟩)
      clear O0 X0
      go_wp2_with fail
      go_ret
      exact ⟨⟨_, rfl, hdec.out.sl⟩, Q0.out⟩

end Go.Proofs.YtnoieobjfihbeaaDoor

namespace Go.Proofs.YtnoieobjfihbeaaDoor
open Go.RowKit Go.Sort

theorem un_un (l : List Po.Decl) : (l.map Po.unD).map Po.unD = l.map Po.unD := by rw [List.map_map]; rfl
theorem small_un {l : List Po.Decl} (h : ∀ d ∈ l, DSmall d) : ∀ d ∈ l.map Po.unD, DSmall d := fun d hd => by
  obtain ⟨x, hx, rfl⟩ := List.mem_map.1 hd
  have := h x hx
  exact ⟨this.name, this.role, this.label, this.place, this.boxes⟩
set_option maxRecDepth 100000 in
set_option maxHeartbeats 4000000 in
theorem strips_walk {w : World} {v : Value} {l : List Po.Decl} (h : DSl w v l) (hn : l.length ≤ 140737488355328) (hs : ∀ d ∈ l, DSmall d) (hlines : l.length ≤ 200 → l.all Ru.may = true → (l.flatMap Pt.lineB).length ≤ 140737488355328) (ht : TabU w) :
    Calls Tryd.prog 8 #[v] w fun e w' => e = .returned (.bool true) ∧ Below w.heap.size w w' := by
  have hkn := known_from ht
  have hds := hid h
  have hs' := hid hs
  have hpos : 0 < w.heap.size := by have := tab_lt ht; omega
  obtain ⟨vp, vc, rfl⟩ := h.shape
  by_cases hL : 200 < l.length
  · have hL' : (200 : Int) < l.length := by omega
    clear hds ht h hs
    go_enter Tryd.func8, Tryd.ntmps8
    go_wp2_with fail
    refine (hkn.out _ (Below.refl _ _)).mono ?_
    rintro e w2 ⟨rfl, hb2⟩
    have Q2 := hid hb2
    clear hb2
    go_wp2_with fail
    go_ret
    exact ⟨rfl, Q2.out⟩
  have hd1 : decide ((200 : Int) < l.length) = false := decide_eq_false (by omega)
  have hst := hid (strip_any h (by omega) hs hpos)
  have hl2 := hlines (by omega)
  have hpl : Hid (∀ (w1 : World), Below w.heap.size w w1 → Calls Tryd.prog 12 #[.slice vp l.length vc] w1 fun e w' => e = .returned (.string ⟨(Pt.printB l).toArray⟩) ∧ Below w1.heap.size w1 w') := hid (fun w1 hb =>
    print_any (hds.out.ext hb) hn hs'.out (tab_ext ht hb) hl2)
  have hpu : Hid (∀ (w1 : World) (u : Value), Below w.heap.size w w1 → DSl w1 u (l.map Po.unD) → Calls Tryd.prog 12 #[u] w1 fun e w' => e = .returned (.string ⟨(Pt.printB l).toArray⟩) ∧ Below w1.heap.size w1 w') := hid (fun w1 u hb hd => by
    have e := Pt.print_un (un_un l)
    rw [← e]
    exact print_any hd (by rw [List.length_map]; exact hn) (small_un hs'.out) (tab_ext ht hb) (fun ha => by
      obtain ⟨a1, a2⟩ := Pt.lines_un (un_un l)
      rw [a1]; exact hl2 (by rw [← a2]; exact ha)))
  have hln : l.length ≤ 200 := by omega
  generalize (⟨(Pt.printB l).toArray⟩ : ByteArray) = t at *
  clear h hs hlines hl2 ht hL hpos
  go_enter Tryd.func8, Tryd.ntmps8
  go_wp2_with fail
  refine hst.out.mono ?_
  rintro e w1 ⟨⟨u, rfl, hu⟩, hb1⟩
  have U1 := hid hu
  have Q1 := hid hb1
  have hlm : (l.map Po.unD).length = l.length := List.length_map _
  obtain ⟨up, uc, hue⟩ := hu.shape
  rw [hlm] at hue
  subst hue
  clear hu hb1 hlm hst
  go_wp2_with fail
  go_loop [4] (fun x => ∃ i : Nat, x = .int .i64 i ∧ i ≤ l.length) (fun x => l.length - (intOf x).toNat)
  case atStart => exact ⟨0, rfl, Nat.zero_le _⟩
  case round =>
    obtain ⟨i, rfl, hle⟩ := hrel
    by_cases hlt : i < l.length
    · obtain ⟨g, off, rfl, hrow⟩ : ∃ g off, up = some ⟨g, off, none⟩ ∧ ∃ d x, w1.rangeAt g (off + i * 24) (declCells (Po.unD d) x).toList := by
        rcases U1.out with ⟨hv, h0⟩ | ⟨g, off, cap, hv, hr⟩
        · have : l.length = 0 := by have := congrArg List.length h0; simpa using this
          omega
        · obtain ⟨x, h1, _⟩ := hr.get i (by rw [List.length_map]; exact hlt)
          rw [List.getElem_map] at h1
          simp only [Value.slice.injEq] at hv
          exact ⟨g, off, hv.1, _, x, h1⟩
      obtain ⟨d, x, hat⟩ := hrow
      have y1 : w1.cell? ⟨g, off + i * 24 + 22, none⟩ = some (.int .i64 0) := hat 22 _ rfl
      have y2 : w1.cell? ⟨g, off + i * 24 + 22 + 1, none⟩ = some (.int .i64 0) := hat 23 _ rfl
      have y3 : w1.cell? ⟨g, off + i * 24 + 4 + 3, none⟩ = some (.int .i64 0) := hat 7 _ rfl
      have y4 : w1.cell? ⟨g, off + i * 24 + 4 + 3 + 1, none⟩ = some (.int .i64 0) := hat 8 _ rfl
      have y5 : w1.cell? ⟨g, off + i * 24 + 11 + 3, none⟩ = some (.int .i64 0) := hat 14 _ rfl
      have y6 : w1.cell? ⟨g, off + i * 24 + 11 + 3 + 1, none⟩ = some (.int .i64 0) := hat 15 _ rfl
      have y7 : w1.cell? ⟨g, off + i * 24 + 16 + 3, none⟩ = some (.int .i64 0) := hat 19 _ rfl
      have y8 : w1.cell? ⟨g, off + i * 24 + 16 + 3 + 1, none⟩ = some (.int .i64 0) := hat 20 _ rfl
      have i0 : (0 : Int) ≤ i := by omega
      have i1 : (i : Int) < l.length := by omega
      clear hat
      go_wp2_with fail
      go_round
      case rel => exact ⟨i + 1, by go_num, by omega⟩
      case measure => simp [intOf]; omega
    · obtain rfl : i = l.length := by omega
      have D1 := hid (hds.out.ext Q1.out)
      go_wp2_with fail
      refine (psame_false U1.out D1.out (un_un l) (by rw [List.length_map]; exact hn) (small_un hs'.out)).mono ?_
      rintro e w2 ⟨rfl, hb2⟩
      have Q2 := hid (bthen Q1.out hb2)
      have U2 := hid (U1.out.ext hb2)
      clear hb2 U1 D1
      go_wp2_with fail
      refine (hpu.out _ _ Q2.out U2.out).mono ?_
      rintro e w3 ⟨rfl, hb3⟩
      have Q3 := hid (bthen Q2.out hb3)
      clear hb3 U2
      go_wp2_with fail
      refine (hpl.out _ Q3.out).mono ?_
      rintro e w4 ⟨rfl, hb4⟩
      have Q4 := hid (bthen Q3.out hb4)
      clear hb4
      go_wp2_with fail
      refine (hkn.out _ Q4.out).mono ?_
      rintro e w5 ⟨rfl, hb5⟩
      have Q5 := hid hb5
      clear hb5
      go_wp2_with fail
      go_ret
      exact ⟨rfl, Q5.out⟩

end Go.Proofs.YtnoieobjfihbeaaDoor

namespace Go.Proofs.YtnoieobjfihbeaaDoor
open Go.ChangeShapes Go.WideShapes Go.RowKit

/-! ### general -/
section
variable {H : Type} {P : Program}
def Within (P : Program) (t : TypeId) (d : DataW H) : Prop := ∀ n ∈ d.weights P t, n ≤ reachBytes
theorem mem_weightsAll {e : TypeId} {d : DataW H} {n : Nat} (hn : n ∈ d.weights P e) : ∀ {l : List (DataW H)}, d ∈ l → n ∈ DataW.weightsAll P e l
  | x :: l, h => by
    simp only [DataW.weightsAll, List.mem_append]
    rcases List.mem_cons.1 h with rfl | h
    · exact .inl hn
    · exact .inr (mem_weightsAll hn h)
theorem Within.slice {t e : TypeId} {el sp : List (DataW H)} (h : Within P t (.slice el sp)) (ht : P.underlying t = some (.slice e)) : el.length * P.bytesOf e ≤ reachBytes ∧ ∀ d ∈ el, Within P e d := by
  unfold Within at h
  simp only [DataW.weights, ht] at h
  refine ⟨?_, fun d hd n hn => h n (List.mem_cons_of_mem _ (List.mem_append_left _ (mem_weightsAll hn hd)))⟩
  have := h _ List.mem_cons_self
  rw [Nat.add_mul] at this
  omega
theorem Within.struct {t : TypeId} {fs : Array Field} {parts : List (DataW H)} (h : Within P t (.agg parts)) (ht : P.underlying t = some (.struct fs)) {i : Nat} {f : Field} {d : DataW H} (hf : fs[i]? = some f) (hd : parts[i]? = some d) : Within P f.type d := by
  unfold Within at h
  simp only [DataW.weights, ht] at h
  exact fun n hn => h n (DataW.weights_mem_each (ts := fs.toList.map (·.type)) (j := i) (by simp [hf]) hd n hn)
theorem Within.top {ts : List TypeId} {ds : List (DataW H)} (h : (DataW.weightsEach P ts ds).all (· ≤ reachBytes) = true) {j : Nat} {t : TypeId} {d : DataW H} (ht : ts[j]? = some t) (hd : ds[j]? = some d) : Within P t d :=
  fun n hn => by simpa using List.all_eq_true.1 h n (DataW.weights_mem_each ht hd n hn)
variable {enc : TypeId × Value → H} {w : World} {base : Nat} {spare : Nat → Bool} {held : Bool}
/-- part number i of a struct, by itself -/
theorem struct_part {fs : Array Field} {fuel : Nat} {t : TypeId} {cs : List Value} {x : DataW H × List MemPlace} (ht : P.underlying t = some (.struct fs)) (h : DataW.trod enc P w base spare held fuel t cs = some x) :
    cs.length = P.cellsOf t ∧ ∃ parts n, x.1 = .agg parts ∧ ∀ (i : Nat) (f : Field), fs[i]? = some f → ∃ y, DataW.trod enc P w base spare held n f.type ((cs.drop f.offset).take (P.cellsOf f.type)) = some y ∧ parts[i]? = some y.1 := by
  obtain ⟨xs, n, _, rfl, hlen, hxl, hf⟩ := DataW.trod_struct ht h
  refine ⟨hlen, xs.map (·.1), n, rfl, fun i f hi => ?_⟩
  have hi2 : i < xs.length := by rw [hxl]; exact (Array.getElem?_eq_some_iff.1 hi).1
  refine ⟨xs[i], ?_, ?_⟩
  · rw [hf i f hi, List.getElem?_eq_getElem hi2]
  · rw [List.getElem?_map, List.getElem?_eq_getElem hi2]; rfl
/-- a row's elements lie behind one another in one block -/
theorem rows_at {a : Addr} {len size : Nat} (hpos : 0 < len) (hsz : 0 < size) (F : Nat → List Value) (hF : ∀ i, i < len → w.cells? base (a.add (i * size)) size = some (F i)) :
    ∃ g off, a = ⟨g, off, none⟩ ∧ g < w.heap.size ∧ ∀ i, i < len → (F i).length = size ∧ w.rangeAt g (off + i * size) (F i) := by
  obtain ⟨_, hl0, h0⟩ := World.cells?_some (hF 0 hpos)
  have h1 := h0 0 hsz
  rw [List.getElem?_eq_getElem (by omega)] at h1
  have e0 : (a.add (0 * size)).add 0 = a := by simp [Addr.add]
  rw [e0] at h1
  obtain ⟨g, off, sp⟩ := a
  have hsp : sp = none := by
    unfold World.cell? at h1
    cases sp with
    | none => rfl
    | some s => simp at h1; split at h1 <;> simp at h1
  subst hsp
  refine ⟨g, off, rfl, World.block_lt_of_cell? _ _ h1, fun i hi => ?_⟩
  obtain ⟨_, hl, hc⟩ := World.cells?_some (hF i hi)
  refine ⟨hl, fun j v hj => ?_⟩
  have hj2 : j < size := by rw [← hl]; exact (List.getElem?_eq_some_iff.1 hj).1
  have := hc j hj2
  rw [Go.Deep.add_add, addr_add', hj] at this
  rw [Nat.add_assoc]
  exact this
where
  addr_add' {g off j : Nat} : (⟨g, off, none⟩ : Addr).add j = ⟨g, off + j, none⟩ := by unfold Addr.add; split <;> simp_all
/-- all arguments read again as they did -/
theorem all_again {W W' : World} (hb : Below W.heap.size W W') (hl : laidOutB P = true) : ∀ {ts : List TypeId} {vs : List Value} {ds : List (DataW H)} {p : List MemPlace}, DataW.TrodAll enc P W 0 (fun _ => true) true ts vs ds p → (∀ t ∈ ts, P.readableRec t = true ∧ t < P.types.size) → (∀ x ∈ p, x.block < W.heap.size) →
    DataW.TrodAll enc P W' 0 (fun b => decide (b < W.heap.size)) true ts vs ds p
  | [], vs, ds, p, h, _, _ => by
    obtain ⟨rfl, rfl, rfl⟩ := trodAll_nil h
    exact trodAll_mk0
  | t :: ts, vs, ds, p, h, hr, hp => by
    obtain ⟨v, vs', d, ds', p1, q1, rfl, rfl, rfl, h1, h2⟩ := trodAll_cons h
    obtain ⟨r1, r2⟩ := hr t List.mem_cons_self
    exact trodAll_cons_mk (Below.trod hl r1 r2 h1 hb (fun x hx => hp x (List.mem_append_left _ hx))) (all_again hb hl h2 (fun t ht => hr t (List.mem_cons_of_mem _ ht)) (fun x hx => hp x (List.mem_append_right _ hx)))
end

/-! ### this program's types -/
section
variable {H : Type} {enc : TypeId × Value → H} {w : World} {base : Nat} {spare : Nat → Bool} {held : Bool} {fuel : Nat} {x : DataW H × List MemPlace}
instance : Inhabited Po.Box := ⟨⟨0, 0, 0, 0⟩⟩
instance : Inhabited Ru.Rule := ⟨⟨0, 0, 0, 0, 0, [], 0⟩⟩
theorem boxes_len' (l : List Po.Box) : (boxesCells l).length = l.length * 4 := by
  induction l with
  | nil => rfl
  | cons b l ih =>
    have e : boxesCells (b :: l) = boxCells b ++ boxesCells l := rfl
    rw [e, List.length_append, ih, List.length_cons]
    show 4 + l.length * 4 = _
    omega
theorem cellsInt : Tryd.prog.cellsOf 3 = 1 := by kernel_rfl
theorem cellsRect : Tryd.prog.cellsOf 73 = 4 := by kernel_rfl
theorem cellsRects : Tryd.prog.cellsOf 40 = 1 := by kernel_rfl
theorem bytesRect : Tryd.prog.bytesOf 73 = 32 := by kernel_rfl
theorem rd_int {v : Value} (h : DataW.trod enc Tryd.prog w base spare held fuel 3 [v] = some x) : ∃ n, v = .int .i64 n := by
  obtain ⟨n, h1, _⟩ := DataW.trod_int Tryd.underlying3 h
  exact ⟨n, by simpa using h1⟩
theorem rd_int2 {v : Value} (h : DataW.trod enc Tryd.prog w base spare held fuel 3 [v] = some x) : ∃ n, v = .int .i64 n ∧ -9223372036854775808 ≤ n ∧ n ≤ 9223372036854775807 := by
  obtain ⟨n, h1, _, h2⟩ := DataW.trod_int Tryd.underlying3 h
  refine ⟨n, by simpa using h1, ?_⟩
  have e1 : IntKind.i64.min = -9223372036854775808 := rfl
  have e2 : IntKind.i64.max = 9223372036854775807 := rfl
  simp only [Lit.wf, Bool.and_eq_true, decide_eq_true_eq, e1, e2] at h2
  exact h2
set_option maxRecDepth 100000 in
theorem rd_rect {cs : List Value} (h : DataW.trod enc Tryd.prog w base spare held fuel 73 cs = some x) : ∃ b : Po.Box, cs = boxCells b := by
  obtain ⟨hl, parts, n, _, hp⟩ := struct_part Tryd.underlying73 h
  rw [cellsRect] at hl
  obtain ⟨y0, h0, _⟩ := hp 0 _ rfl
  obtain ⟨y1, h1, _⟩ := hp 1 _ rfl
  obtain ⟨y2, h2, _⟩ := hp 2 _ rfl
  obtain ⟨y3, h3, _⟩ := hp 3 _ rfl
  have h0 : DataW.trod enc Tryd.prog w base spare held n 3 ((cs.drop 0).take (Tryd.prog.cellsOf 3)) = some y0 := h0
  have h1 : DataW.trod enc Tryd.prog w base spare held n 3 ((cs.drop 1).take (Tryd.prog.cellsOf 3)) = some y1 := h1
  have h2 : DataW.trod enc Tryd.prog w base spare held n 3 ((cs.drop 2).take (Tryd.prog.cellsOf 3)) = some y2 := h2
  have h3 : DataW.trod enc Tryd.prog w base spare held n 3 ((cs.drop 3).take (Tryd.prog.cellsOf 3)) = some y3 := h3
  simp only [cellsInt] at h0 h1 h2 h3
  match cs, hl with
  | [a, b, c, d], _ =>
    obtain ⟨n0, rfl⟩ := rd_int h0
    obtain ⟨n1, rfl⟩ := rd_int h1
    obtain ⟨n2, rfl⟩ := rd_int h2
    obtain ⟨n3, rfl⟩ := rd_int h3
    exact ⟨⟨n0, n1, n2, n3⟩, rfl⟩
theorem rd_rects {v : Value} (h : DataW.trod enc Tryd.prog w base spare held fuel 40 [v] = some x) (hs : Within Tryd.prog 40 x.1) : ∃ l : List Po.Box, BRow w v l ∧ l.length * 32 ≤ 140737488355328 := by
  rcases Go.Deep.open_slice Tryd.underlying40 h with ⟨hcs, rfl⟩ | ⟨a, len, cap, m, n, D, Pl, hcs, hb, hl, hm, hmm, rfl, hx⟩
  · simp only [List.cons.injEq, and_true] at hcs
    exact ⟨[], .inl ⟨_, _, hcs, rfl⟩, by decide⟩
  · simp only [List.cons.injEq, and_true] at hcs
    subst hcs
    obtain ⟨hbytes, _⟩ := hs.slice Tryd.underlying40
    rw [bytesRect] at hbytes
    simp only [List.length_map, List.length_range] at hbytes
    rw [cellsRect] at hx
    by_cases h0 : len = 0
    · subst h0
      exact ⟨[], .inl ⟨_, _, rfl, rfl⟩, by decide⟩
    · have hml : len ≤ m := by rw [hmm]; split <;> omega
      obtain ⟨f, hf⟩ := Go.Deep.choose_lt (α := Po.Box) (n := len) (p := fun i b => w.cells? base (a.add (i * 4)) 4 = some (boxCells b)) (fun i hi => by
        obtain ⟨cs', h1, h2⟩ := hx i (by omega)
        obtain ⟨b, rfl⟩ := rd_rect h2
        exact ⟨b, h1⟩)
      obtain ⟨g, off, rfl, hg, hr⟩ := rows_at (by omega) (by decide) (fun i => boxCells (f i)) hf
      refine ⟨(List.range len).map f, .inr ⟨by rw [boxes_len'], .inr ⟨g, off, cap, by simp, by simpa using hl, hg, fun j u hj => ?_⟩⟩, by simp only [List.length_map, List.length_range]; unfold reachBytes at hbytes; omega⟩
      have hjl : j < len * 4 := by
        have := (List.getElem?_eq_some_iff.1 hj).1
        rw [boxes_len'] at this
        simpa using this
      have hi : j / 4 < ((List.range len).map f).length := by simp only [List.length_map, List.length_range]; omega
      have hp := flat_part (f := boxArr) (size := 4) ((List.range len).map f) (fun _ _ => rfl) (j / 4) hi (j % 4) (by omega)
      rw [show j / 4 * 4 + j % 4 = j by omega] at hp
      have hj' : ((List.range len).map f).flatMap (fun x => (boxArr x).toList) = boxesCells ((List.range len).map f) := rfl
      rw [hj', hj] at hp
      have := (hr (j / 4) (by omega)).2 (j % 4) u (by
        have e : (boxArr ((List.range len).map f)[j / 4])[j % 4]? = (boxCells (f (j / 4)))[j % 4]? := by
          simp only [List.getElem_map, List.getElem_range]
          unfold boxArr boxCells
          simp
        rw [← e, ← hp])
      rw [show off + j / 4 * 4 + j % 4 = off + j by omega] at this
      exact this
end

end Go.Proofs.YtnoieobjfihbeaaDoor

namespace Go.Proofs.YtnoieobjfihbeaaDoor
open Go.ChangeShapes Go.WideShapes Go.RowKit

section
variable {H : Type} {enc : TypeId × Value → H} {w : World} {base : Nat} {spare : Nat → Bool} {held : Bool} {fuel : Nat} {x : DataW H × List MemPlace}
instance : Inhabited Po.Who := ⟨⟨false, ⟨#[]⟩, 0, 0, 0⟩⟩
instance : Inhabited Po.Decl := ⟨⟨0, ⟨#[]⟩, 0, [], default, 0, 0, default, default, 0, 0, 0⟩⟩
theorem cellsStr : Tryd.prog.cellsOf 9 = 1 := by kernel_rfl
theorem cellsBool : Tryd.prog.cellsOf 4 = 1 := by kernel_rfl
theorem cellsPos : Tryd.prog.cellsOf 30 = 2 := by kernel_rfl
theorem cellsWho : Tryd.prog.cellsOf 42 = 5 := by kernel_rfl
theorem cellsDecl : Tryd.prog.cellsOf 44 = 24 := by kernel_rfl
theorem bytesDecl : 200 ≤ Tryd.prog.bytesOf 44 := of_decide_eq_true (by kernel_rfl)
theorem rd_str {v : Value} (h : DataW.trod enc Tryd.prog w base spare held fuel 9 [v] = some x) (hs : Within Tryd.prog 9 x.1) : ∃ s : ByteArray, v = .string s ∧ s.size ≤ 140737488355328 := by
  obtain ⟨s, h1, h2, _⟩ := DataW.trod_string Tryd.underlying9 h
  refine ⟨s, by simpa using h1, ?_⟩
  have h3 := hs s.data.toList.length (by rw [h2]; simp [DataW.weights])
  rw [Array.length_toList] at h3
  unfold reachBytes at h3
  have : s.size = s.data.size := rfl
  omega
theorem rd_bool {v : Value} (h : DataW.trod enc Tryd.prog w base spare held fuel 4 [v] = some x) : ∃ b, v = .bool b := by
  obtain ⟨b, h1, _⟩ := DataW.trod_bool Tryd.underlying4 h
  exact ⟨b, by simpa using h1⟩
set_option maxRecDepth 100000 in
theorem rd_pos {cs : List Value} (h : DataW.trod enc Tryd.prog w base spare held fuel 30 cs = some x) : ∃ p q, cs = [.int .i64 p, .int .i64 q] := by
  obtain ⟨hl, parts, n, _, hp⟩ := struct_part Tryd.underlying30 h
  rw [cellsPos] at hl
  obtain ⟨y0, h0, p0⟩ := hp 0 _ rfl
  obtain ⟨y1, h1, p1⟩ := hp 1 _ rfl
  have h0 : DataW.trod enc Tryd.prog w base spare held n 3 ((cs.drop 0).take (Tryd.prog.cellsOf 3)) = some y0 := h0
  have h1 : DataW.trod enc Tryd.prog w base spare held n 3 ((cs.drop 1).take (Tryd.prog.cellsOf 3)) = some y1 := h1
  simp only [cellsInt] at h0 h1
  match cs, hl with
  | [a, b], _ =>
    obtain ⟨n0, rfl⟩ := rd_int h0
    obtain ⟨n1, rfl⟩ := rd_int h1
    exact ⟨n0, n1, rfl⟩
set_option maxRecDepth 100000 in
theorem rd_who {cs : List Value} (h : DataW.trod enc Tryd.prog w base spare held fuel 42 cs = some x) (hs : Within Tryd.prog 42 x.1) : ∃ u : Po.Who, cs = (whoArr u).toList ∧ u.name.size ≤ 140737488355328 := by
  obtain ⟨hl, parts, n, hx1, hp⟩ := struct_part Tryd.underlying42 h
  rw [hx1] at hs
  rw [cellsWho] at hl
  obtain ⟨y0, h0, p0⟩ := hp 0 _ rfl
  obtain ⟨y1, h1, p1⟩ := hp 1 _ rfl
  obtain ⟨y2, h2, p2⟩ := hp 2 _ rfl
  obtain ⟨y3, h3, p3⟩ := hp 3 _ rfl
  have h0 : DataW.trod enc Tryd.prog w base spare held n 4 ((cs.drop 0).take (Tryd.prog.cellsOf 4)) = some y0 := h0
  have h1 : DataW.trod enc Tryd.prog w base spare held n 9 ((cs.drop 1).take (Tryd.prog.cellsOf 9)) = some y1 := h1
  have h2 : DataW.trod enc Tryd.prog w base spare held n 3 ((cs.drop 2).take (Tryd.prog.cellsOf 3)) = some y2 := h2
  have h3 : DataW.trod enc Tryd.prog w base spare held n 30 ((cs.drop 3).take (Tryd.prog.cellsOf 30)) = some y3 := h3
  have s1 : Within Tryd.prog 9 y1.1 := hs.struct Tryd.underlying42 (i := 1) rfl p1
  simp only [cellsInt, cellsBool, cellsStr, cellsPos] at h0 h1 h2 h3
  match cs, hl with
  | [a, b, c, d, e], _ =>
    obtain ⟨n0, rfl⟩ := rd_bool (v := a) h0
    obtain ⟨n1, rfl, hn1⟩ := rd_str (v := b) h1 s1
    obtain ⟨n2, rfl⟩ := rd_int (v := c) h2
    obtain ⟨l, k, hlk⟩ := rd_pos (cs := [d, e]) h3
    cases hlk
    exact ⟨⟨n0, n1, n2, l, k⟩, rfl, hn1⟩
set_option maxRecDepth 100000 in
theorem rd_decl {cs : List Value} (h : DataW.trod enc Tryd.prog w base spare held fuel 44 cs = some x) (hs : Within Tryd.prog 44 x.1) : ∃ (d : Po.Decl) (v : Value), cs = (declCells d v).toList ∧ BRow w v d.boxes ∧ DSmall d := by
  obtain ⟨hl, parts, n, hx1, hp⟩ := struct_part Tryd.underlying44 h
  rw [hx1] at hs
  rw [cellsDecl] at hl
  obtain ⟨y0, h0, p0⟩ := hp 0 _ rfl
  obtain ⟨y1, h1, p1⟩ := hp 1 _ rfl
  obtain ⟨y2, h2, p2⟩ := hp 2 _ rfl
  obtain ⟨y3, h3, p3⟩ := hp 3 _ rfl
  obtain ⟨y4, h4, p4⟩ := hp 4 _ rfl
  obtain ⟨y5, h5, p5⟩ := hp 5 _ rfl
  obtain ⟨y6, h6, p6⟩ := hp 6 _ rfl
  obtain ⟨y7, h7, p7⟩ := hp 7 _ rfl
  obtain ⟨y8, h8, p8⟩ := hp 8 _ rfl
  obtain ⟨y9, h9, p9⟩ := hp 9 _ rfl
  obtain ⟨y10, h10, p10⟩ := hp 10 _ rfl
  have h0 : DataW.trod enc Tryd.prog w base spare held n 3 ((cs.drop 0).take (Tryd.prog.cellsOf 3)) = some y0 := h0
  have h1 : DataW.trod enc Tryd.prog w base spare held n 9 ((cs.drop 1).take (Tryd.prog.cellsOf 9)) = some y1 := h1
  have h2 : DataW.trod enc Tryd.prog w base spare held n 3 ((cs.drop 2).take (Tryd.prog.cellsOf 3)) = some y2 := h2
  have h3 : DataW.trod enc Tryd.prog w base spare held n 40 ((cs.drop 3).take (Tryd.prog.cellsOf 40)) = some y3 := h3
  have h4 : DataW.trod enc Tryd.prog w base spare held n 42 ((cs.drop 4).take (Tryd.prog.cellsOf 42)) = some y4 := h4
  have h5 : DataW.trod enc Tryd.prog w base spare held n 3 ((cs.drop 9).take (Tryd.prog.cellsOf 3)) = some y5 := h5
  have h6 : DataW.trod enc Tryd.prog w base spare held n 3 ((cs.drop 10).take (Tryd.prog.cellsOf 3)) = some y6 := h6
  have h7 : DataW.trod enc Tryd.prog w base spare held n 42 ((cs.drop 11).take (Tryd.prog.cellsOf 42)) = some y7 := h7
  have h8 : DataW.trod enc Tryd.prog w base spare held n 42 ((cs.drop 16).take (Tryd.prog.cellsOf 42)) = some y8 := h8
  have h9 : DataW.trod enc Tryd.prog w base spare held n 3 ((cs.drop 21).take (Tryd.prog.cellsOf 3)) = some y9 := h9
  have h10 : DataW.trod enc Tryd.prog w base spare held n 30 ((cs.drop 22).take (Tryd.prog.cellsOf 30)) = some y10 := h10
  have s1 : Within Tryd.prog 9 y1.1 := hs.struct Tryd.underlying44 (i := 1) rfl p1
  have s3 : Within Tryd.prog 40 y3.1 := hs.struct Tryd.underlying44 (i := 3) rfl p3
  have s4 : Within Tryd.prog 42 y4.1 := hs.struct Tryd.underlying44 (i := 4) rfl p4
  have s7 : Within Tryd.prog 42 y7.1 := hs.struct Tryd.underlying44 (i := 7) rfl p7
  have s8 : Within Tryd.prog 42 y8.1 := hs.struct Tryd.underlying44 (i := 8) rfl p8
  simp only [cellsInt, cellsStr, cellsPos, cellsWho, cellsRects] at h0 h1 h2 h3 h4 h5 h6 h7 h8 h9 h10
  match cs, hl with
  | [c0, c1, c2, c3, c4, c5, c6, c7, c8, c9, c10, c11, c12, c13, c14, c15, c16, c17, c18, c19, c20, c21, c22, c23], _ =>
    obtain ⟨n0, rfl⟩ := rd_int (v := c0) h0
    obtain ⟨n1, rfl, hn1⟩ := rd_str (v := c1) h1 s1
    obtain ⟨n2, rfl⟩ := rd_int (v := c2) h2
    obtain ⟨l, hb, hbl⟩ := rd_rects (v := c3) h3 s3
    obtain ⟨u4, e4, hu4⟩ := rd_who (cs := [c4, c5, c6, c7, c8]) h4 s4
    obtain ⟨n5, rfl⟩ := rd_int (v := c9) h5
    obtain ⟨n6, rfl⟩ := rd_int (v := c10) h6
    obtain ⟨u7, e7, hu7⟩ := rd_who (cs := [c11, c12, c13, c14, c15]) h7 s7
    obtain ⟨u8, e8, hu8⟩ := rd_who (cs := [c16, c17, c18, c19, c20]) h8 s8
    obtain ⟨n9, rfl⟩ := rd_int (v := c21) h9
    obtain ⟨p, q, e10⟩ := rd_pos (cs := [c22, c23]) h10
    cases e4
    cases e7
    cases e8
    cases e10
    exact ⟨⟨n0, n1, n2, l, u4, n5, n6, u7, u8, n9, p, q⟩, c3, rfl, hb, ⟨hn1, hu4, hu7, hu8, hbl⟩⟩
set_option maxRecDepth 100000 in
theorem rd_decls {v : Value} {d : DataW H} {ps : List MemPlace} (hval : Value.okWide Tryd.prog w .any base 22 v) (h : DataW.Trod enc Tryd.prog w 0 spare held 22 v d ps) (hs : Within Tryd.prog 22 d) :
    ∃ l : List Po.Decl, DSl w v l ∧ l.length ≤ 140737488355328 ∧ ∀ r ∈ l, DSmall r := by
  obtain ⟨va, vl, vc, rfl⟩ := okWide_slice Tryd.underlying22 hval
  obtain ⟨fuel, hf⟩ := h
  have hcl : (Value.slice va vl vc).cells.toList = [.slice va vl vc] := by simp [Value.cells]
  rw [hcl] at hf
  rcases Go.Deep.open_slice Tryd.underlying22 hf with ⟨hcs, _⟩ | ⟨a, len, cap, m, n, D, Pl, hcs, hb, hl, hm, hmm, hd, hx⟩
  · simp only [List.cons.injEq, and_true] at hcs
    exact ⟨[], .inl ⟨hcs, rfl⟩, by simp, by simp⟩
  · simp only [List.cons.injEq, and_true] at hcs
    obtain ⟨rfl, rfl, rfl⟩ : some a = va ∧ len = vl ∧ cap = vc := by simp only [Value.slice.injEq] at hcs; exact ⟨hcs.1.symm, hcs.2.1.symm, hcs.2.2.symm⟩
    have hd1 := congrArg Prod.fst hd
    simp only at hd1
    subst hd1
    obtain ⟨hbytes, hel⟩ := hs.slice Tryd.underlying22
    have hlen : len * 200 ≤ reachBytes := Nat.le_trans (Nat.mul_le_mul_left len bytesDecl) (by simpa using hbytes)
    clear hbytes
    rw [cellsDecl] at hx
    by_cases h0 : len = 0
    · subst h0
      have hval' := hval
      simp only [Value.okWide, Tryd.underlying22, Cell.okWide, Cell.ok] at hval'
      obtain ⟨_, _, hhas⟩ := hval'
      obtain ⟨_, hsp, row, cells, hshape, _⟩ := hhas
      obtain ⟨g, off, sp⟩ := a
      simp only at hsp hshape
      subst hsp
      refine ⟨[], .inr ⟨g, off, cap, rfl, Nat.zero_le _, ?_, fun i hi => by simp at hi⟩, by simp, by simp⟩
      unfold World.shape? at hshape
      rcases Nat.lt_or_ge g w.heap.size with hlt | hge
      · exact hlt
      · rw [Array.getElem?_eq_none hge] at hshape; cases hshape
    · have hml : len ≤ m := by rw [hmm]; split <;> omega
      obtain ⟨f, hf2⟩ := Go.Deep.choose_lt (α := Po.Decl × Value) (n := len) (p := fun i q => w.cells? 0 (a.add (i * 24)) 24 = some (declCells q.1 q.2).toList ∧ BRow w q.2 q.1.boxes ∧ DSmall q.1) (fun i hi => by
        obtain ⟨cs', h1, h2⟩ := hx i (by omega)
        obtain ⟨r, v, rfl, h3, h4⟩ := rd_decl h2 (hel (D i) (List.mem_map.2 ⟨i, List.mem_range.2 hi, rfl⟩))
        exact ⟨(r, v), h1, h3, h4⟩)
      obtain ⟨g, off, rfl, hg, hr⟩ := rows_at (by omega) (by decide) (fun i => (declCells (f i).1 (f i).2).toList) (fun i hi => (hf2 i hi).1)
      refine ⟨(List.range len).map fun i => (f i).1, .inr ⟨g, off, cap, by simp, by simpa using hl, hg, fun i hi => ?_⟩, by simp only [List.length_map, List.length_range]; unfold reachBytes at hlen; omega, fun r hr' => ?_⟩
      · simp only [List.length_map, List.length_range] at hi
        obtain ⟨_, h3, h4⟩ := hf2 i hi
        simp only [List.getElem_map, List.getElem_range]
        exact ⟨(f i).2, (hr i hi).2, h3⟩
      · obtain ⟨i, hi, rfl⟩ := List.mem_map.1 hr'
        exact (hf2 i (List.mem_range.1 hi)).2.2
theorem readDecls : Tryd.prog.readableRec 22 = true ∧ 22 < Tryd.prog.types.size := ⟨by kernel_rfl, of_decide_eq_true (by kernel_rfl)⟩
end

end Go.Proofs.YtnoieobjfihbeaaDoor
