/-
  The document's own reader of policies: of.
-/
import Derived.Test.YtnoieobjfihbeaaGreatDoorPk25

namespace Go.Proofs.YtnoieobjfihbeaaGreatDoor
open Go.RowKit Go.Sort

/-- a reader and a token that come back -/
def OfBack (w0 : World) (T : List Lx.Tok) (e : Nat × Nat) (k : Nat) (st : Po.St) (en : Ending) : Prop :=
  ∃ L, en = .returned (.tuple #[.agg (rdArr L e (Po.takeSt T e k st)), .agg (tokArr (Po.takeTok T k st))]) ∧ RRd w0 L T (Po.takeSt T e k st)
def zeroT : Array Value := #[.int .i64 0, .string ⟨#[]⟩, .int .i64 0, .int .i64 0, .int .i64 0]
theorem blk_set5 {w : World} {b : Nat} {a0 a1 a2 a3 a4 : Value} {t : TypeId} (h : Blk w b #[a0, a1, a2, a3, a4] t) (b0 b1 b2 b3 b4 : Value) :
    Blk (((((w.setCell ⟨b, 0, none⟩ b0).setCell ⟨b, 1, none⟩ b1).setCell ⟨b, 2, none⟩ b2).setCell ⟨b, 3, none⟩ b3).setCell ⟨b, 4, none⟩ b4) b #[b0, b1, b2, b3, b4] t := by
  have e : (((((#[a0, a1, a2, a3, a4] : Array Value).setIfInBounds 0 b0).setIfInBounds 1 b1).setIfInBounds 2 b2).setIfInBounds 3 b3).setIfInBounds 4 b4 = #[b0, b1, b2, b3, b4] := by simp
  rw [← e]
  exact ((((h.set 0 b0).set 1 b1).set 2 b2).set 3 b3).set 4 b4
theorem blk_set6 {w : World} {b : Nat} {a0 a1 a2 a3 a4 a5 : Value} {t : TypeId} (h : Blk w b #[a0, a1, a2, a3, a4, a5] t) (b0 b1 b2 b3 b4 b5 : Value) :
    Blk ((((((w.setCell ⟨b, 0, none⟩ b0).setCell ⟨b, 1, none⟩ b1).setCell ⟨b, 2, none⟩ b2).setCell ⟨b, 3, none⟩ b3).setCell ⟨b, 4, none⟩ b4).setCell ⟨b, 5, none⟩ b5) b #[b0, b1, b2, b3, b4, b5] t := by
  have e : ((((((#[a0, a1, a2, a3, a4, a5] : Array Value).setIfInBounds 0 b0).setIfInBounds 1 b1).setIfInBounds 2 b2).setIfInBounds 3 b3).setIfInBounds 4 b4).setIfInBounds 5 b5 = #[b0, b1, b2, b3, b4, b5] := by simp
  rw [← e]
  exact (((((h.set 0 b0).set 1 b1).set 2 b2).set 3 b3).set 4 b4).set 5 b5
/-- what the region reads: the reader's cells, the token's -/
theorem ofS {W : World} {b g o : Nat} {L : Value} {e : Nat × Nat} {st : Po.St} {k n l c : Int} {x : ByteArray} {t : TypeId} (h : Blk W b (rdArr L e st) t) (ha : TokAt W g o k x n l c) :
    W.cell? ⟨b, 0, none⟩ = some L ∧ W.cell? ⟨b, 1, none⟩ = some (.int .i64 e.1) ∧ W.cell? ⟨b, 1 + 1, none⟩ = some (.int .i64 e.2) ∧ W.cell? ⟨b, 1 + 1 + 1, none⟩ = some (.int .i64 st.f.1) ∧ W.cell? ⟨b, 1 + 1 + 1 + 1, none⟩ = some (.int .i64 st.f.2.1) ∧
      W.cell? ⟨b, 1 + 1 + 1 + 1 + 1, none⟩ = some (.int .i64 st.f.2.2) ∧ W.cell? ⟨g, o, none⟩ = some (.int .i64 k) ∧ W.cell? ⟨g, o + 1, none⟩ = some (.string x) ∧ W.cell? ⟨g, o + 1 + 1, none⟩ = some (.int .i64 n) ∧ W.cell? ⟨g, o + 1 + 1 + 1, none⟩ = some (.int .i64 l) ∧ W.cell? ⟨g, o + 1 + 1 + 1 + 1, none⟩ = some (.int .i64 c) :=
  ⟨h.cell 0 rfl, h.cell 1 rfl, h.cell 2 rfl, h.cell 3 rfl, h.cell 4 rfl, h.cell 5 rfl, ha.c0, ha.c1, ha.c2, ha.c3, ha.c4⟩

theorem blk_six {w : World} {b : Nat} {x y z u v s : Value} {t : TypeId} (h : Blk w b #[x, y, z, u, v, s] t) : w.cell? ⟨b, 0, none⟩ = some x ∧ w.cell? ⟨b, 1, none⟩ = some y ∧ w.cell? ⟨b, 2, none⟩ = some z ∧ w.cell? ⟨b, 3, none⟩ = some u ∧ w.cell? ⟨b, 4, none⟩ = some v ∧ w.cell? ⟨b, 5, none⟩ = some s ∧ (∀ o, w.frozen? ⟨b, o, none⟩ = false) ∧ b < w.heap.size :=
  ⟨h.cell 0 rfl, h.cell 1 rfl, h.cell 2 rfl, h.cell 3 rfl, h.cell 4 rfl, h.cell 5 rfl, h.free, h.lt⟩
set_option maxRecDepth 100000 in
set_option maxHeartbeats 4000000 in
theorem rrof_yes {w0 w : World} {L : Value} {T : List Lx.Tok} {st : Po.St} (e : Nat × Nat) (h : RRd w0 L T st) (hw0 : Below w0.heap.size w0 w) (k : Nat) (hk : Po.kindIs T k st = true) :
    Calls Tryz.prog 49 #[.agg (rdArr L e st), .int .i64 k] w fun en w' => OfBack w0 T e k st en ∧ Below w.heap.size w w' := by
  have hlt := Po.lt_of_kindIs hk
  obtain ⟨g, o, n, c, t, rfl, hn0, hnc, hn1, ht, hg, hat, _⟩ := h.head hlt
  have hts := hid (Po.takeSt_on (e := e) hk)
  have htt := hid (Po.takeTok_on hk ht)
  have hkk : Hid (t.kind = k ∧ st.f.1 = 0) := by
    unfold Po.kindIs at hk
    rw [ht] at hk
    simp only [Bool.and_eq_true, beq_iff_eq] at hk
    exact hid ⟨hk.2, hk.1⟩
  have z1 := balloc w (.cells (rdArr (.slice (some ⟨g, o, none⟩) n c) e st) 53)
  have z2 := balloc (w.alloc (.cells (rdArr (.slice (some ⟨g, o, none⟩) n c) e st) 53)) (.cells zeroR 53)
  have z3 := balloc ((w.alloc (.cells (rdArr (.slice (some ⟨g, o, none⟩) n c) e st) 53)).alloc (.cells zeroR 53)) (.cells zeroT 85)
  have B0 := hid (((Blk.new w (rdArr (.slice (some ⟨g, o, none⟩) n c) e st) 53).ext z2).ext z3)
  have R0 := hid ((Blk.newAt (w := w.alloc (.cells (rdArr (.slice (some ⟨g, o, none⟩) n c) e st) 53)) (k := w.heap.size + 1) (by simp) zeroR 53).ext z3)
  have T0 := hid (Blk.newAt (w := (w.alloc (.cells (rdArr (.slice (some ⟨g, o, none⟩) n c) e st) 53)).alloc (.cells zeroR 53)) (k := w.heap.size + 1 + 1) (by simp) zeroT 85)
  have Q0 := hid (bthen (bthen z1 z2) z3)
  have W0 := hid (bthen hw0 Q0.out)
  have h' := hid h
  have hlt' := hid hlt
  have hat' := hid hat
  have hgw : g < w.heap.size := Nat.lt_of_lt_of_le hg hw0.size
  clear z1 z2 z3 h hw0 hk ht hat hlt
  unfold OfBack
  rw [hts.out, htt.out]
  unfold zeroR zeroT at *
  go_enter Tryz.func49, Tryz.ntmps49
  go_upto_region 1 with (fail)
  have ho := hid (show w.heap.size < w.heap.size + 1 ∧ w.heap.size + 1 < w.heap.size + 1 + 1 by omega)
  generalize w.heap.size + 1 = p1 at *
  generalize p1 + 1 = p2 at *
  generalize hW : (((w.alloc (.cells (rdArr (.slice (some ⟨g, o, none⟩) n c) e st) 53)).alloc _).alloc _) = wx at *
  clear hW
  have hA := hat'.out _ W0.out
  have hS := ofS B0.out hA
  have k3 : wx.cell? ⟨w.heap.size, 3, none⟩ = some (.int .i64 st.f.1) := B0.out.cell 3 rfl
  rw [hkk.out.2] at k3
  have k0 := B0.out.cell 0 (v := .slice (some ⟨g, o, none⟩) n c) rfl
  have a0 := hA.c0
  rw [hkk.out.1] at a0
  have hnI : (0 : Int) < n := by omega
  have h1000 : (n : Int) ≤ 1000 := by omega
  have hgx : g < wx.heap.size := Nat.lt_of_lt_of_le hgw Q0.out.size
  have hS' := hid hS
  clear hS
  go_wp2_with fail
  clear k3 k0 a0
  have hSx := hS'.out
  have hSd : wx.drew.cell? ⟨w.heap.size, 0, none⟩ = _ ∧ _ := hS'.out
  have ho1 := ho.out
  have n1 : w.heap.size ≠ p1 := by omega
  have n2 : p1 ≠ p2 := by omega
  have n3 : p2 ≠ p1 := by omega
  have n4 : w.heap.size ≠ p2 := by omega
  have n5 : g ≠ p1 := by omega
  have n6 : g ≠ p2 := by omega
  clear ho1
  go_region_held3 (fun w' => w'.cell? ⟨w.heap.size, 0, none⟩ = some (.slice (some ⟨g, o, none⟩) n c) ∧ w'.cell? ⟨w.heap.size, 1, none⟩ = some (.int .i64 e.1) ∧ w'.cell? ⟨w.heap.size, 1 + 1, none⟩ = some (.int .i64 e.2) ∧ w'.cell? ⟨w.heap.size, 1 + 1 + 1, none⟩ = some (.int .i64 st.f.1) ∧ w'.cell? ⟨w.heap.size, 1 + 1 + 1 + 1, none⟩ = some (.int .i64 st.f.2.1) ∧ w'.cell? ⟨w.heap.size, 1 + 1 + 1 + 1 + 1, none⟩ = some (.int .i64 st.f.2.2) ∧ w'.cell? ⟨g, o, none⟩ = some (.int .i64 t.kind) ∧ w'.cell? ⟨g, o + 1, none⟩ = some (.string (Po.txt t.text)) ∧ w'.cell? ⟨g, o + 1 + 1, none⟩ = some (.int .i64 t.n) ∧ w'.cell? ⟨g, o + 1 + 1 + 1, none⟩ = some (.int .i64 t.line) ∧ w'.cell? ⟨g, o + 1 + 1 + 1 + 1, none⟩ = some (.int .i64 t.col)) (first | with_reducible assumption | (refine ⟨?_, ?_, ?_, ?_, ?_, ?_, ?_, ?_, ?_, ?_, ?_⟩ <;> (simp only [far n1, far n4, far n5, far n6, drewc]; assumption)) | go_keep) (first
    | ((go_at_call 48
        refine (rron_any (w := wx.drew) e h'.out W0.out.drew hlt'.out).mono ?_
        rintro en w3 ⟨⟨L2, rfl, hL2⟩, hb3⟩
        have hb4 : Below wx.heap.size wx w3 := bthen (Below.refl _ wx).drew hb3
        obtain ⟨q, m, dd, rfl, hrest⟩ := hL2.row
        clear hrest hb3
        have R3 := hid (R0.out.ext hb4)
        have T3 := hid (T0.out.ext hb4)
        have Q3 := hid (bthen Q0.out hb4)
        obtain ⟨k0, k1, k2, k3, k4, k5, kf, kz⟩ := blk_six R3.out
        obtain ⟨f0, f1, f2, f3, f4, ff, fz⟩ := T3.out.five
        have S3 := ofS (B0.out.ext hb4) (hat'.out _ (bthen W0.out hb4))
        have S3b := S3
        obtain ⟨s0, s1, s2, s3, s4, s5, s6, s7, s8, s9, s10⟩ := S3b
        have hL := hid hL2
        clear hL2
        unfold rdArr)))
  -- END
  go_wp2_with fail
  have g1 : Blk (((((((((((w3.setCell ⟨p1, 0, none⟩ (.slice q m dd)).setCell ⟨p1, 1, none⟩ (.int .i64 e.1)).setCell ⟨p1, 2, none⟩ (.int .i64 e.2)).setCell ⟨p1, 3, none⟩ (.int .i64 (Po.on st).f.1)).setCell ⟨p1, 4, none⟩ (.int .i64 (Po.on st).f.2.1)).setCell ⟨p1, 5, none⟩ (.int .i64 (Po.on st).f.2.2)).setCell ⟨p2, 0, none⟩ (.int .i64 t.kind)).setCell ⟨p2, 1, none⟩ (.string (Po.txt t.text))).setCell ⟨p2, 2, none⟩ (.int .i64 t.n)).setCell ⟨p2, 3, none⟩ (.int .i64 t.line)).setCell ⟨p2, 4, none⟩ (.int .i64 t.col)) p1 (rdArr (.slice q m dd) e (Po.on st)) 53 := by
    rw [Blk.setOther_iff n2, Blk.setOther_iff n2, Blk.setOther_iff n2, Blk.setOther_iff n2, Blk.setOther_iff n2]
    exact blk_set6 R3.out _ _ _ _ _ _
  have g2 : Blk (((((((((((w3.setCell ⟨p1, 0, none⟩ (.slice q m dd)).setCell ⟨p1, 1, none⟩ (.int .i64 e.1)).setCell ⟨p1, 2, none⟩ (.int .i64 e.2)).setCell ⟨p1, 3, none⟩ (.int .i64 (Po.on st).f.1)).setCell ⟨p1, 4, none⟩ (.int .i64 (Po.on st).f.2.1)).setCell ⟨p1, 5, none⟩ (.int .i64 (Po.on st).f.2.2)).setCell ⟨p2, 0, none⟩ (.int .i64 t.kind)).setCell ⟨p2, 1, none⟩ (.string (Po.txt t.text))).setCell ⟨p2, 2, none⟩ (.int .i64 t.n)).setCell ⟨p2, 3, none⟩ (.int .i64 t.line)).setCell ⟨p2, 4, none⟩ (.int .i64 t.col)) p2 (tokArr t) 85 := by
    refine blk_set5 (a0 := .int .i64 0) (a1 := .string ⟨#[]⟩) (a2 := .int .i64 0) (a3 := .int .i64 0) (a4 := .int .i64 0) ?_ _ _ _ _ _
    rw [Blk.setOther_iff n3, Blk.setOther_iff n3, Blk.setOther_iff n3, Blk.setOther_iff n3, Blk.setOther_iff n3, Blk.setOther_iff n3]
    exact T3.out
  have b1 : w.heap.size ≤ p1 := by have := ho.out; omega
  have b2 : w.heap.size ≤ p2 := by have := ho.out; omega
  refine bodyPost_ret (v := .tuple #[.agg (rdArr (.slice q m dd) e (Po.on st)), .agg (tokArr t)]) (results_blk2 (p := 4) (q := 5) (ty := 53) (tz := 85) rfl _ _ p1 53 _ p2 85 _ rfl rfl g1 g2 Tryz.underlying53 rfl (by kernel_rfl) Tryz.underlying85 rfl (by kernel_rfl)) rfl ⟨⟨_, rfl, hL.out⟩, ?_⟩
  exact bset (bset (bset (bset (bset (bset (bset (bset (bset (bset (bset Q3.out b1 _) b1 _) b1 _) b1 _) b1 _) b1 _) b2 _) b2 _) b2 _) b2 _) b2 _

set_option maxRecDepth 100000 in
set_option maxHeartbeats 4000000 in
theorem rrof_no {w0 w : World} {L : Value} {T : List Lx.Tok} {st : Po.St} (e : Nat × Nat) (h : RRd w0 L T st) (hw0 : Below w0.heap.size w0 w) (k : Nat) (hk : Po.kindIs T k st = false) :
    Calls Tryz.prog 49 #[.agg (rdArr L e st), .int .i64 k] w fun en w' => OfBack w0 T e k st en ∧ Below w.heap.size w w' := by
  have hts := hid (Po.takeSt_not (e := e) hk)
  have htt := hid (Po.takeTok_not hk)
  have z1 := balloc w (.cells (rdArr L e st) 53)
  have z2 := balloc (w.alloc (.cells (rdArr L e st) 53)) (.cells zeroR 53)
  have z3 := balloc ((w.alloc (.cells (rdArr L e st) 53)).alloc (.cells zeroR 53)) (.cells zeroT 85)
  have B0 := hid (((Blk.new w (rdArr L e st) 53).ext z2).ext z3)
  have R0 := hid ((Blk.newAt (w := w.alloc (.cells (rdArr L e st) 53)) (k := w.heap.size + 1) (by simp) zeroR 53).ext z3)
  have T0 := hid (Blk.newAt (w := (w.alloc (.cells (rdArr L e st) 53)).alloc (.cells zeroR 53)) (k := w.heap.size + 1 + 1) (by simp) zeroT 85)
  have Q0 := hid (bthen (bthen z1 z2) z3)
  have W0 := hid (bthen hw0 Q0.out)
  have h' := hid h
  have ho := hid (show w.heap.size < w.heap.size + 1 ∧ w.heap.size + 1 < w.heap.size + 1 + 1 by omega)
  have hgw := hid hw0.size
  clear z1 z2 z3 h hw0
  unfold OfBack
  rw [hts.out, htt.out]
  unfold zeroR zeroT at *
  go_enter Tryz.func49, Tryz.ntmps49
  go_upto_region 1 with (fail)
  generalize w.heap.size + 1 = p1 at *
  generalize p1 + 1 = p2 at *
  generalize hW : (((w.alloc (.cells (rdArr L e st) 53)).alloc _).alloc _) = wx at *
  clear hW
  have k3 : wx.cell? ⟨w.heap.size, 3, none⟩ = some (.int .i64 st.f.1) := B0.out.cell 3 rfl
  by_cases hf : st.f.1 = 0
  · have hfb : ((st.f.1 : Int) == 0) = true := by rw [hf]; rfl
    by_cases hlt : st.at_ < T.length
    · obtain ⟨g, o, n, c, t, rfl, hn0, hnc, hn1, ht, hg, hat, _⟩ := h'.out.head hlt
      have k0 := B0.out.cell 0 (v := .slice (some ⟨g, o, none⟩) n c) rfl
      have a0 := (hat _ W0.out).c0
      have hne : ((t.kind : Int) == k) = false := by
        unfold Po.kindIs at hk
        rw [beq_eq_false_iff_ne]
        intro hh
        have : t.kind = k := by omega
        simp [ht, hf, this] at hk
      have hgx : g < wx.heap.size := Nat.lt_of_lt_of_le (Nat.lt_of_lt_of_le hg hgw.out) Q0.out.size
      have hnI : (0 : Int) < n := by omega
      have h1000 : (n : Int) ≤ 1000 := by omega
      clear hf hk ht hat
      go_wp2_with (first | (refine wpList_load_blk rfl 53 (.tmp 2) rfl 31 rfl w.heap.size 53 (rdArr _ e st) (B0.out) rfl Tryz.underlying53 rfl (by kernel_rfl) ?_))
      refine (rrwrong_any e h'.out W0.out).mono ?_
      rintro en w3 ⟨⟨L2, rfl, hL2⟩, hb3⟩
      have R3 := hid (R0.out.ext hb3)
      have T3 := hid (T0.out.ext hb3)
      have Q3 := hid (bthen Q0.out hb3)
      have hL := hid hL2
      have n2 : p1 ≠ p2 := by have := ho.out; omega
      have n3 : p2 ≠ p1 := by have := ho.out; omega
      clear hb3 hL2
      have T4 := hid (T3.out.setRowOther n3 (cs' := rdArr L2 e (Po.wrong T e st)))
      go_wp2_with (first | (refine wpList_store_blk rfl 53 (.tmp 4) (.tmp 32) rfl rfl p1 53 _ (rdArr L2 e (Po.wrong T e st)) (R3.out) rfl rfl (by kernel_rfl) rfl (rdArr_one hL.out e _) ?_) | (refine wpList_store_blk rfl 85 (.tmp 5) (.tmp 33) rfl rfl p2 85 _ (tokArr Po.zeroTok) (T4.out) rfl rfl (by kernel_rfl) rfl (tokArr_one _) ?_))
      refine bodyPost_ret (v := .tuple #[.agg (rdArr L2 e (Po.wrong T e st)), .agg (tokArr Po.zeroTok)]) (results_blk2 (p := 4) (q := 5) (ty := 53) (tz := 85) rfl _ _ p1 53 _ p2 85 _ rfl rfl ((R3.out.setRow _).setRowOther n2) (T4.out.setRow _) Tryz.underlying53 rfl (by kernel_rfl) Tryz.underlying85 rfl (by kernel_rfl)) rfl ⟨⟨_, rfl, hL.out⟩, ?_⟩
      exact below_setRow (below_setRow Q3.out (by have := ho.out; omega) _) (by have := ho.out; omega) _
    · obtain ⟨p, c, rfl, _⟩ := h'.out.empty hlt
      have k0 := B0.out.cell 0 (v := .slice p 0 c) rfl
      clear hf hk
      go_wp2_with (first | (refine wpList_load_blk rfl 53 (.tmp 2) rfl 31 rfl w.heap.size 53 (rdArr _ e st) (B0.out) rfl Tryz.underlying53 rfl (by kernel_rfl) ?_))
      refine (rrwrong_any e h'.out W0.out).mono ?_
      rintro en w3 ⟨⟨L2, rfl, hL2⟩, hb3⟩
      have R3 := hid (R0.out.ext hb3)
      have T3 := hid (T0.out.ext hb3)
      have Q3 := hid (bthen Q0.out hb3)
      have hL := hid hL2
      have n2 : p1 ≠ p2 := by have := ho.out; omega
      have n3 : p2 ≠ p1 := by have := ho.out; omega
      clear hb3 hL2
      have T4 := hid (T3.out.setRowOther n3 (cs' := rdArr L2 e (Po.wrong T e st)))
      go_wp2_with (first | (refine wpList_store_blk rfl 53 (.tmp 4) (.tmp 32) rfl rfl p1 53 _ (rdArr L2 e (Po.wrong T e st)) (R3.out) rfl rfl (by kernel_rfl) rfl (rdArr_one hL.out e _) ?_) | (refine wpList_store_blk rfl 85 (.tmp 5) (.tmp 33) rfl rfl p2 85 _ (tokArr Po.zeroTok) (T4.out) rfl rfl (by kernel_rfl) rfl (tokArr_one _) ?_))
      refine bodyPost_ret (v := .tuple #[.agg (rdArr L2 e (Po.wrong T e st)), .agg (tokArr Po.zeroTok)]) (results_blk2 (p := 4) (q := 5) (ty := 53) (tz := 85) rfl _ _ p1 53 _ p2 85 _ rfl rfl ((R3.out.setRow _).setRowOther n2) (T4.out.setRow _) Tryz.underlying53 rfl (by kernel_rfl) Tryz.underlying85 rfl (by kernel_rfl)) rfl ⟨⟨_, rfl, hL.out⟩, ?_⟩
      exact below_setRow (below_setRow Q3.out (by have := ho.out; omega) _) (by have := ho.out; omega) _
  · have hfb : ((st.f.1 : Int) == 0) = false := by rw [beq_eq_false_iff_ne]; omega
    clear hf hk
    go_wp2_with (first | (refine wpList_load_blk rfl 53 (.tmp 2) rfl 31 rfl w.heap.size 53 (rdArr _ e st) (B0.out) rfl Tryz.underlying53 rfl (by kernel_rfl) ?_))
    refine (rrwrong_any e h'.out W0.out).mono ?_
    rintro en w3 ⟨⟨L2, rfl, hL2⟩, hb3⟩
    have R3 := hid (R0.out.ext hb3)
    have T3 := hid (T0.out.ext hb3)
    have Q3 := hid (bthen Q0.out hb3)
    have hL := hid hL2
    have n2 : p1 ≠ p2 := by have := ho.out; omega
    have n3 : p2 ≠ p1 := by have := ho.out; omega
    clear hb3 hL2
    have T4 := hid (T3.out.setRowOther n3 (cs' := rdArr L2 e (Po.wrong T e st)))
    go_wp2_with (first | (refine wpList_store_blk rfl 53 (.tmp 4) (.tmp 32) rfl rfl p1 53 _ (rdArr L2 e (Po.wrong T e st)) (R3.out) rfl rfl (by kernel_rfl) rfl (rdArr_one hL.out e _) ?_) | (refine wpList_store_blk rfl 85 (.tmp 5) (.tmp 33) rfl rfl p2 85 _ (tokArr Po.zeroTok) (T4.out) rfl rfl (by kernel_rfl) rfl (tokArr_one _) ?_))
    refine bodyPost_ret (v := .tuple #[.agg (rdArr L2 e (Po.wrong T e st)), .agg (tokArr Po.zeroTok)]) (results_blk2 (p := 4) (q := 5) (ty := 53) (tz := 85) rfl _ _ p1 53 _ p2 85 _ rfl rfl ((R3.out.setRow _).setRowOther n2) (T4.out.setRow _) Tryz.underlying53 rfl (by kernel_rfl) Tryz.underlying85 rfl (by kernel_rfl)) rfl ⟨⟨_, rfl, hL.out⟩, ?_⟩
    exact below_setRow (below_setRow Q3.out (by have := ho.out; omega) _) (by have := ho.out; omega) _

theorem rrof_any {w0 w : World} {L : Value} {T : List Lx.Tok} {st : Po.St} (e : Nat × Nat) (h : RRd w0 L T st) (hw0 : Below w0.heap.size w0 w) (k : Nat) :
    Calls Tryz.prog 49 #[.agg (rdArr L e st), .int .i64 k] w fun en w' => OfBack w0 T e k st en ∧ Below w.heap.size w w' := by
  cases hk : Po.kindIs T k st with
  | true => exact rrof_yes e h hw0 k hk
  | false => exact rrof_no e h hw0 k hk

theorem rrof_lit {w0 w : World} {L : Value} {T : List Lx.Tok} {st : Po.St} (e : Nat × Nat) (h : RRd w0 L T st) (hw0 : Below w0.heap.size w0 w) (k : Nat) (n : Int) (hn : n = k) :
    Calls Tryz.prog 49 #[.agg (rdArr L e st), .int .i64 n] w fun en w' => OfBack w0 T e k st en ∧ Below w.heap.size w w' := by
  subst hn
  exact rrof_any e h hw0 k

end Go.Proofs.YtnoieobjfihbeaaGreatDoor
