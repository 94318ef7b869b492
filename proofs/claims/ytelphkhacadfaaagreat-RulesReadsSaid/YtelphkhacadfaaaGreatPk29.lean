/-
  The document's own reader of policies: who.
-/
import Derived.Test.YtelphkhacadfaaaGreatPk28
import Derived.Test.YtelphkhacadfaaaGreatPk10

namespace Go.Proofs.YtelphkhacadfaaaGreat
open Go.RowKit Go.Sort

namespace Po
/-- is the next token a name, fault or none? -/
def headName (T : List Lx.Tok) (st : St) : Bool := match T[st.at_]? with | some t => t.kind == 1 | none => false
def wV (T : List Lx.Tok) (e : Nat × Nat) (x : Lx.Bytes) (b : Bool) (st : St) : Who :=
  if is T x st then ⟨true, ⟨#[]⟩, 0, (place T e st).1, (place T e st).2⟩
  else if b && !headName T st then ⟨false, ⟨#[]⟩, (takeTok T 3 st).n, (place T e st).1, (place T e st).2⟩
  else ⟨false, txt (takeTok T 1 st).text, 0, (place T e st).1, (place T e st).2⟩
def wS (T : List Lx.Tok) (e : Nat × Nat) (x : Lx.Bytes) (b : Bool) (st : St) : St :=
  if is T x st then on st else if b && !headName T st then takeSt T e 3 st else takeSt T e 1 st
theorem kindIs_head (T : List Lx.Tok) (st : St) : kindIs T 1 st = (st.f.1 == 0 && headName T st) := by unfold kindIs headName; rfl
theorem take_faulted {T : List Lx.Tok} {e : Nat × Nat} {st : St} (h : st.f.1 ≠ 0) (k : Nat) : takeSt T e k st = st ∧ takeTok T k st = zeroTok := by
  have hk : kindIs T k st = false := by unfold kindIs; simp [h]
  exact ⟨by rw [takeSt_not hk]; unfold wrong; rw [if_neg h], takeTok_not hk⟩
theorem wV_who (T : List Lx.Tok) (e : Nat × Nat) (st : St) : wV T e wAny true st = whoV T e st ∧ wS T e wAny true st = whoS T e st := by
  unfold wV wS whoV whoS
  cases is T wAny st with
  | true => exact ⟨rfl, rfl⟩
  | false =>
    simp only [Bool.false_eq_true, if_false, Bool.true_and]
    rw [kindIs_head]
    by_cases hf : st.f.1 = 0
    · simp only [hf, BEq.rfl, Bool.true_and]
      cases headName T st with
      | true => exact ⟨rfl, rfl⟩
      | false => exact ⟨rfl, rfl⟩
    · have hfb : (st.f.1 == 0) = false := beq_eq_false_iff_ne.2 hf
      obtain ⟨a1, a2⟩ := take_faulted (T := T) (e := e) hf 1
      obtain ⟨b1, b2⟩ := take_faulted (T := T) (e := e) hf 3
      rw [a1, a2, b1, b2, hfb]
      cases headName T st with
      | true => exact ⟨rfl, rfl⟩
      | false => exact ⟨rfl, rfl⟩
theorem wV_where (T : List Lx.Tok) (e : Nat × Nat) (st : St) : wV T e wAll false st = whereV T e st ∧ wS T e wAll false st = whereS T e st := by
  unfold wV wS whereV whereS
  cases is T wAll st with
  | true => exact ⟨rfl, rfl⟩
  | false => exact ⟨rfl, rfl⟩
end Po

/-- six cells and five: two results that are written -/
theorem sets65 {w a : World} {B p1 p2 : Nat} {u v : TypeId} {x0 x1 x2 x3 x4 x5 y0 y1 y2 y3 y4 : Value} (h1 : Blk w p1 #[x0, x1, x2, x3, x4, x5] u) (h2 : Blk w p2 #[y0, y1, y2, y3, y4] v) (hq : Below B a w) (n : p1 ≠ p2) (hb1 : B ≤ p1) (hb2 : B ≤ p2) (b0 b1 b2 b3 b4 b5 c0 c1 c2 c3 c4 : Value) :
    Blk (((((((((((w.setCell ⟨p1, 0, none⟩ b0).setCell ⟨p1, 1, none⟩ b1).setCell ⟨p1, 2, none⟩ b2).setCell ⟨p1, 3, none⟩ b3).setCell ⟨p1, 4, none⟩ b4).setCell ⟨p1, 5, none⟩ b5).setCell ⟨p2, 0, none⟩ c0).setCell ⟨p2, 1, none⟩ c1).setCell ⟨p2, 2, none⟩ c2).setCell ⟨p2, 3, none⟩ c3).setCell ⟨p2, 4, none⟩ c4) p1 #[b0, b1, b2, b3, b4, b5] u ∧ Blk (((((((((((w.setCell ⟨p1, 0, none⟩ b0).setCell ⟨p1, 1, none⟩ b1).setCell ⟨p1, 2, none⟩ b2).setCell ⟨p1, 3, none⟩ b3).setCell ⟨p1, 4, none⟩ b4).setCell ⟨p1, 5, none⟩ b5).setCell ⟨p2, 0, none⟩ c0).setCell ⟨p2, 1, none⟩ c1).setCell ⟨p2, 2, none⟩ c2).setCell ⟨p2, 3, none⟩ c3).setCell ⟨p2, 4, none⟩ c4) p2 #[c0, c1, c2, c3, c4] v ∧ Below B a (((((((((((w.setCell ⟨p1, 0, none⟩ b0).setCell ⟨p1, 1, none⟩ b1).setCell ⟨p1, 2, none⟩ b2).setCell ⟨p1, 3, none⟩ b3).setCell ⟨p1, 4, none⟩ b4).setCell ⟨p1, 5, none⟩ b5).setCell ⟨p2, 0, none⟩ c0).setCell ⟨p2, 1, none⟩ c1).setCell ⟨p2, 2, none⟩ c2).setCell ⟨p2, 3, none⟩ c3).setCell ⟨p2, 4, none⟩ c4) := by
  refine ⟨?_, ?_, ?_⟩
  · rw [Blk.setOther_iff n, Blk.setOther_iff n, Blk.setOther_iff n, Blk.setOther_iff n, Blk.setOther_iff n]
    exact blk_set6 h1 _ _ _ _ _ _
  · refine blk_set5 (a0 := y0) (a1 := y1) (a2 := y2) (a3 := y3) (a4 := y4) ?_ _ _ _ _ _
    have m := n.symm
    rw [Blk.setOther_iff m, Blk.setOther_iff m, Blk.setOther_iff m, Blk.setOther_iff m, Blk.setOther_iff m, Blk.setOther_iff m]
    exact h2
  · exact bset (bset (bset (bset (bset (bset (bset (bset (bset (bset (bset hq hb1 _) hb1 _) hb1 _) hb1 _) hb1 _) hb1 _) hb2 _) hb2 _) hb2 _) hb2 _) hb2 _
/-- a reader and a who that come back -/
def WhoBack (w0 : World) (T : List Lx.Tok) (e : Nat × Nat) (x : Po.Who) (st : Po.St) (en : Ending) : Prop :=
  ∃ L, en = .returned (.tuple #[.agg (rdArr L e st), .agg (whoArr x)]) ∧ RRd w0 L T st
def zeroW : Array Value := #[.bool false, .string ⟨#[]⟩, .int .i64 0, .int .i64 0, .int .i64 0]
theorem whoArr_one (x : Po.Who) : (whoArr x).all (·.oneCell') = true := by unfold whoArr; simp [Value.oneCell']
/-- what the regions read: the reader's cells, the who's -/
theorem whS {W : World} {b p : Nat} {L : Value} {e : Nat × Nat} {st : Po.St} {x : Po.Who} {t u : TypeId} (h : Blk W b (rdArr L e st) t) (hx : Blk W p (whoArr x) u) :
    W.cell? ⟨b, 0, none⟩ = some L ∧ W.cell? ⟨b, 1, none⟩ = some (.int .i64 e.1) ∧ W.cell? ⟨b, 1 + 1, none⟩ = some (.int .i64 e.2) ∧ W.cell? ⟨b, 1 + 1 + 1, none⟩ = some (.int .i64 st.f.1) ∧ W.cell? ⟨b, 1 + 1 + 1 + 1, none⟩ = some (.int .i64 st.f.2.1) ∧
      W.cell? ⟨b, 1 + 1 + 1 + 1 + 1, none⟩ = some (.int .i64 st.f.2.2) ∧ W.cell? ⟨p, 0, none⟩ = some (.bool x.any) ∧ W.cell? ⟨p, 1, none⟩ = some (.string x.name) ∧ W.cell? ⟨p, 1 + 1, none⟩ = some (.int .i64 x.n) ∧ W.cell? ⟨p, 1 + 1 + 1, none⟩ = some (.int .i64 x.line) ∧ W.cell? ⟨p, 1 + 1 + 1 + 1, none⟩ = some (.int .i64 x.col) :=
  ⟨h.cell 0 rfl, h.cell 1 rfl, h.cell 2 rfl, h.cell 3 rfl, h.cell 4 rfl, h.cell 5 rfl, hx.cell 0 rfl, hx.cell 1 rfl, hx.cell 2 rfl, hx.cell 3 rfl, hx.cell 4 rfl⟩
/-- the blocks of who: the reader, the two results, the who that is made -/
structure WhB (w : World) (p1 p2 p3 : Nat) (L : Value) (e : Nat × Nat) (st : Po.St) (x : Po.Who) (wx : World) : Prop where
  rd : Blk wx w.heap.size (rdArr L e st) 48
  r1 : Blk wx p1 zeroR 48
  r2 : Blk wx p2 zeroW 37
  wh : Blk wx p3 (whoArr x) 37
  bel : Below w.heap.size w wx
  ord : w.heap.size < p1 ∧ p1 < p2 ∧ p2 < p3
theorem WhB.ext {w wx wy : World} {p1 p2 p3 : Nat} {L : Value} {e : Nat × Nat} {st : Po.St} {x : Po.Who} (h : WhB w p1 p2 p3 L e st x wx) (hb : Below wx.heap.size wx wy) : WhB w p1 p2 p3 L e st x wy :=
  ⟨h.rd.ext hb, h.r1.ext hb, h.r2.ext hb, h.wh.ext hb, h.bel.trans (hb.mono h.bel.size), h.ord⟩
theorem WhB.setRd {w wx : World} {p1 p2 p3 : Nat} {L L' : Value} {e : Nat × Nat} {st st' : Po.St} {x : Po.Who} (h : WhB w p1 p2 p3 L e st x wx) : WhB w p1 p2 p3 L' e st' x (wx.setRow w.heap.size (rdArr L' e st')) := by
  obtain ⟨o1, o2, o3⟩ := h.ord
  exact ⟨h.rd.setRow _, h.r1.setRowOther (by omega), h.r2.setRowOther (by omega), h.wh.setRowOther (by omega), below_setRow h.bel (Nat.le_refl _) _, h.ord⟩
theorem WhB.setOther {w wx : World} {p1 p2 p3 k : Nat} {L : Value} {e : Nat × Nat} {st : Po.St} {x : Po.Who} (h : WhB w p1 p2 p3 L e st x wx) (hk : p3 < k) (cs : Array Value) : WhB w p1 p2 p3 L e st x (wx.setRow k cs) := by
  obtain ⟨o1, o2, o3⟩ := h.ord
  exact ⟨h.rd.setRowOther (by omega), h.r1.setRowOther (by omega), h.r2.setRowOther (by omega), h.wh.setRowOther (by omega), below_setRow h.bel (by omega) _, h.ord⟩
theorem WhB.setWh {w wx : World} {p1 p2 p3 : Nat} {L : Value} {e : Nat × Nat} {st : Po.St} {x x' : Po.Who} (h : WhB w p1 p2 p3 L e st x wx) (o : Nat) (u : Value) (hx : (whoArr x).setIfInBounds o u = whoArr x') : WhB w p1 p2 p3 L e st x' (wx.setCell ⟨p3, o, none⟩ u) := by
  obtain ⟨o1, o2, o3⟩ := h.ord
  exact ⟨h.rd.setOther (by omega) o u, h.r1.setOther (by omega) o u, h.r2.setOther (by omega) o u, hx ▸ h.wh.set o u, bset h.bel (by omega) u, h.ord⟩

set_option maxRecDepth 100000 in
set_option maxHeartbeats 4000000 in
theorem rrwho_all {w0 w : World} {L : Value} {T : List Lx.Tok} {st : Po.St} (e : Nat × Nat) (h : RRd w0 L T st) (hw0 : Below w0.heap.size w0 w) (s : ByteArray) (b : Bool) (hi : Po.is T s.data.toList st = true) :
    Calls Tryz.prog 37 #[.agg (rdArr L e st), .string s, .bool b] w fun en w' => WhoBack w0 T e (Po.wV T e s.data.toList b st) (Po.wS T e s.data.toList b st) en ∧ Below w.heap.size w w' := by
  obtain ⟨lp, ln, lc, rfl, _⟩ := h.row
  have z1 := balloc w (.cells (rdArr (.slice lp ln lc) e st) 48)
  have z2 := balloc (w.alloc (.cells (rdArr (.slice lp ln lc) e st) 48)) (.cells zeroR 48)
  have z3 := balloc ((w.alloc (.cells (rdArr (.slice lp ln lc) e st) 48)).alloc (.cells zeroR 48)) (.cells zeroW 37)
  have B0 := hid (((Blk.new w (rdArr (.slice lp ln lc) e st) 48).ext z2).ext z3)
  have R0 := hid ((Blk.newAt (w := w.alloc (.cells (rdArr (.slice lp ln lc) e st) 48)) (k := w.heap.size + 1) (by simp) zeroR 48).ext z3)
  have T0 := hid (Blk.newAt (w := (w.alloc (.cells (rdArr (.slice lp ln lc) e st) 48)).alloc (.cells zeroR 48)) (k := w.heap.size + 1 + 1) (by simp) zeroW 37)
  have Q0 := hid (bthen (bthen z1 z2) z3)
  have W0 := hid (bthen hw0 Q0.out)
  have h' := hid h
  have ho := hid (show w.heap.size < w.heap.size + 1 ∧ w.heap.size + 1 < w.heap.size + 1 + 1 by omega)
  have hgw := hid hw0.size
  clear z1 z2 z3 h hw0
  unfold WhoBack
  unfold zeroR zeroW at *
  go_enter Tryz.func37, Tryz.ntmps37
  go_upto_region 1 with (fail)
  generalize w.heap.size + 1 = p1 at *
  generalize p1 + 1 = p2 at *
  generalize hW : (((w.alloc (.cells (rdArr (.slice lp ln lc) e st) 48)).alloc _).alloc _) = wx at *
  clear hW
  go_wp2_with (first | (refine wpList_load_blk rfl 48 (.tmp 3) rfl 10 rfl w.heap.size 48 (rdArr (.slice lp ln lc) e st) (B0.out) rfl Tryz.underlying48 rfl (by kernel_rfl) ?_))
  refine (rrplace_any e h'.out W0.out).mono ?_
  rintro en w1 ⟨rfl, hb1⟩
  have hp2 := T0.out.lt
  have S1 := hid (show WhB w p1 p2 w1.heap.size (.slice lp ln lc) e st ⟨false, ⟨#[]⟩, 0, (Po.place T e st).1, (Po.place T e st).2⟩ (w1.alloc (.cells (whoArr ⟨false, ⟨#[]⟩, 0, (Po.place T e st).1, (Po.place T e st).2⟩) 37)) from
    ⟨(B0.out.ext hb1).ext (balloc _ _), (R0.out.ext hb1).ext (balloc _ _), (T0.out.ext hb1).ext (balloc _ _), Blk.new _ _ _, bthen Q0.out (bthen hb1 (balloc _ _)), ⟨ho.out.1, ho.out.2, by have := hb1.size; omega⟩⟩)
  have W1 := hid (bthen W0.out (bthen hb1 (balloc w1 (.cells (whoArr ⟨false, ⟨#[]⟩, 0, (Po.place T e st).1, (Po.place T e st).2⟩) 37))))
  clear hb1 hp2 B0 R0 T0 Q0 W0
  go_upto_region 2 with (fail)
  unfold whoArr at S1 W1
  simp only at S1 W1
  generalize hpl : (Po.place T e st).1 = pl at *
  generalize hpk : (Po.place T e st).2 = pk at *
  generalize hp3 : w1.heap.size = p3 at *
  generalize w1.alloc (.cells #[.bool false, .string ⟨#[]⟩, .int .i64 0, .int .i64 pl, .int .i64 pk] 37) = w2 at *
  have hpl' := hid hpl
  have hpk' := hid hpk
  clear hpl hpk hp3
  have his := hid (rris_any e h'.out W1.out s)
  rw [hi] at his
  have e1 := hid (show Po.wV T e s.data.toList b st = ⟨true, ⟨#[]⟩, 0, pl, pk⟩ by unfold Po.wV; rw [if_pos hi, hpl'.out, hpk'.out])
  have e2 := hid (show Po.wS T e s.data.toList b st = Po.on st by unfold Po.wS; rw [if_pos hi])
  have hlt := hid (Po.lt_of_is hi)
  clear hi
  go_wp2_with (first | (refine wpList_load_blk rfl 48 (.tmp 3) rfl 13 rfl w.heap.size 48 (rdArr (.slice lp ln lc) e st) (S1.out.rd) rfl Tryz.underlying48 rfl (by kernel_rfl) ?_))
  refine his.out.mono ?_
  rintro en w3 ⟨rfl, hb3⟩
  have S2 := hid (S1.out.ext hb3)
  have W2 := hid (bthen W1.out hb3)
  clear hb3 his S1 W1
  obtain ⟨c0, c1, c2, c3, c4, cf, cz⟩ := S2.out.wh.five
  have ho2 := S2.out.ord
  have S3 := hid (WhB.setWh (x' := ⟨true, ⟨#[]⟩, 0, pl, pk⟩) S2.out 0 (.bool true) rfl)
  have W3 := hid (bset (b := p3) (o := 0) W2.out (by have := hgw.out; omega) (.bool true))
  go_upto_region 4 with (fail)
  generalize w3.setCell ⟨p3, 0, none⟩ (.bool true) = w4 at *
  obtain ⟨x, hx⟩ : ∃ x : Po.Who, (⟨true, ⟨#[]⟩, 0, pl, pk⟩ : Po.Who) = x := ⟨_, rfl⟩
  rw [hx] at S3 e1
  clear hx c0 c1 c2 c3 c4 cf cz S2 W2 ho2
  have hSx := whS S3.out.rd S3.out.wh
  have hSd : _ ∧ _ := whS (Blk.drew S3.out.rd) (Blk.drew S3.out.wh)
  have ho1 := S3.out.ord
  have n1 : w.heap.size ≠ p1 := by omega
  have n2 : p1 ≠ p2 := by omega
  have n3 : p2 ≠ p1 := by omega
  have n4 : w.heap.size ≠ p2 := by omega
  have n5 : p3 ≠ p1 := by omega
  have n6 : p3 ≠ p2 := by omega
  have b1 : w.heap.size ≤ p1 := by omega
  have b2 : w.heap.size ≤ p2 := by omega
  clear ho1
  go_region_held3 (fun w' => w'.cell? ⟨w.heap.size, 0, none⟩ = some (.slice lp ln lc) ∧ w'.cell? ⟨w.heap.size, 1, none⟩ = some (.int .i64 e.1) ∧ w'.cell? ⟨w.heap.size, 1 + 1, none⟩ = some (.int .i64 e.2) ∧ w'.cell? ⟨w.heap.size, 1 + 1 + 1, none⟩ = some (.int .i64 st.f.1) ∧ w'.cell? ⟨w.heap.size, 1 + 1 + 1 + 1, none⟩ = some (.int .i64 st.f.2.1) ∧ w'.cell? ⟨w.heap.size, 1 + 1 + 1 + 1 + 1, none⟩ = some (.int .i64 st.f.2.2) ∧ w'.cell? ⟨p3, 0, none⟩ = some (.bool x.any) ∧ w'.cell? ⟨p3, 1, none⟩ = some (.string x.name) ∧ w'.cell? ⟨p3, 1 + 1, none⟩ = some (.int .i64 x.n) ∧ w'.cell? ⟨p3, 1 + 1 + 1, none⟩ = some (.int .i64 x.line) ∧ w'.cell? ⟨p3, 1 + 1 + 1 + 1, none⟩ = some (.int .i64 x.col)) (first | with_reducible assumption | (refine ⟨?_, ?_, ?_, ?_, ?_, ?_, ?_, ?_, ?_, ?_, ?_⟩ <;> (simp only [far n1, far n4, far n5, far n6]; assumption)) | go_keep) (first
    | ((go_at_call 33
        refine (rron_any (w := w4.drew) e h'.out W3.out.drew hlt.out).mono ?_
        rintro en w5 ⟨⟨L2, rfl, hL2⟩, hb5⟩
        have hb6 : Below w4.heap.size w4 w5 := bthen (Below.refl _ w4).drew hb5
        obtain ⟨q, m, dd, rfl, hrest⟩ := hL2.row
        clear hrest hb5
        have S5 := hid (S3.out.ext hb6)
        have S5a := whS S5.out.rd S5.out.wh
        have S5b := S5a
        obtain ⟨s0, s1, s2, s3, s4, s5, s6, s7, s8, s9, s10⟩ := S5b
        obtain ⟨k0, k1, k2, k3, k4, k5, kf, kz⟩ := blk_six S5.out.r1
        obtain ⟨f0, f1, f2, f3, f4, ff, fz⟩ := S5.out.r2.five
        have hL := hid hL2
        clear hL2
        unfold rdArr)))
  go_wp2_with fail
  have ⟨g1, g2, g3⟩ := sets65 S5.out.r1 S5.out.r2 S5.out.bel n2 b1 b2 (.slice q m dd) (.int .i64 e.1) (.int .i64 e.2) (.int .i64 (Po.on st).f.1) (.int .i64 (Po.on st).f.2.1) (.int .i64 (Po.on st).f.2.2) (.bool x.any) (.string x.name) (.int .i64 x.n) (.int .i64 x.line) (.int .i64 x.col)
  refine bodyPost_ret (v := .tuple #[.agg (rdArr (.slice q m dd) e (Po.on st)), .agg (whoArr x)]) (results_blk2 (p := 6) (q := 7) (ty := 48) (tz := 37) rfl _ _ p1 48 _ p2 37 _ rfl rfl g1 g2 Tryz.underlying48 rfl (by kernel_rfl) Tryz.underlying37 rfl (by kernel_rfl)) rfl ⟨?_, g3⟩
  rw [e1.out, e2.out]
  exact ⟨_, rfl, hL.out⟩

set_option maxRecDepth 100000 in
set_option maxHeartbeats 4000000 in
theorem rrwho_text {w0 w : World} {L : Value} {T : List Lx.Tok} {st : Po.St} (e : Nat × Nat) (h : RRd w0 L T st) (hw0 : Below w0.heap.size w0 w) (s : ByteArray) (b : Bool) (hi : Po.is T s.data.toList st = false) (hb : b = false) :
    Calls Tryz.prog 37 #[.agg (rdArr L e st), .string s, .bool b] w fun en w' => WhoBack w0 T e (Po.wV T e s.data.toList b st) (Po.wS T e s.data.toList b st) en ∧ Below w.heap.size w w' := by
  obtain ⟨lp, ln, lc, rfl, _⟩ := h.row
  have z1 := balloc w (.cells (rdArr (.slice lp ln lc) e st) 48)
  have z2 := balloc (w.alloc (.cells (rdArr (.slice lp ln lc) e st) 48)) (.cells zeroR 48)
  have z3 := balloc ((w.alloc (.cells (rdArr (.slice lp ln lc) e st) 48)).alloc (.cells zeroR 48)) (.cells zeroW 37)
  have B0 := hid (((Blk.new w (rdArr (.slice lp ln lc) e st) 48).ext z2).ext z3)
  have R0 := hid ((Blk.newAt (w := w.alloc (.cells (rdArr (.slice lp ln lc) e st) 48)) (k := w.heap.size + 1) (by simp) zeroR 48).ext z3)
  have T0 := hid (Blk.newAt (w := (w.alloc (.cells (rdArr (.slice lp ln lc) e st) 48)).alloc (.cells zeroR 48)) (k := w.heap.size + 1 + 1) (by simp) zeroW 37)
  have Q0 := hid (bthen (bthen z1 z2) z3)
  have W0 := hid (bthen hw0 Q0.out)
  have h' := hid h
  have ho := hid (show w.heap.size < w.heap.size + 1 ∧ w.heap.size + 1 < w.heap.size + 1 + 1 by omega)
  have hgw := hid hw0.size
  clear z1 z2 z3 h hw0
  unfold WhoBack
  unfold zeroR zeroW at *
  go_enter Tryz.func37, Tryz.ntmps37
  go_upto_region 1 with (fail)
  generalize w.heap.size + 1 = p1 at *
  generalize p1 + 1 = p2 at *
  generalize hW : (((w.alloc (.cells (rdArr (.slice lp ln lc) e st) 48)).alloc _).alloc _) = wx at *
  clear hW
  go_wp2_with (first | (refine wpList_load_blk rfl 48 (.tmp 3) rfl 10 rfl w.heap.size 48 (rdArr (.slice lp ln lc) e st) (B0.out) rfl Tryz.underlying48 rfl (by kernel_rfl) ?_))
  refine (rrplace_any e h'.out W0.out).mono ?_
  rintro en w1 ⟨rfl, hb1⟩
  have hp2 := T0.out.lt
  have S1 := hid (show WhB w p1 p2 w1.heap.size (.slice lp ln lc) e st ⟨false, ⟨#[]⟩, 0, (Po.place T e st).1, (Po.place T e st).2⟩ (w1.alloc (.cells (whoArr ⟨false, ⟨#[]⟩, 0, (Po.place T e st).1, (Po.place T e st).2⟩) 37)) from
    ⟨(B0.out.ext hb1).ext (balloc _ _), (R0.out.ext hb1).ext (balloc _ _), (T0.out.ext hb1).ext (balloc _ _), Blk.new _ _ _, bthen Q0.out (bthen hb1 (balloc _ _)), ⟨ho.out.1, ho.out.2, by have := hb1.size; omega⟩⟩)
  have W1 := hid (bthen W0.out (bthen hb1 (balloc w1 (.cells (whoArr ⟨false, ⟨#[]⟩, 0, (Po.place T e st).1, (Po.place T e st).2⟩) 37))))
  clear hb1 hp2 B0 R0 T0 Q0 W0
  go_upto_region 2 with (fail)
  unfold whoArr at S1 W1
  simp only at S1 W1
  generalize hpl : (Po.place T e st).1 = pl at *
  generalize hpk : (Po.place T e st).2 = pk at *
  generalize hp3 : w1.heap.size = p3 at *
  generalize w1.alloc (.cells #[.bool false, .string ⟨#[]⟩, .int .i64 0, .int .i64 pl, .int .i64 pk] 37) = w2 at *
  have hpl' := hid hpl
  have hpk' := hid hpk
  clear hpl hpk hp3
  have his := hid (rris_any e h'.out W1.out s)
  have hh : (b && !Po.headName T st) = false := by rw [hb]; rfl
  have e1 := hid (show Po.wV T e s.data.toList b st = ⟨false, Po.txt (Po.takeTok T 1 st).text, 0, pl, pk⟩ by unfold Po.wV; rw [if_neg (by rw [hi]; decide), if_neg (by rw [hh]; decide), hpl'.out, hpk'.out])
  have e2 := hid (show Po.wS T e s.data.toList b st = Po.takeSt T e 1 st by unfold Po.wS; rw [if_neg (by rw [hi]; decide), if_neg (by rw [hh]; decide)])
  rw [hi] at his
  clear hi hh
  subst hb
  go_wp2_with (first | (refine wpList_load_blk rfl 48 (.tmp 3) rfl 13 rfl w.heap.size 48 (rdArr (.slice lp ln lc) e st) (S1.out.rd) rfl Tryz.underlying48 rfl (by kernel_rfl) ?_))
  refine his.out.mono ?_
  rintro en w3 ⟨rfl, hb3⟩
  have S2 := hid (S1.out.ext hb3)
  have W2 := hid (bthen W1.out hb3)
  clear hb3 his S1 W1
  have zt := balloc w3 (.cells zeroT 81)
  have S3 := hid (S2.out.ext zt)
  have W3 := hid (bthen W2.out zt)
  have T3 := hid (Blk.new w3 zeroT 81)
  have hp4 : Hid (p3 < w3.heap.size) := hid (by have := S2.out.wh.lt; exact this)
  have hgx := hid (Nat.le_trans hgw.out S3.out.bel.size)
  clear zt S2 W2
  unfold zeroT at *
  go_upto_region 6 with (fail)
  generalize hp4e : w3.heap.size = p4 at *
  generalize w3.alloc (.cells #[.int .i64 0, .string ⟨#[]⟩, .int .i64 0, .int .i64 0, .int .i64 0] 81) = w4 at *
  clear hp4e
  go_upto_region 10 with (fail)
  go_wp2_with (first | (refine wpList_load_blk rfl 48 (.tmp 3) rfl 47 rfl w.heap.size 48 (rdArr (.slice lp ln lc) e st) (S3.out.rd) rfl Tryz.underlying48 rfl (by kernel_rfl) ?_))
  refine (rrof_lit e h'.out W3.out 1 1 rfl).mono ?_
  rintro en w5 ⟨⟨L2, rfl, hL2⟩, hb5⟩
  have S4 := hid (S3.out.ext hb5)
  have T4 := hid (T3.out.ext hb5)
  have hL := hid hL2
  have W4 := hid (bthen W3.out hb5)
  clear hb5 hL2 S3 T3 W3
  have S5 := hid (WhB.setRd (L' := L2) (st' := Po.takeSt T e 1 st) S4.out)
  have ho3 := S5.out.ord
  have T5 := hid (T4.out.setRowOther (k := w.heap.size) (by have := hp4.out; omega) (cs' := rdArr L2 e (Po.takeSt T e 1 st)))
  have S6 := hid (S5.out.setOther hp4.out (tokArr (Po.takeTok T 1 st)))
  have T6 := hid (T5.out.setRow (tokArr (Po.takeTok T 1 st)))
  skip
  --DBG
  go_upto_region 11 with (first | (refine wpList_store_blk rfl 48 (.tmp 3) (.tmp 49) rfl rfl w.heap.size 48 _ (rdArr L2 e (Po.takeSt T e 1 st)) (S4.out.rd) rfl rfl (by kernel_rfl) rfl (rdArr_one hL.out e _) ?_) | (refine wpList_store_blk rfl 81 (.tmp 9) (.tmp 50) rfl rfl p4 81 _ (tokArr (Po.takeTok T 1 st)) (T5.out) rfl rfl (by kernel_rfl) rfl (tokArr_one _) ?_))
  generalize (w5.setRow w.heap.size (rdArr L2 e (Po.takeSt T e 1 st))).setRow p4 (tokArr (Po.takeTok T 1 st)) = w6 at *
  clear S4 T4 T5 S5 W4
  have t0 := T6.out.cell 1 (v := .string (Po.txt (Po.takeTok T 1 st).text)) rfl
  obtain ⟨c0, c1, c2, c3, c4, cf, cz⟩ := S6.out.wh.five
  have S7 := hid (WhB.setWh (x' := ⟨false, Po.txt (Po.takeTok T 1 st).text, 0, pl, pk⟩) S6.out 1 (.string (Po.txt (Po.takeTok T 1 st).text)) rfl)
  go_upto_region 12 with (fail)
  generalize w6.setCell ⟨p3, 1, none⟩ (.string (Po.txt (Po.takeTok T 1 st).text)) = w7 at *
  obtain ⟨x, hx⟩ : ∃ x : Po.Who, (⟨false, Po.txt (Po.takeTok T 1 st).text, 0, pl, pk⟩ : Po.Who) = x := ⟨_, rfl⟩
  rw [hx] at S7 e1
  clear hx c0 c1 c2 c3 c4 cf cz S6 T6 t0 ho3
  obtain ⟨q, m, dd, rfl, hrest⟩ := hL.out.row
  clear hrest
  have hSx := whS S7.out.rd S7.out.wh
  have hSd : _ ∧ _ := whS (Blk.drew S7.out.rd) (Blk.drew S7.out.wh)
  have hSy := hSx
  obtain ⟨s0, s1, s2, s3, s4, s5, s6, s7, s8, s9, s10⟩ := hSy
  obtain ⟨k0, k1, k2, k3, k4, k5, kf, kz⟩ := blk_six S7.out.r1
  obtain ⟨f0, f1, f2, f3, f4, ff, fz⟩ := S7.out.r2.five
  have ho1 := S7.out.ord
  have n1 : w.heap.size ≠ p1 := by omega
  have n2 : p1 ≠ p2 := by omega
  have n3 : p2 ≠ p1 := by omega
  have n4 : w.heap.size ≠ p2 := by omega
  have n5 : p3 ≠ p1 := by omega
  have n6 : p3 ≠ p2 := by omega
  have b1 : w.heap.size ≤ p1 := by omega
  have b2 : w.heap.size ≤ p2 := by omega
  clear ho1
  go_region_held3 (fun w' => w'.cell? ⟨w.heap.size, 0, none⟩ = some (.slice q m dd) ∧ w'.cell? ⟨w.heap.size, 1, none⟩ = some (.int .i64 e.1) ∧ w'.cell? ⟨w.heap.size, 1 + 1, none⟩ = some (.int .i64 e.2) ∧ w'.cell? ⟨w.heap.size, 1 + 1 + 1, none⟩ = some (.int .i64 (Po.takeSt T e 1 st).f.1) ∧ w'.cell? ⟨w.heap.size, 1 + 1 + 1 + 1, none⟩ = some (.int .i64 (Po.takeSt T e 1 st).f.2.1) ∧ w'.cell? ⟨w.heap.size, 1 + 1 + 1 + 1 + 1, none⟩ = some (.int .i64 (Po.takeSt T e 1 st).f.2.2) ∧ w'.cell? ⟨p3, 0, none⟩ = some (.bool x.any) ∧ w'.cell? ⟨p3, 1, none⟩ = some (.string x.name) ∧ w'.cell? ⟨p3, 1 + 1, none⟩ = some (.int .i64 x.n) ∧ w'.cell? ⟨p3, 1 + 1 + 1, none⟩ = some (.int .i64 x.line) ∧ w'.cell? ⟨p3, 1 + 1 + 1 + 1, none⟩ = some (.int .i64 x.col)) (first | with_reducible assumption | (refine ⟨?_, ?_, ?_, ?_, ?_, ?_, ?_, ?_, ?_, ?_, ?_⟩ <;> (simp only [far n1, far n4, far n5, far n6, drewc]; assumption)) | go_keep) (first | fail)
  go_wp2_with fail
  have ⟨g1, g2, g3⟩ := sets65 S7.out.r1 S7.out.r2 S7.out.bel n2 b1 b2 (.slice q m dd) (.int .i64 e.1) (.int .i64 e.2) (.int .i64 (Po.takeSt T e 1 st).f.1) (.int .i64 (Po.takeSt T e 1 st).f.2.1) (.int .i64 (Po.takeSt T e 1 st).f.2.2) (.bool x.any) (.string x.name) (.int .i64 x.n) (.int .i64 x.line) (.int .i64 x.col)
  refine bodyPost_ret (v := .tuple #[.agg (rdArr (.slice q m dd) e (Po.takeSt T e 1 st)), .agg (whoArr x)]) (results_blk2 (p := 6) (q := 7) (ty := 48) (tz := 37) rfl _ _ p1 48 _ p2 37 _ rfl rfl (Blk.drew g1) (Blk.drew g2) Tryz.underlying48 rfl (by kernel_rfl) Tryz.underlying37 rfl (by kernel_rfl)) rfl ⟨?_, g3.drew⟩
  rw [e1.out, e2.out]
  exact ⟨_, rfl, hL.out⟩

set_option maxRecDepth 100000 in
set_option maxHeartbeats 4000000 in
theorem rrwho_name {w0 w : World} {L : Value} {T : List Lx.Tok} {st : Po.St} (e : Nat × Nat) (h : RRd w0 L T st) (hw0 : Below w0.heap.size w0 w) (s : ByteArray) (b : Bool) (hi : Po.is T s.data.toList st = false) (hb : b = true) (hn : Po.headName T st = true) :
    Calls Tryz.prog 37 #[.agg (rdArr L e st), .string s, .bool b] w fun en w' => WhoBack w0 T e (Po.wV T e s.data.toList b st) (Po.wS T e s.data.toList b st) en ∧ Below w.heap.size w w' := by
  obtain ⟨lp, ln, lc, rfl, _⟩ := h.row
  have z1 := balloc w (.cells (rdArr (.slice lp ln lc) e st) 48)
  have z2 := balloc (w.alloc (.cells (rdArr (.slice lp ln lc) e st) 48)) (.cells zeroR 48)
  have z3 := balloc ((w.alloc (.cells (rdArr (.slice lp ln lc) e st) 48)).alloc (.cells zeroR 48)) (.cells zeroW 37)
  have B0 := hid (((Blk.new w (rdArr (.slice lp ln lc) e st) 48).ext z2).ext z3)
  have R0 := hid ((Blk.newAt (w := w.alloc (.cells (rdArr (.slice lp ln lc) e st) 48)) (k := w.heap.size + 1) (by simp) zeroR 48).ext z3)
  have T0 := hid (Blk.newAt (w := (w.alloc (.cells (rdArr (.slice lp ln lc) e st) 48)).alloc (.cells zeroR 48)) (k := w.heap.size + 1 + 1) (by simp) zeroW 37)
  have Q0 := hid (bthen (bthen z1 z2) z3)
  have W0 := hid (bthen hw0 Q0.out)
  have h' := hid h
  have ho := hid (show w.heap.size < w.heap.size + 1 ∧ w.heap.size + 1 < w.heap.size + 1 + 1 by omega)
  have hgw := hid hw0.size
  clear z1 z2 z3 h hw0
  unfold WhoBack
  unfold zeroR zeroW at *
  go_enter Tryz.func37, Tryz.ntmps37
  go_upto_region 1 with (fail)
  generalize w.heap.size + 1 = p1 at *
  generalize p1 + 1 = p2 at *
  generalize hW : (((w.alloc (.cells (rdArr (.slice lp ln lc) e st) 48)).alloc _).alloc _) = wx at *
  clear hW
  go_wp2_with (first | (refine wpList_load_blk rfl 48 (.tmp 3) rfl 10 rfl w.heap.size 48 (rdArr (.slice lp ln lc) e st) (B0.out) rfl Tryz.underlying48 rfl (by kernel_rfl) ?_))
  refine (rrplace_any e h'.out W0.out).mono ?_
  rintro en w1 ⟨rfl, hb1⟩
  have hp2 := T0.out.lt
  have S1 := hid (show WhB w p1 p2 w1.heap.size (.slice lp ln lc) e st ⟨false, ⟨#[]⟩, 0, (Po.place T e st).1, (Po.place T e st).2⟩ (w1.alloc (.cells (whoArr ⟨false, ⟨#[]⟩, 0, (Po.place T e st).1, (Po.place T e st).2⟩) 37)) from
    ⟨(B0.out.ext hb1).ext (balloc _ _), (R0.out.ext hb1).ext (balloc _ _), (T0.out.ext hb1).ext (balloc _ _), Blk.new _ _ _, bthen Q0.out (bthen hb1 (balloc _ _)), ⟨ho.out.1, ho.out.2, by have := hb1.size; omega⟩⟩)
  have W1 := hid (bthen W0.out (bthen hb1 (balloc w1 (.cells (whoArr ⟨false, ⟨#[]⟩, 0, (Po.place T e st).1, (Po.place T e st).2⟩) 37))))
  clear hb1 hp2 B0 R0 T0 Q0 W0
  go_upto_region 2 with (fail)
  unfold whoArr at S1 W1
  simp only at S1 W1
  generalize hpl : (Po.place T e st).1 = pl at *
  generalize hpk : (Po.place T e st).2 = pk at *
  generalize hp3 : w1.heap.size = p3 at *
  generalize w1.alloc (.cells #[.bool false, .string ⟨#[]⟩, .int .i64 0, .int .i64 pl, .int .i64 pk] 37) = w2 at *
  have hpl' := hid hpl
  have hpk' := hid hpk
  clear hpl hpk hp3
  have his := hid (rris_any e h'.out W1.out s)
  have hh : (b && !Po.headName T st) = false := by rw [hb, hn]; rfl
  have e1 := hid (show Po.wV T e s.data.toList b st = ⟨false, Po.txt (Po.takeTok T 1 st).text, 0, pl, pk⟩ by unfold Po.wV; rw [if_neg (by rw [hi]; decide), if_neg (by rw [hh]; decide), hpl'.out, hpk'.out])
  have e2 := hid (show Po.wS T e s.data.toList b st = Po.takeSt T e 1 st by unfold Po.wS; rw [if_neg (by rw [hi]; decide), if_neg (by rw [hh]; decide)])
  rw [hi] at his
  clear hi hh
  subst hb
  have hnh := hid hn
  clear hn
  go_wp2_with (first | (refine wpList_load_blk rfl 48 (.tmp 3) rfl 13 rfl w.heap.size 48 (rdArr (.slice lp ln lc) e st) (S1.out.rd) rfl Tryz.underlying48 rfl (by kernel_rfl) ?_))
  refine his.out.mono ?_
  rintro en w3 ⟨rfl, hb3⟩
  have S2 := hid (S1.out.ext hb3)
  have W2 := hid (bthen W1.out hb3)
  clear hb3 his S1 W1
  have zt := balloc w3 (.cells zeroT 81)
  have S3 := hid (S2.out.ext zt)
  have W3 := hid (bthen W2.out zt)
  have T3 := hid (Blk.new w3 zeroT 81)
  have hp4 : Hid (p3 < w3.heap.size) := hid (by have := S2.out.wh.lt; exact this)
  have hgx := hid (Nat.le_trans hgw.out S3.out.bel.size)
  clear zt S2 W2
  unfold zeroT at *
  go_upto_region 6 with (fail)
  generalize hp4e : w3.heap.size = p4 at *
  generalize w3.alloc (.cells #[.int .i64 0, .string ⟨#[]⟩, .int .i64 0, .int .i64 0, .int .i64 0] 81) = w4 at *
  clear hp4e
  have hn := hnh.out
  have hlt : st.at_ < T.length := by
    rcases Nat.lt_or_ge st.at_ T.length with h1 | h1
    · exact h1
    · unfold Po.headName at hn; rw [List.getElem?_eq_none h1] at hn; cases hn
  obtain ⟨g, o, n, c, t, hsl, hn0, hnc, hn1, ht, hg, hat, _⟩ := h'.out.head hlt
  cases hsl
  have hk1 : ((t.kind : Int) == 1) = true := by
    unfold Po.headName at hn
    rw [ht] at hn
    have : t.kind = 1 := by simpa using hn
    rw [this]; rfl
  have y0 := S3.out.rd.cell 0 (v := .slice (some ⟨g, o, none⟩) ln lc) rfl
  have a0 := (hat _ W3.out).c0
  have hgz : g < w4.heap.size := by have := hgx.out; omega
  have hnI : (0 : Int) < ln := by omega
  have h1000 : (ln : Int) ≤ 1000 := by omega
  clear ht hat hn hlt
  go_upto_region 10 with (fail)
  clear y0 a0 hk1
  go_wp2_with (first | (refine wpList_load_blk rfl 48 (.tmp 3) rfl 47 rfl w.heap.size 48 (rdArr (.slice (some ⟨g, o, none⟩) ln lc) e st) (S3.out.rd) rfl Tryz.underlying48 rfl (by kernel_rfl) ?_))
  refine (rrof_lit e h'.out W3.out 1 1 rfl).mono ?_
  rintro en w5 ⟨⟨L2, rfl, hL2⟩, hb5⟩
  have S4 := hid (S3.out.ext hb5)
  have T4 := hid (T3.out.ext hb5)
  have hL := hid hL2
  have W4 := hid (bthen W3.out hb5)
  clear hb5 hL2 S3 T3 W3
  have S5 := hid (WhB.setRd (L' := L2) (st' := Po.takeSt T e 1 st) S4.out)
  have ho3 := S5.out.ord
  have T5 := hid (T4.out.setRowOther (k := w.heap.size) (by have := hp4.out; omega) (cs' := rdArr L2 e (Po.takeSt T e 1 st)))
  have S6 := hid (S5.out.setOther hp4.out (tokArr (Po.takeTok T 1 st)))
  have T6 := hid (T5.out.setRow (tokArr (Po.takeTok T 1 st)))
  skip
  --DBG
  go_upto_region 11 with (first | (refine wpList_store_blk rfl 48 (.tmp 3) (.tmp 49) rfl rfl w.heap.size 48 _ (rdArr L2 e (Po.takeSt T e 1 st)) (S4.out.rd) rfl rfl (by kernel_rfl) rfl (rdArr_one hL.out e _) ?_) | (refine wpList_store_blk rfl 81 (.tmp 9) (.tmp 50) rfl rfl p4 81 _ (tokArr (Po.takeTok T 1 st)) (T5.out) rfl rfl (by kernel_rfl) rfl (tokArr_one _) ?_))
  generalize (w5.setRow w.heap.size (rdArr L2 e (Po.takeSt T e 1 st))).setRow p4 (tokArr (Po.takeTok T 1 st)) = w6 at *
  clear S4 T4 T5 S5 W4
  have t0 := T6.out.cell 1 (v := .string (Po.txt (Po.takeTok T 1 st).text)) rfl
  obtain ⟨c0, c1, c2, c3, c4, cf, cz⟩ := S6.out.wh.five
  have S7 := hid (WhB.setWh (x' := ⟨false, Po.txt (Po.takeTok T 1 st).text, 0, pl, pk⟩) S6.out 1 (.string (Po.txt (Po.takeTok T 1 st).text)) rfl)
  go_upto_region 12 with (fail)
  generalize w6.setCell ⟨p3, 1, none⟩ (.string (Po.txt (Po.takeTok T 1 st).text)) = w7 at *
  obtain ⟨x, hx⟩ : ∃ x : Po.Who, (⟨false, Po.txt (Po.takeTok T 1 st).text, 0, pl, pk⟩ : Po.Who) = x := ⟨_, rfl⟩
  rw [hx] at S7 e1
  clear hx c0 c1 c2 c3 c4 cf cz S6 T6 t0 ho3
  obtain ⟨q, m, dd, rfl, hrest⟩ := hL.out.row
  clear hrest
  have hSx := whS S7.out.rd S7.out.wh
  have hSd : _ ∧ _ := whS (Blk.drew S7.out.rd) (Blk.drew S7.out.wh)
  have hSy := hSx
  obtain ⟨s0, s1, s2, s3, s4, s5, s6, s7, s8, s9, s10⟩ := hSy
  obtain ⟨k0, k1, k2, k3, k4, k5, kf, kz⟩ := blk_six S7.out.r1
  obtain ⟨f0, f1, f2, f3, f4, ff, fz⟩ := S7.out.r2.five
  have ho1 := S7.out.ord
  have n1 : w.heap.size ≠ p1 := by omega
  have n2 : p1 ≠ p2 := by omega
  have n3 : p2 ≠ p1 := by omega
  have n4 : w.heap.size ≠ p2 := by omega
  have n5 : p3 ≠ p1 := by omega
  have n6 : p3 ≠ p2 := by omega
  have b1 : w.heap.size ≤ p1 := by omega
  have b2 : w.heap.size ≤ p2 := by omega
  clear ho1
  go_region_held3 (fun w' => w'.cell? ⟨w.heap.size, 0, none⟩ = some (.slice q m dd) ∧ w'.cell? ⟨w.heap.size, 1, none⟩ = some (.int .i64 e.1) ∧ w'.cell? ⟨w.heap.size, 1 + 1, none⟩ = some (.int .i64 e.2) ∧ w'.cell? ⟨w.heap.size, 1 + 1 + 1, none⟩ = some (.int .i64 (Po.takeSt T e 1 st).f.1) ∧ w'.cell? ⟨w.heap.size, 1 + 1 + 1 + 1, none⟩ = some (.int .i64 (Po.takeSt T e 1 st).f.2.1) ∧ w'.cell? ⟨w.heap.size, 1 + 1 + 1 + 1 + 1, none⟩ = some (.int .i64 (Po.takeSt T e 1 st).f.2.2) ∧ w'.cell? ⟨p3, 0, none⟩ = some (.bool x.any) ∧ w'.cell? ⟨p3, 1, none⟩ = some (.string x.name) ∧ w'.cell? ⟨p3, 1 + 1, none⟩ = some (.int .i64 x.n) ∧ w'.cell? ⟨p3, 1 + 1 + 1, none⟩ = some (.int .i64 x.line) ∧ w'.cell? ⟨p3, 1 + 1 + 1 + 1, none⟩ = some (.int .i64 x.col)) (first | with_reducible assumption | (refine ⟨?_, ?_, ?_, ?_, ?_, ?_, ?_, ?_, ?_, ?_, ?_⟩ <;> (simp only [far n1, far n4, far n5, far n6, drewc]; assumption)) | go_keep) (first | fail)
  go_wp2_with fail
  have ⟨g1, g2, g3⟩ := sets65 S7.out.r1 S7.out.r2 S7.out.bel n2 b1 b2 (.slice q m dd) (.int .i64 e.1) (.int .i64 e.2) (.int .i64 (Po.takeSt T e 1 st).f.1) (.int .i64 (Po.takeSt T e 1 st).f.2.1) (.int .i64 (Po.takeSt T e 1 st).f.2.2) (.bool x.any) (.string x.name) (.int .i64 x.n) (.int .i64 x.line) (.int .i64 x.col)
  refine bodyPost_ret (v := .tuple #[.agg (rdArr (.slice q m dd) e (Po.takeSt T e 1 st)), .agg (whoArr x)]) (results_blk2 (p := 6) (q := 7) (ty := 48) (tz := 37) rfl _ _ p1 48 _ p2 37 _ rfl rfl (Blk.drew g1) (Blk.drew g2) Tryz.underlying48 rfl (by kernel_rfl) Tryz.underlying37 rfl (by kernel_rfl)) rfl ⟨?_, g3.drew⟩
  rw [e1.out, e2.out]
  exact ⟨_, rfl, hL.out⟩

set_option maxRecDepth 100000 in
set_option maxHeartbeats 4000000 in
theorem rrwho_num {w0 w : World} {L : Value} {T : List Lx.Tok} {st : Po.St} (e : Nat × Nat) (h : RRd w0 L T st) (hw0 : Below w0.heap.size w0 w) (s : ByteArray) (b : Bool) (hi : Po.is T s.data.toList st = false) (hb : b = true) (hn : Po.headName T st = false) :
    Calls Tryz.prog 37 #[.agg (rdArr L e st), .string s, .bool b] w fun en w' => WhoBack w0 T e (Po.wV T e s.data.toList b st) (Po.wS T e s.data.toList b st) en ∧ Below w.heap.size w w' := by
  obtain ⟨lp, ln, lc, rfl, _⟩ := h.row
  have z1 := balloc w (.cells (rdArr (.slice lp ln lc) e st) 48)
  have z2 := balloc (w.alloc (.cells (rdArr (.slice lp ln lc) e st) 48)) (.cells zeroR 48)
  have z3 := balloc ((w.alloc (.cells (rdArr (.slice lp ln lc) e st) 48)).alloc (.cells zeroR 48)) (.cells zeroW 37)
  have B0 := hid (((Blk.new w (rdArr (.slice lp ln lc) e st) 48).ext z2).ext z3)
  have R0 := hid ((Blk.newAt (w := w.alloc (.cells (rdArr (.slice lp ln lc) e st) 48)) (k := w.heap.size + 1) (by simp) zeroR 48).ext z3)
  have T0 := hid (Blk.newAt (w := (w.alloc (.cells (rdArr (.slice lp ln lc) e st) 48)).alloc (.cells zeroR 48)) (k := w.heap.size + 1 + 1) (by simp) zeroW 37)
  have Q0 := hid (bthen (bthen z1 z2) z3)
  have W0 := hid (bthen hw0 Q0.out)
  have h' := hid h
  have ho := hid (show w.heap.size < w.heap.size + 1 ∧ w.heap.size + 1 < w.heap.size + 1 + 1 by omega)
  have hgw := hid hw0.size
  clear z1 z2 z3 h hw0
  unfold WhoBack
  unfold zeroR zeroW at *
  go_enter Tryz.func37, Tryz.ntmps37
  go_upto_region 1 with (fail)
  generalize w.heap.size + 1 = p1 at *
  generalize p1 + 1 = p2 at *
  generalize hW : (((w.alloc (.cells (rdArr (.slice lp ln lc) e st) 48)).alloc _).alloc _) = wx at *
  clear hW
  go_wp2_with (first | (refine wpList_load_blk rfl 48 (.tmp 3) rfl 10 rfl w.heap.size 48 (rdArr (.slice lp ln lc) e st) (B0.out) rfl Tryz.underlying48 rfl (by kernel_rfl) ?_))
  refine (rrplace_any e h'.out W0.out).mono ?_
  rintro en w1 ⟨rfl, hb1⟩
  have hp2 := T0.out.lt
  have S1 := hid (show WhB w p1 p2 w1.heap.size (.slice lp ln lc) e st ⟨false, ⟨#[]⟩, 0, (Po.place T e st).1, (Po.place T e st).2⟩ (w1.alloc (.cells (whoArr ⟨false, ⟨#[]⟩, 0, (Po.place T e st).1, (Po.place T e st).2⟩) 37)) from
    ⟨(B0.out.ext hb1).ext (balloc _ _), (R0.out.ext hb1).ext (balloc _ _), (T0.out.ext hb1).ext (balloc _ _), Blk.new _ _ _, bthen Q0.out (bthen hb1 (balloc _ _)), ⟨ho.out.1, ho.out.2, by have := hb1.size; omega⟩⟩)
  have W1 := hid (bthen W0.out (bthen hb1 (balloc w1 (.cells (whoArr ⟨false, ⟨#[]⟩, 0, (Po.place T e st).1, (Po.place T e st).2⟩) 37))))
  clear hb1 hp2 B0 R0 T0 Q0 W0
  go_upto_region 2 with (fail)
  unfold whoArr at S1 W1
  simp only at S1 W1
  generalize hpl : (Po.place T e st).1 = pl at *
  generalize hpk : (Po.place T e st).2 = pk at *
  generalize hp3 : w1.heap.size = p3 at *
  generalize w1.alloc (.cells #[.bool false, .string ⟨#[]⟩, .int .i64 0, .int .i64 pl, .int .i64 pk] 37) = w2 at *
  have hpl' := hid hpl
  have hpk' := hid hpk
  clear hpl hpk hp3
  have his := hid (rris_any e h'.out W1.out s)
  have hh : Po.headName T st = false := hn
  have e1 := hid (show Po.wV T e s.data.toList b st = ⟨false, ⟨#[]⟩, (Po.takeTok T 3 st).n, pl, pk⟩ by unfold Po.wV; rw [if_neg (by rw [hi]; decide), if_pos (by rw [hb, hh]; rfl), hpl'.out, hpk'.out])
  have e2 := hid (show Po.wS T e s.data.toList b st = Po.takeSt T e 3 st by unfold Po.wS; rw [if_neg (by rw [hi]; decide), if_pos (by rw [hb, hh]; rfl)])
  rw [hi] at his
  clear hi hh
  subst hb
  have hnh := hid hn
  clear hn
  go_wp2_with (first | (refine wpList_load_blk rfl 48 (.tmp 3) rfl 13 rfl w.heap.size 48 (rdArr (.slice lp ln lc) e st) (S1.out.rd) rfl Tryz.underlying48 rfl (by kernel_rfl) ?_))
  refine his.out.mono ?_
  rintro en w3 ⟨rfl, hb3⟩
  have S2 := hid (S1.out.ext hb3)
  have W2 := hid (bthen W1.out hb3)
  clear hb3 his S1 W1
  have zt := balloc w3 (.cells zeroT 81)
  have S3 := hid (S2.out.ext zt)
  have W3 := hid (bthen W2.out zt)
  have T3 := hid (Blk.new w3 zeroT 81)
  have hp4 : Hid (p3 < w3.heap.size) := hid (by have := S2.out.wh.lt; exact this)
  have hgx := hid (Nat.le_trans hgw.out S3.out.bel.size)
  clear zt S2 W2
  unfold zeroT at *
  go_upto_region 6 with (fail)
  generalize hp4e : w3.heap.size = p4 at *
  generalize w3.alloc (.cells #[.int .i64 0, .string ⟨#[]⟩, .int .i64 0, .int .i64 0, .int .i64 0] 81) = w4 at *
  clear hp4e
  have hn := hnh.out
  by_cases hlt : st.at_ < T.length
  · obtain ⟨g, o, n, c, t, hsl, hn0, hnc, hn1, ht, hg, hat, _⟩ := h'.out.head hlt
    cases hsl
    have hk1 : ((t.kind : Int) == 1) = false := by
      unfold Po.headName at hn
      rw [beq_eq_false_iff_ne]
      intro hh
      have : t.kind = 1 := by omega
      simp [ht, this] at hn
    have y0 := S3.out.rd.cell 0 (v := .slice (some ⟨g, o, none⟩) ln lc) rfl
    have a0 := (hat _ W3.out).c0
    have hgz : g < w4.heap.size := by have := hgx.out; omega
    have hnI : (0 : Int) < ln := by omega
    have h1000 : (ln : Int) ≤ 1000 := by omega
    clear ht hat hn hlt
    go_upto_region 7 with (fail)
    clear y0 a0 hk1
    go_wp2_with (first | (refine wpList_load_blk rfl 48 (.tmp 3) rfl 37 rfl w.heap.size 48 (rdArr (.slice (some ⟨g, o, none⟩) ln lc) e st) (S3.out.rd) rfl Tryz.underlying48 rfl (by kernel_rfl) ?_))
    refine (rrof_lit e h'.out W3.out 3 3 rfl).mono ?_
    rintro en w5 ⟨⟨L2, rfl, hL2⟩, hb5⟩
    have S4 := hid (S3.out.ext hb5)
    have T4 := hid (T3.out.ext hb5)
    have hL := hid hL2
    have W4 := hid (bthen W3.out hb5)
    clear hb5 hL2 S3 T3 W3
    have S5 := hid (WhB.setRd (L' := L2) (st' := Po.takeSt T e 3 st) S4.out)
    have ho3 := S5.out.ord
    have T5 := hid (T4.out.setRowOther (k := w.heap.size) (by have := hp4.out; omega) (cs' := rdArr L2 e (Po.takeSt T e 3 st)))
    have S6 := hid (S5.out.setOther hp4.out (tokArr (Po.takeTok T 3 st)))
    have T6 := hid (T5.out.setRow (tokArr (Po.takeTok T 3 st)))
    skip
    --DBG
    go_upto_region 8 with (first | (refine wpList_store_blk rfl 48 (.tmp 3) (.tmp 39) rfl rfl w.heap.size 48 _ (rdArr L2 e (Po.takeSt T e 3 st)) (S4.out.rd) rfl rfl (by kernel_rfl) rfl (rdArr_one hL.out e _) ?_) | (refine wpList_store_blk rfl 81 (.tmp 9) (.tmp 40) rfl rfl p4 81 _ (tokArr (Po.takeTok T 3 st)) (T5.out) rfl rfl (by kernel_rfl) rfl (tokArr_one _) ?_))
    generalize (w5.setRow w.heap.size (rdArr L2 e (Po.takeSt T e 3 st))).setRow p4 (tokArr (Po.takeTok T 3 st)) = w6 at *
    clear S4 T4 T5 S5 W4
    have t0 := T6.out.cell 2 (v := .int .i64 (Po.takeTok T 3 st).n) rfl
    obtain ⟨c0, c1, c2, c3, c4, cf, cz⟩ := S6.out.wh.five
    have S7 := hid (WhB.setWh (x' := ⟨false, ⟨#[]⟩, (Po.takeTok T 3 st).n, pl, pk⟩) S6.out 2 (.int .i64 (Po.takeTok T 3 st).n) rfl)
    go_upto_region 9 with (fail)
    generalize w6.setCell ⟨p3, 2, none⟩ (.int .i64 (Po.takeTok T 3 st).n) = w7 at *
    obtain ⟨x, hx⟩ : ∃ x : Po.Who, (⟨false, ⟨#[]⟩, (Po.takeTok T 3 st).n, pl, pk⟩ : Po.Who) = x := ⟨_, rfl⟩
    rw [hx] at S7 e1
    clear hx c0 c1 c2 c3 c4 cf cz S6 T6 t0 ho3
    obtain ⟨q, m, dd, rfl, hrest⟩ := hL.out.row
    clear hrest
    have hSx := whS S7.out.rd S7.out.wh
    have hSd : _ ∧ _ := whS (Blk.drew S7.out.rd) (Blk.drew S7.out.wh)
    have hSy := hSx
    obtain ⟨s0, s1, s2, s3, s4, s5, s6, s7, s8, s9, s10⟩ := hSy
    obtain ⟨k0, k1, k2, k3, k4, k5, kf, kz⟩ := blk_six S7.out.r1
    obtain ⟨f0, f1, f2, f3, f4, ff, fz⟩ := S7.out.r2.five
    have ho1 := S7.out.ord
    have n1 : w.heap.size ≠ p1 := by omega
    have n2 : p1 ≠ p2 := by omega
    have n3 : p2 ≠ p1 := by omega
    have n4 : w.heap.size ≠ p2 := by omega
    have n5 : p3 ≠ p1 := by omega
    have n6 : p3 ≠ p2 := by omega
    have b1 : w.heap.size ≤ p1 := by omega
    have b2 : w.heap.size ≤ p2 := by omega
    clear ho1
    go_region_held3 (fun w' => w'.cell? ⟨w.heap.size, 0, none⟩ = some (.slice q m dd) ∧ w'.cell? ⟨w.heap.size, 1, none⟩ = some (.int .i64 e.1) ∧ w'.cell? ⟨w.heap.size, 1 + 1, none⟩ = some (.int .i64 e.2) ∧ w'.cell? ⟨w.heap.size, 1 + 1 + 1, none⟩ = some (.int .i64 (Po.takeSt T e 3 st).f.1) ∧ w'.cell? ⟨w.heap.size, 1 + 1 + 1 + 1, none⟩ = some (.int .i64 (Po.takeSt T e 3 st).f.2.1) ∧ w'.cell? ⟨w.heap.size, 1 + 1 + 1 + 1 + 1, none⟩ = some (.int .i64 (Po.takeSt T e 3 st).f.2.2) ∧ w'.cell? ⟨p3, 0, none⟩ = some (.bool x.any) ∧ w'.cell? ⟨p3, 1, none⟩ = some (.string x.name) ∧ w'.cell? ⟨p3, 1 + 1, none⟩ = some (.int .i64 x.n) ∧ w'.cell? ⟨p3, 1 + 1 + 1, none⟩ = some (.int .i64 x.line) ∧ w'.cell? ⟨p3, 1 + 1 + 1 + 1, none⟩ = some (.int .i64 x.col)) (first | with_reducible assumption | (refine ⟨?_, ?_, ?_, ?_, ?_, ?_, ?_, ?_, ?_, ?_, ?_⟩ <;> (simp only [far n1, far n4, far n5, far n6, drewc]; assumption)) | go_keep) (first | fail)
    go_wp2_with fail
    have ⟨g1, g2, g3⟩ := sets65 S7.out.r1 S7.out.r2 S7.out.bel n2 b1 b2 (.slice q m dd) (.int .i64 e.1) (.int .i64 e.2) (.int .i64 (Po.takeSt T e 3 st).f.1) (.int .i64 (Po.takeSt T e 3 st).f.2.1) (.int .i64 (Po.takeSt T e 3 st).f.2.2) (.bool x.any) (.string x.name) (.int .i64 x.n) (.int .i64 x.line) (.int .i64 x.col)
    refine bodyPost_ret (v := .tuple #[.agg (rdArr (.slice q m dd) e (Po.takeSt T e 3 st)), .agg (whoArr x)]) (results_blk2 (p := 6) (q := 7) (ty := 48) (tz := 37) rfl _ _ p1 48 _ p2 37 _ rfl rfl (Blk.drew g1) (Blk.drew g2) Tryz.underlying48 rfl (by kernel_rfl) Tryz.underlying37 rfl (by kernel_rfl)) rfl ⟨?_, g3.drew⟩
    rw [e1.out, e2.out]
    exact ⟨_, rfl, hL.out⟩
  · obtain ⟨p, c, hsl, _⟩ := h'.out.empty hlt
    cases hsl
    have y0 := S3.out.rd.cell 0 (v := .slice lp 0 lc) rfl
    clear hn hlt
    go_upto_region 7 with (fail)
    clear y0
    go_wp2_with (first | (refine wpList_load_blk rfl 48 (.tmp 3) rfl 37 rfl w.heap.size 48 (rdArr (.slice lp 0 lc) e st) (S3.out.rd) rfl Tryz.underlying48 rfl (by kernel_rfl) ?_))
    refine (rrof_lit e h'.out W3.out 3 3 rfl).mono ?_
    rintro en w5 ⟨⟨L2, rfl, hL2⟩, hb5⟩
    have S4 := hid (S3.out.ext hb5)
    have T4 := hid (T3.out.ext hb5)
    have hL := hid hL2
    have W4 := hid (bthen W3.out hb5)
    clear hb5 hL2 S3 T3 W3
    have S5 := hid (WhB.setRd (L' := L2) (st' := Po.takeSt T e 3 st) S4.out)
    have ho3 := S5.out.ord
    have T5 := hid (T4.out.setRowOther (k := w.heap.size) (by have := hp4.out; omega) (cs' := rdArr L2 e (Po.takeSt T e 3 st)))
    have S6 := hid (S5.out.setOther hp4.out (tokArr (Po.takeTok T 3 st)))
    have T6 := hid (T5.out.setRow (tokArr (Po.takeTok T 3 st)))
    skip
    --DBG
    go_upto_region 8 with (first | (refine wpList_store_blk rfl 48 (.tmp 3) (.tmp 39) rfl rfl w.heap.size 48 _ (rdArr L2 e (Po.takeSt T e 3 st)) (S4.out.rd) rfl rfl (by kernel_rfl) rfl (rdArr_one hL.out e _) ?_) | (refine wpList_store_blk rfl 81 (.tmp 9) (.tmp 40) rfl rfl p4 81 _ (tokArr (Po.takeTok T 3 st)) (T5.out) rfl rfl (by kernel_rfl) rfl (tokArr_one _) ?_))
    generalize (w5.setRow w.heap.size (rdArr L2 e (Po.takeSt T e 3 st))).setRow p4 (tokArr (Po.takeTok T 3 st)) = w6 at *
    clear S4 T4 T5 S5 W4
    have t0 := T6.out.cell 2 (v := .int .i64 (Po.takeTok T 3 st).n) rfl
    obtain ⟨c0, c1, c2, c3, c4, cf, cz⟩ := S6.out.wh.five
    have S7 := hid (WhB.setWh (x' := ⟨false, ⟨#[]⟩, (Po.takeTok T 3 st).n, pl, pk⟩) S6.out 2 (.int .i64 (Po.takeTok T 3 st).n) rfl)
    go_upto_region 9 with (fail)
    generalize w6.setCell ⟨p3, 2, none⟩ (.int .i64 (Po.takeTok T 3 st).n) = w7 at *
    obtain ⟨x, hx⟩ : ∃ x : Po.Who, (⟨false, ⟨#[]⟩, (Po.takeTok T 3 st).n, pl, pk⟩ : Po.Who) = x := ⟨_, rfl⟩
    rw [hx] at S7 e1
    clear hx c0 c1 c2 c3 c4 cf cz S6 T6 t0 ho3
    obtain ⟨q, m, dd, rfl, hrest⟩ := hL.out.row
    clear hrest
    have hSx := whS S7.out.rd S7.out.wh
    have hSd : _ ∧ _ := whS (Blk.drew S7.out.rd) (Blk.drew S7.out.wh)
    have hSy := hSx
    obtain ⟨s0, s1, s2, s3, s4, s5, s6, s7, s8, s9, s10⟩ := hSy
    obtain ⟨k0, k1, k2, k3, k4, k5, kf, kz⟩ := blk_six S7.out.r1
    obtain ⟨f0, f1, f2, f3, f4, ff, fz⟩ := S7.out.r2.five
    have ho1 := S7.out.ord
    have n1 : w.heap.size ≠ p1 := by omega
    have n2 : p1 ≠ p2 := by omega
    have n3 : p2 ≠ p1 := by omega
    have n4 : w.heap.size ≠ p2 := by omega
    have n5 : p3 ≠ p1 := by omega
    have n6 : p3 ≠ p2 := by omega
    have b1 : w.heap.size ≤ p1 := by omega
    have b2 : w.heap.size ≤ p2 := by omega
    clear ho1
    go_region_held3 (fun w' => w'.cell? ⟨w.heap.size, 0, none⟩ = some (.slice q m dd) ∧ w'.cell? ⟨w.heap.size, 1, none⟩ = some (.int .i64 e.1) ∧ w'.cell? ⟨w.heap.size, 1 + 1, none⟩ = some (.int .i64 e.2) ∧ w'.cell? ⟨w.heap.size, 1 + 1 + 1, none⟩ = some (.int .i64 (Po.takeSt T e 3 st).f.1) ∧ w'.cell? ⟨w.heap.size, 1 + 1 + 1 + 1, none⟩ = some (.int .i64 (Po.takeSt T e 3 st).f.2.1) ∧ w'.cell? ⟨w.heap.size, 1 + 1 + 1 + 1 + 1, none⟩ = some (.int .i64 (Po.takeSt T e 3 st).f.2.2) ∧ w'.cell? ⟨p3, 0, none⟩ = some (.bool x.any) ∧ w'.cell? ⟨p3, 1, none⟩ = some (.string x.name) ∧ w'.cell? ⟨p3, 1 + 1, none⟩ = some (.int .i64 x.n) ∧ w'.cell? ⟨p3, 1 + 1 + 1, none⟩ = some (.int .i64 x.line) ∧ w'.cell? ⟨p3, 1 + 1 + 1 + 1, none⟩ = some (.int .i64 x.col)) (first | with_reducible assumption | (refine ⟨?_, ?_, ?_, ?_, ?_, ?_, ?_, ?_, ?_, ?_, ?_⟩ <;> (simp only [far n1, far n4, far n5, far n6, drewc]; assumption)) | go_keep) (first | fail)
    go_wp2_with fail
    have ⟨g1, g2, g3⟩ := sets65 S7.out.r1 S7.out.r2 S7.out.bel n2 b1 b2 (.slice q m dd) (.int .i64 e.1) (.int .i64 e.2) (.int .i64 (Po.takeSt T e 3 st).f.1) (.int .i64 (Po.takeSt T e 3 st).f.2.1) (.int .i64 (Po.takeSt T e 3 st).f.2.2) (.bool x.any) (.string x.name) (.int .i64 x.n) (.int .i64 x.line) (.int .i64 x.col)
    refine bodyPost_ret (v := .tuple #[.agg (rdArr (.slice q m dd) e (Po.takeSt T e 3 st)), .agg (whoArr x)]) (results_blk2 (p := 6) (q := 7) (ty := 48) (tz := 37) rfl _ _ p1 48 _ p2 37 _ rfl rfl (Blk.drew g1) (Blk.drew g2) Tryz.underlying48 rfl (by kernel_rfl) Tryz.underlying37 rfl (by kernel_rfl)) rfl ⟨?_, g3.drew⟩
    rw [e1.out, e2.out]
    exact ⟨_, rfl, hL.out⟩

theorem rrwho_any {w0 w : World} {L : Value} {T : List Lx.Tok} {st : Po.St} (e : Nat × Nat) (h : RRd w0 L T st) (hw0 : Below w0.heap.size w0 w) (s : ByteArray) (b : Bool) :
    Calls Tryz.prog 37 #[.agg (rdArr L e st), .string s, .bool b] w fun en w' => WhoBack w0 T e (Po.wV T e s.data.toList b st) (Po.wS T e s.data.toList b st) en ∧ Below w.heap.size w w' := by
  cases hi : Po.is T s.data.toList st with
  | true => exact rrwho_all e h hw0 s b hi
  | false =>
    cases hb : b with
    | false => exact hb ▸ rrwho_text e h hw0 s b hi hb
    | true =>
      cases hn : Po.headName T st with
      | true => exact hb ▸ rrwho_name e h hw0 s b hi hb hn
      | false => exact hb ▸ rrwho_num e h hw0 s b hi hb hn

end Go.Proofs.YtelphkhacadfaaaGreat
