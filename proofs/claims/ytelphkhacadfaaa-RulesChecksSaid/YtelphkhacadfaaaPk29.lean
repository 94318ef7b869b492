/-
  The walk of the document's own Same: rows of rules that are alike.
  The walk of RulesChecks.
  What comes in, read: declarations.
  What comes in, read: a law's own Who; what a law's answer 'true' is worth.
-/
import Derived.Test.YtelphkhacadfaaaPk14
import Derived.Test.YtelphkhacadfaaaPk28
import Derived.Test.YtelphkhacadfaaaPk20
import Derived.Lib.QuietBelow

namespace Go.Proofs.Ytelphkhacadfaaa
open Go.RowKit Go.Sort

set_option maxRecDepth 100000 in
set_option maxHeartbeats 4000000 in
theorem rsame_any {w : World} {v1 v2 : Value} {l : List Ru.Rule} (h1 : RSl w v1 l) (h2 : RSl w v2 l) (hn : l.length ≤ 140737488355328) :
    Calls Try.prog 10 #[v1, v2] w fun e w' => e = .returned (.bool true) ∧ Below w.heap.size w w' := by
  have hshape : ∀ {v : Value}, RSl w v l → ∃ p c, v = .slice p l.length c := fun h => by
    rcases h with ⟨rfl, rfl⟩ | ⟨g, off, cap, rfl, _⟩
    · exact ⟨_, _, rfl⟩
    · exact ⟨_, _, rfl⟩
  obtain ⟨p1, c1, rfl⟩ := hshape h1
  obtain ⟨p2, c2, rfl⟩ := hshape h2
  have hP : ∀ {p : Option Addr} {c : Nat}, RSl w (.slice p l.length c) l → 0 < l.length → ∃ g off, p = some ⟨g, off, none⟩ ∧ RRow w g off c l := fun h hpos => by
    rcases h with ⟨_, h0⟩ | ⟨g, off, cap, hv, hr⟩
    · rw [h0] at hpos; simp at hpos
    · cases hv; exact ⟨g, off, rfl, hr⟩
  have hP1 := hid (hP h1)
  have hP2 := hid (hP h2)
  clear h1 h2 hshape hP
  go_enter Try.func10, Try.ntmps10
  go_wp2_with fail
  go_loopw [5] (fun u wr => ∃ i : Nat, u = .int .i64 i ∧ i ≤ l.length ∧ Below w.heap.size w wr) (fun u _ => l.length - (intOf u).toNat)
  case atStart => exact ⟨0, rfl, Nat.zero_le _, Below.refl _ _⟩
  case round =>
    obtain ⟨i, rfl, hle, hQ⟩ := hrel
    have Q0 := hid hQ
    clear hQ
    by_cases hlt : i < l.length
    · obtain ⟨g1, o1, rfl, r1⟩ := hP1.out (by omega)
      obtain ⟨g2, o2, rfl, r2⟩ := hP2.out (by omega)
      obtain ⟨x1, s1⟩ := r1.at Q0.out hlt
      obtain ⟨x2, s2⟩ := r2.at Q0.out hlt
      generalize l[i] = r at *
      have S1 := hid s1
      have z1 := balloc wr (.cells (ruleArr r x1) 36)
      have hat2 : Hid ((wr.alloc (.cells (ruleArr r x1) 36)).rangeAt g2 (o2 + i * 7) (ruleArr r x2).toList) := hid (fun j u hj => (z1.cell (p := ⟨g2, o2 + i * 7 + j, none⟩) (Nat.lt_of_lt_of_le r2.lt Q0.out.size)).trans (s2.at_ j u hj))
      have ho1 := hid s1.one
      have ho2 := hid s2.one
      have Q1 := hid (bthen Q0.out z1)
      have A1 := hid (Blk.new wr (ruleArr r x1) 36)
      have R1a := hid (s1.box.ext z1)
      have R2a := hid (s2.box.ext z1)
      have hfew := hid s1.few
      clear s1 s2 r1 r2 z1
      go_upto_region 7 with (first | (refine wpList_load_at rfl 36 (.tmp 21) rfl 22 rfl g1 (o1 + i * 7) (ruleArr r x1) (S1.out.at_) rfl Try.underlying36 rfl (by kernel_rfl) ?_) | (refine wpList_store_new rfl 36 (.tmp 6) (.tmp 22) rfl rfl wr 36 _ (ruleArr r x1) rfl rfl rfl (by kernel_rfl) rfl (ho1.out) ?_))
      clear S1
      generalize wr.alloc (.cells (ruleArr r x1) 36) = w1 at *
      generalize wr.heap.size = ba at *
      have z2 := balloc w1 (.cells (ruleArr r x2) 36)
      have A2 := hid (A1.out.ext z2)
      have B2 := hid (Blk.new w1 (ruleArr r x2) 36)
      have Q2 := hid (bthen Q1.out z2)
      have R1 := hid (R1a.out.ext z2)
      have R2 := hid (R2a.out.ext z2)
      clear z2 R1a R2a A1 Q1
      go_upto_region 8 with (first | (refine wpList_load_at rfl 36 (.tmp 25) rfl 26 rfl g2 (o2 + i * 7) (ruleArr r x2) (hat2.out) rfl Try.underlying36 rfl (by kernel_rfl) ?_) | (refine wpList_store_new rfl 36 (.tmp 7) (.tmp 26) rfl rfl w1 36 _ (ruleArr r x2) rfl rfl rfl (by kernel_rfl) rfl (ho2.out) ?_))
      clear hat2 ho1 ho2
      generalize w1.alloc (.cells (ruleArr r x2) 36) = w2 at *
      obtain ⟨q1, d1, rfl⟩ := R1.out.shape
      obtain ⟨q2, d2, rfl⟩ := R2.out.shape
      have a0 := A2.out.cell 0 (v := .int .i64 r.kind) rfl
      have a1 := A2.out.cell 1 (v := .int .i64 r.roles) rfl
      have a2 := A2.out.cell 2 (v := .int .i64 r.lo) rfl
      have a3 := A2.out.cell 3 (v := .int .i64 r.hi) rfl
      have a4 := A2.out.cell 4 (v := .int .i64 r.labels) rfl
      have a5 := A2.out.cell 5 (v := .slice q1 r.boxes.length d1) rfl
      have a6 := A2.out.cell 6 (v := .int .i64 r.zoom) rfl
      have b0 := B2.out.cell 0 (v := .int .i64 r.kind) rfl
      have b1 := B2.out.cell 1 (v := .int .i64 r.roles) rfl
      have b2 := B2.out.cell 2 (v := .int .i64 r.lo) rfl
      have b3 := B2.out.cell 3 (v := .int .i64 r.hi) rfl
      have b4 := B2.out.cell 4 (v := .int .i64 r.labels) rfl
      have b5 := B2.out.cell 5 (v := .slice q2 r.boxes.length d2) rfl
      have b6 := B2.out.cell 6 (v := .int .i64 r.zoom) rfl
      go_wp2_with fail
      refine (samerects_any R1.out R2.out hfew.out).mono ?_
      rintro e w3 ⟨rfl, hb3⟩
      have Q3 := hid (bthen Q2.out hb3)
      clear hb3 a0 a1 a2 a3 a4 a5 a6 b0 b1 b2 b3 b4 b5 b6
      go_wp2_with fail
      go_roundw
      case rel => exact ⟨i + 1, by go_num, by omega, Q3.out⟩
      case measure => simp [intOf]; omega
    · obtain rfl : i = l.length := by omega
      go_wp2_with fail
      go_ret
      exact ⟨rfl, Q0.out⟩

end Go.Proofs.Ytelphkhacadfaaa

namespace Go.Proofs.Ytelphkhacadfaaa
open Go.RowKit Go.Sort Go.Maps

/-- the rules of declarations, none at a fault; the fault -/
def outRs (l : List Po.Decl) : List Ru.Rule := match Ru.checkV l with | .ok rs => rs | .error _ => []
def outFt (l : List Po.Decl) : Ru.F3 := match Ru.checkV l with | .ok _ => (0, 0, 0) | .error f => f
theorem check_out {B : Nat} {l : List Po.Decl} {e : Ending} {w' : World} (h : CheckPost B l e w') :
    ∃ v, e = .returned (.tuple #[v, .agg #[.int .i64 (outFt l).1, .int .i64 (outFt l).2.1, .int .i64 (outFt l).2.2]]) ∧ (∀ w'', Above B w' w'' → RSl w'' v (outRs l)) ∧ (outRs l).length ≤ 33 := by
  unfold CheckPost at h
  unfold outRs outFt
  cases hc : Ru.checkV l with
  | ok rs => rw [hc] at h; exact h
  | error f =>
    obtain ⟨er, x, y⟩ := f
    rw [hc] at h
    exact ⟨_, h, fun w'' _ => .inl ⟨rfl, rfl⟩, by simp⟩
theorem rcheck_out {l : List Po.Decl} {e : Ending} {w' : World} (h : RCheckPost l w' e) :
    ∃ v, e = .returned (.tuple #[v, .agg #[.int .i64 (outFt l).1, .int .i64 (outFt l).2.1, .int .i64 (outFt l).2.2]]) ∧ RSl w' v (outRs l) := by
  unfold RCheckPost at h
  rw [Ru.rcheck_eq] at h
  unfold outRs outFt
  cases hc : Ru.checkV l with
  | ok rs => rw [hc] at h; obtain ⟨v, h1, h2, _⟩ := h; exact ⟨v, h1, h2⟩
  | error f =>
    obtain ⟨er, x, y⟩ := f
    rw [hc] at h
    obtain ⟨k, h1, h2⟩ := h
    exact ⟨_, h1, .inr ⟨k, 0, 0, rfl, Nat.le_refl _, h2, fun i hi => by simp at hi⟩⟩

set_option maxRecDepth 100000 in
set_option maxHeartbeats 4000000 in
theorem checks_walk {w : World} {v : Value} {l : List Po.Decl} (h : DSl w v l) (hn : l.length ≤ 140737488355328) (hs : ∀ d ∈ l, DSmall d) :
    Calls Try.prog 3 #[v] w fun e w' => e = .returned (.bool true) ∧ Below w.heap.size w w' := by
  have hfin' : Hid (∀ w1 : World, Below w.heap.size w w1 → Calls Try.prog 7 #[] w1 fun e w' => e = .returned (.bool true) ∧ Below w.heap.size w w') := hid (fun w1 h1 => (known_any _).mono fun e w' ⟨h2, h3⟩ => ⟨h2, h1.trans (h3.mono h1.size)⟩)
  have hc1 := hid (check_any h hn hs)
  have hc2 : Hid (∀ w1 : World, Below w.heap.size w w1 → Calls Try.prog 9 #[v] w1 fun e w' => RCheckPost l w' e ∧ Below w1.heap.size w1 w') := hid (fun w1 h1 => rcheck_any (h.ext h1) hn hs)
  obtain ⟨vp, vc, rfl⟩ := h.shape
  clear h hs
  by_cases hL : 100 < l.length
  · go_enter Try.func3, Try.ntmps3
    go_wp2_with fail
    refine (hfin'.out _ (Below.refl _ _)).mono ?_
    rintro e w2 ⟨rfl, hb2⟩
    have Q2 := hid hb2
    clear hb2
    go_wp2_with fail
    go_ret
    exact ⟨rfl, Q2.out⟩
  have hd1 : decide ((100 : Int) < l.length) = false := decide_eq_false (by omega)
  clear hL
  go_enter Try.func3, Try.ntmps3
  go_wp2_with fail
  refine hc1.out.mono ?_
  rintro e w1 ⟨hp, hb1⟩
  obtain ⟨v1, rfl, hr1, hlen⟩ := check_out hp
  have hco := hid (fun (e : Ending) (w' : World) (hp : RCheckPost l w' e) => rcheck_out hp)
  generalize outRs l = rs at *
  generalize outFt l = F at *
  obtain ⟨er, x, y⟩ := F
  simp only at hco
  have Q1 := hid (bthen hb1 (balloc w1 (.cells #[.int .i64 er, .int .i64 x, .int .i64 y] 29)))
  have B1 := hid (Blk.new w1 #[.int .i64 er, .int .i64 x, .int .i64 y] 29)
  have R1 := hid (hr1 w1 ⟨Nat.le_refl _, fun _ _ _ => rfl⟩)
  clear hp hr1 hb1 hc1
  go_wp2_with fail
  refine (hc2.out _ Q1.out).mono ?_
  rintro e w2 ⟨hp, hb2⟩
  obtain ⟨v2, rfl, hr2⟩ := hco.out _ _ hp
  have z2 := balloc w2 (.cells #[.int .i64 er, .int .i64 x, .int .i64 y] 29)
  have B2 := hid ((B1.out.ext hb2).ext z2)
  have C2 := hid (Blk.new w2 #[.int .i64 er, .int .i64 x, .int .i64 y] 29)
  have R2 := hid (((R1.out.ext (balloc w1 (.cells #[.int .i64 er, .int .i64 x, .int .i64 y] 29))).ext hb2).ext z2)
  have S2 := hid (hr2.ext z2)
  have Q2 := hid (bthen (bthen Q1.out hb2) z2)
  clear hp hr2 hb2 hco hc2 B1 R1 Q1 z2
  go_wp2_with fail
  refine (rsame_any R2.out S2.out (by omega)).mono ?_
  rintro e w3 ⟨rfl, hb3⟩
  have Q3 := hid (bthen Q2.out hb3)
  obtain ⟨b0, b1, b2, bf, bz⟩ := (B2.out.ext hb3).three
  obtain ⟨g0, g1, g2, gf, gz⟩ := (C2.out.ext hb3).three
  clear hb3
  go_wp2_with fail
  refine (hfin'.out _ Q3.out).mono ?_
  rintro e w4 ⟨rfl, hb4⟩
  have Q4 := hid hb4
  clear hb4
  go_wp2_with fail
  go_ret
  exact ⟨rfl, Q4.out⟩

end Go.Proofs.Ytelphkhacadfaaa

namespace Go.Proofs.Ytelphkhacadfaaa
open Go.ChangeShapes Go.WideShapes Go.RowKit

section
variable {H : Type} {enc : TypeId × Value → H} {w : World} {base : Nat} {spare : Nat → Bool} {held : Bool} {fuel : Nat} {x : DataW H × List MemPlace}
instance : Inhabited Po.Who := ⟨⟨false, ⟨#[]⟩, 0, 0, 0⟩⟩
instance : Inhabited Po.Decl := ⟨⟨0, ⟨#[]⟩, 0, [], default, 0, 0, default, default, 0, 0, 0⟩⟩
theorem cellsStr : Try.prog.cellsOf 9 = 1 := by kernel_rfl
theorem cellsBool : Try.prog.cellsOf 4 = 1 := by kernel_rfl
theorem cellsPos : Try.prog.cellsOf 27 = 2 := by kernel_rfl
theorem cellsWho : Try.prog.cellsOf 58 = 5 := by kernel_rfl
theorem cellsDecl : Try.prog.cellsOf 60 = 24 := by kernel_rfl
theorem bytesDecl : 200 ≤ Try.prog.bytesOf 60 := of_decide_eq_true (by kernel_rfl)
theorem rd_str {v : Value} (h : DataW.trod enc Try.prog w base spare held fuel 9 [v] = some x) (hs : Within Try.prog 9 x.1) : ∃ s : ByteArray, v = .string s ∧ s.size ≤ 140737488355328 := by
  obtain ⟨s, h1, h2, _⟩ := DataW.trod_string Try.underlying9 h
  refine ⟨s, by simpa using h1, ?_⟩
  have h3 := hs s.data.toList.length (by rw [h2]; simp [DataW.weights])
  rw [Array.length_toList] at h3
  unfold reachBytes at h3
  have : s.size = s.data.size := rfl
  omega
theorem rd_bool {v : Value} (h : DataW.trod enc Try.prog w base spare held fuel 4 [v] = some x) : ∃ b, v = .bool b := by
  obtain ⟨b, h1, _⟩ := DataW.trod_bool Try.underlying4 h
  exact ⟨b, by simpa using h1⟩
set_option maxRecDepth 100000 in
theorem rd_pos {cs : List Value} (h : DataW.trod enc Try.prog w base spare held fuel 27 cs = some x) : ∃ p q, cs = [.int .i64 p, .int .i64 q] := by
  obtain ⟨hl, parts, n, _, hp⟩ := struct_part Try.underlying27 h
  rw [cellsPos] at hl
  obtain ⟨y0, h0, p0⟩ := hp 0 _ rfl
  obtain ⟨y1, h1, p1⟩ := hp 1 _ rfl
  have h0 : DataW.trod enc Try.prog w base spare held n 3 ((cs.drop 0).take (Try.prog.cellsOf 3)) = some y0 := h0
  have h1 : DataW.trod enc Try.prog w base spare held n 3 ((cs.drop 1).take (Try.prog.cellsOf 3)) = some y1 := h1
  simp only [cellsInt] at h0 h1
  match cs, hl with
  | [a, b], _ =>
    obtain ⟨n0, rfl⟩ := rd_int h0
    obtain ⟨n1, rfl⟩ := rd_int h1
    exact ⟨n0, n1, rfl⟩
set_option maxRecDepth 100000 in
theorem rd_who {cs : List Value} (h : DataW.trod enc Try.prog w base spare held fuel 58 cs = some x) (hs : Within Try.prog 58 x.1) : ∃ u : Po.Who, cs = (whoArr u).toList ∧ u.name.size ≤ 140737488355328 := by
  obtain ⟨hl, parts, n, hx1, hp⟩ := struct_part Try.underlying58 h
  rw [hx1] at hs
  rw [cellsWho] at hl
  obtain ⟨y0, h0, p0⟩ := hp 0 _ rfl
  obtain ⟨y1, h1, p1⟩ := hp 1 _ rfl
  obtain ⟨y2, h2, p2⟩ := hp 2 _ rfl
  obtain ⟨y3, h3, p3⟩ := hp 3 _ rfl
  have h0 : DataW.trod enc Try.prog w base spare held n 4 ((cs.drop 0).take (Try.prog.cellsOf 4)) = some y0 := h0
  have h1 : DataW.trod enc Try.prog w base spare held n 9 ((cs.drop 1).take (Try.prog.cellsOf 9)) = some y1 := h1
  have h2 : DataW.trod enc Try.prog w base spare held n 3 ((cs.drop 2).take (Try.prog.cellsOf 3)) = some y2 := h2
  have h3 : DataW.trod enc Try.prog w base spare held n 27 ((cs.drop 3).take (Try.prog.cellsOf 27)) = some y3 := h3
  have s1 : Within Try.prog 9 y1.1 := hs.struct Try.underlying58 (i := 1) rfl p1
  simp only [cellsInt, cellsBool, cellsStr, cellsPos] at h0 h1 h2 h3
  match cs, hl with
  | [a, b, c, d, e], _ =>
    obtain ⟨n0, rfl⟩ := rd_bool (v := a) h0
    obtain ⟨n1, rfl, hn1⟩ := rd_str (v := b) h1 s1
    obtain ⟨n2, rfl⟩ := rd_int (v := c) h2
    obtain ⟨l, k, hlk⟩ := rd_pos (cs := [d, e]) h3
    cases hlk
    exact ⟨⟨n0, n1, n2, l, k⟩, rfl, hn1⟩
set_option maxRecDepth 100000 in
theorem rd_decl {cs : List Value} (h : DataW.trod enc Try.prog w base spare held fuel 60 cs = some x) (hs : Within Try.prog 60 x.1) : ∃ (d : Po.Decl) (v : Value), cs = (declCells d v).toList ∧ BRow w v d.boxes ∧ DSmall d := by
  obtain ⟨hl, parts, n, hx1, hp⟩ := struct_part Try.underlying60 h
  rw [hx1] at hs
  rw [cellsDecl] at hl
  obtain ⟨y0, h0, p0⟩ := hp 0 _ rfl
  obtain ⟨y1, h1, p1⟩ := hp 1 _ rfl
  obtain ⟨y2, h2, p2⟩ := hp 2 _ rfl
  obtain ⟨y3, h3, p3⟩ := hp 3 _ rfl
  obtain ⟨y4, h4, p4⟩ := hp 4 _ rfl
  obtain ⟨y5, h5, p5⟩ := hp 5 _ rfl
  obtain ⟨y6, h6, p6⟩ := hp 6 _ rfl
  obtain ⟨y7, h7, p7⟩ := hp 7 _ rfl
  obtain ⟨y8, h8, p8⟩ := hp 8 _ rfl
  obtain ⟨y9, h9, p9⟩ := hp 9 _ rfl
  obtain ⟨y10, h10, p10⟩ := hp 10 _ rfl
  have h0 : DataW.trod enc Try.prog w base spare held n 3 ((cs.drop 0).take (Try.prog.cellsOf 3)) = some y0 := h0
  have h1 : DataW.trod enc Try.prog w base spare held n 9 ((cs.drop 1).take (Try.prog.cellsOf 9)) = some y1 := h1
  have h2 : DataW.trod enc Try.prog w base spare held n 3 ((cs.drop 2).take (Try.prog.cellsOf 3)) = some y2 := h2
  have h3 : DataW.trod enc Try.prog w base spare held n 34 ((cs.drop 3).take (Try.prog.cellsOf 34)) = some y3 := h3
  have h4 : DataW.trod enc Try.prog w base spare held n 58 ((cs.drop 4).take (Try.prog.cellsOf 58)) = some y4 := h4
  have h5 : DataW.trod enc Try.prog w base spare held n 3 ((cs.drop 9).take (Try.prog.cellsOf 3)) = some y5 := h5
  have h6 : DataW.trod enc Try.prog w base spare held n 3 ((cs.drop 10).take (Try.prog.cellsOf 3)) = some y6 := h6
  have h7 : DataW.trod enc Try.prog w base spare held n 58 ((cs.drop 11).take (Try.prog.cellsOf 58)) = some y7 := h7
  have h8 : DataW.trod enc Try.prog w base spare held n 58 ((cs.drop 16).take (Try.prog.cellsOf 58)) = some y8 := h8
  have h9 : DataW.trod enc Try.prog w base spare held n 3 ((cs.drop 21).take (Try.prog.cellsOf 3)) = some y9 := h9
  have h10 : DataW.trod enc Try.prog w base spare held n 27 ((cs.drop 22).take (Try.prog.cellsOf 27)) = some y10 := h10
  have s1 : Within Try.prog 9 y1.1 := hs.struct Try.underlying60 (i := 1) rfl p1
  have s3 : Within Try.prog 34 y3.1 := hs.struct Try.underlying60 (i := 3) rfl p3
  have s4 : Within Try.prog 58 y4.1 := hs.struct Try.underlying60 (i := 4) rfl p4
  have s7 : Within Try.prog 58 y7.1 := hs.struct Try.underlying60 (i := 7) rfl p7
  have s8 : Within Try.prog 58 y8.1 := hs.struct Try.underlying60 (i := 8) rfl p8
  simp only [cellsInt, cellsStr, cellsPos, cellsWho, cellsRects] at h0 h1 h2 h3 h4 h5 h6 h7 h8 h9 h10
  match cs, hl with
  | [c0, c1, c2, c3, c4, c5, c6, c7, c8, c9, c10, c11, c12, c13, c14, c15, c16, c17, c18, c19, c20, c21, c22, c23], _ =>
    obtain ⟨n0, rfl⟩ := rd_int (v := c0) h0
    obtain ⟨n1, rfl, hn1⟩ := rd_str (v := c1) h1 s1
    obtain ⟨n2, rfl⟩ := rd_int (v := c2) h2
    obtain ⟨l, hb, hbl⟩ := rd_rects (v := c3) h3 s3
    obtain ⟨u4, e4, hu4⟩ := rd_who (cs := [c4, c5, c6, c7, c8]) h4 s4
    obtain ⟨n5, rfl⟩ := rd_int (v := c9) h5
    obtain ⟨n6, rfl⟩ := rd_int (v := c10) h6
    obtain ⟨u7, e7, hu7⟩ := rd_who (cs := [c11, c12, c13, c14, c15]) h7 s7
    obtain ⟨u8, e8, hu8⟩ := rd_who (cs := [c16, c17, c18, c19, c20]) h8 s8
    obtain ⟨n9, rfl⟩ := rd_int (v := c21) h9
    obtain ⟨p, q, e10⟩ := rd_pos (cs := [c22, c23]) h10
    cases e4
    cases e7
    cases e8
    cases e10
    exact ⟨⟨n0, n1, n2, l, u4, n5, n6, u7, u8, n9, p, q⟩, c3, rfl, hb, ⟨hn1, hu4, hu7, hu8, hbl⟩⟩
set_option maxRecDepth 100000 in
theorem rd_decls {v : Value} {d : DataW H} {ps : List MemPlace} (hval : Value.okWide Try.prog w .any base 22 v) (h : DataW.Trod enc Try.prog w 0 spare held 22 v d ps) (hs : Within Try.prog 22 d) :
    ∃ l : List Po.Decl, DSl w v l ∧ l.length ≤ 140737488355328 ∧ ∀ r ∈ l, DSmall r := by
  obtain ⟨va, vl, vc, rfl⟩ := okWide_slice Try.underlying22 hval
  obtain ⟨fuel, hf⟩ := h
  have hcl : (Value.slice va vl vc).cells.toList = [.slice va vl vc] := by simp [Value.cells]
  rw [hcl] at hf
  rcases Go.Deep.open_slice Try.underlying22 hf with ⟨hcs, _⟩ | ⟨a, len, cap, m, n, D, Pl, hcs, hb, hl, hm, hmm, hd, hx⟩
  · simp only [List.cons.injEq, and_true] at hcs
    exact ⟨[], .inl ⟨hcs, rfl⟩, by simp, by simp⟩
  · simp only [List.cons.injEq, and_true] at hcs
    obtain ⟨rfl, rfl, rfl⟩ : some a = va ∧ len = vl ∧ cap = vc := by simp only [Value.slice.injEq] at hcs; exact ⟨hcs.1.symm, hcs.2.1.symm, hcs.2.2.symm⟩
    have hd1 := congrArg Prod.fst hd
    simp only at hd1
    subst hd1
    obtain ⟨hbytes, hel⟩ := hs.slice Try.underlying22
    have hlen : len * 200 ≤ reachBytes := Nat.le_trans (Nat.mul_le_mul_left len bytesDecl) (by simpa using hbytes)
    clear hbytes
    rw [cellsDecl] at hx
    by_cases h0 : len = 0
    · subst h0
      have hval' := hval
      simp only [Value.okWide, Try.underlying22, Cell.okWide, Cell.ok] at hval'
      obtain ⟨_, _, hhas⟩ := hval'
      obtain ⟨_, hsp, row, cells, hshape, _⟩ := hhas
      obtain ⟨g, off, sp⟩ := a
      simp only at hsp hshape
      subst hsp
      refine ⟨[], .inr ⟨g, off, cap, rfl, Nat.zero_le _, ?_, fun i hi => by simp at hi⟩, by simp, by simp⟩
      unfold World.shape? at hshape
      rcases Nat.lt_or_ge g w.heap.size with hlt | hge
      · exact hlt
      · rw [Array.getElem?_eq_none hge] at hshape; cases hshape
    · have hml : len ≤ m := by rw [hmm]; split <;> omega
      obtain ⟨f, hf2⟩ := Go.Deep.choose_lt (α := Po.Decl × Value) (n := len) (p := fun i q => w.cells? 0 (a.add (i * 24)) 24 = some (declCells q.1 q.2).toList ∧ BRow w q.2 q.1.boxes ∧ DSmall q.1) (fun i hi => by
        obtain ⟨cs', h1, h2⟩ := hx i (by omega)
        obtain ⟨r, v, rfl, h3, h4⟩ := rd_decl h2 (hel (D i) (List.mem_map.2 ⟨i, List.mem_range.2 hi, rfl⟩))
        exact ⟨(r, v), h1, h3, h4⟩)
      obtain ⟨g, off, rfl, hg, hr⟩ := rows_at (by omega) (by decide) (fun i => (declCells (f i).1 (f i).2).toList) (fun i hi => (hf2 i hi).1)
      refine ⟨(List.range len).map fun i => (f i).1, .inr ⟨g, off, cap, by simp, by simpa using hl, hg, fun i hi => ?_⟩, by simp only [List.length_map, List.length_range]; unfold reachBytes at hlen; omega, fun r hr' => ?_⟩
      · simp only [List.length_map, List.length_range] at hi
        obtain ⟨_, h3, h4⟩ := hf2 i hi
        simp only [List.getElem_map, List.getElem_range]
        exact ⟨(f i).2, (hr i hi).2, h3⟩
      · obtain ⟨i, hi, rfl⟩ := List.mem_map.1 hr'
        exact (hf2 i (List.mem_range.1 hi)).2.2
theorem readDecls : Try.prog.readableRec 22 = true ∧ 22 < Try.prog.types.size := ⟨by kernel_rfl, of_decide_eq_true (by kernel_rfl)⟩
end

end Go.Proofs.Ytelphkhacadfaaa

namespace Go.Proofs.Ytelphkhacadfaaa
open Go.ChangeShapes Go.WideShapes Go.RowKit

section
variable {H : Type} {enc : TypeId × Value → H} {w : World} {base : Nat} {spare : Nat → Bool} {held : Bool} {fuel : Nat} {x : DataW H × List MemPlace}
theorem cellsPoint : Try.prog.cellsOf 38 = 2 := by kernel_rfl
theorem cellsLw : Try.prog.cellsOf 40 = 5 := by kernel_rfl
set_option maxRecDepth 100000 in
theorem rd_point {cs : List Value} (h : DataW.trod enc Try.prog w base spare held fuel 38 cs = some x) : ∃ p q, cs = [.int .i64 p, .int .i64 q] := by
  obtain ⟨hl, parts, n, _, hp⟩ := struct_part Try.underlying38 h
  rw [cellsPoint] at hl
  obtain ⟨y0, h0, _⟩ := hp 0 _ rfl
  obtain ⟨y1, h1, _⟩ := hp 1 _ rfl
  have h0 : DataW.trod enc Try.prog w base spare held n 3 ((cs.drop 0).take (Try.prog.cellsOf 3)) = some y0 := h0
  have h1 : DataW.trod enc Try.prog w base spare held n 3 ((cs.drop 1).take (Try.prog.cellsOf 3)) = some y1 := h1
  simp only [cellsInt] at h0 h1
  match cs, hl with
  | [a, b], _ =>
    obtain ⟨n0, rfl⟩ := rd_int h0
    obtain ⟨n1, rfl⟩ := rd_int h1
    exact ⟨n0, n1, rfl⟩
set_option maxRecDepth 100000 in
theorem rd_lwho {v : Value} {d : DataW H} {ps : List MemPlace} (hval : Value.okWide Try.prog w .any base 40 v) (h : DataW.Trod enc Try.prog w 0 spare held 40 v d ps) : ∃ role tier label px py, v = .agg (lwArr role tier label px py) := by
  obtain ⟨cs, rfl, hcs⟩ := okWide_struct Try.underlying40 hval
  obtain ⟨fuel, hf⟩ := h
  have hcl : (Value.agg cs).cells.toList = cs.toList := by simp [Value.cells]
  rw [hcl] at hf
  obtain ⟨hl, parts, n, _, hp⟩ := struct_part Try.underlying40 hf
  rw [cellsLw] at hl
  obtain ⟨y0, h0, _⟩ := hp 0 _ rfl
  obtain ⟨y1, h1, _⟩ := hp 1 _ rfl
  obtain ⟨y2, h2, _⟩ := hp 2 _ rfl
  obtain ⟨y3, h3, _⟩ := hp 3 _ rfl
  have h0 : DataW.trod enc Try.prog w 0 spare held n 3 ((cs.toList.drop 0).take (Try.prog.cellsOf 3)) = some y0 := h0
  have h1 : DataW.trod enc Try.prog w 0 spare held n 3 ((cs.toList.drop 1).take (Try.prog.cellsOf 3)) = some y1 := h1
  have h2 : DataW.trod enc Try.prog w 0 spare held n 3 ((cs.toList.drop 2).take (Try.prog.cellsOf 3)) = some y2 := h2
  have h3 : DataW.trod enc Try.prog w 0 spare held n 38 ((cs.toList.drop 3).take (Try.prog.cellsOf 38)) = some y3 := h3
  simp only [cellsInt, cellsPoint] at h0 h1 h2 h3
  obtain ⟨cl⟩ := cs
  simp only at h0 h1 h2 h3 hl
  match cl, hl with
  | [a, b, c, e, f], _ =>
    obtain ⟨n0, rfl⟩ := rd_int h0
    obtain ⟨n1, rfl⟩ := rd_int h1
    obtain ⟨n2, rfl⟩ := rd_int h2
    obtain ⟨p, q, hpq⟩ := rd_point h3
    simp only [List.drop_succ_cons, List.drop_zero, List.take_succ_cons, List.take_zero, List.cons.injEq, and_true] at hpq
    obtain ⟨rfl, rfl⟩ := hpq
    exact ⟨n0, n1, n2, p, q, rfl⟩
set_option maxRecDepth 100000 in
theorem rd_rule1 {v : Value} {d : DataW H} {ps : List MemPlace} (hval : Value.okWide Try.prog w .any base 36 v) (h : DataW.Trod enc Try.prog w 0 spare held 36 v d ps) (hs : Within Try.prog 36 d) : ∃ r rv, v = .agg (ruleArr r rv) ∧ BRow w rv r.boxes ∧ r.boxes.length * 32 ≤ 140737488355328 := by
  obtain ⟨cs, rfl, hcs⟩ := okWide_struct Try.underlying36 hval
  obtain ⟨fuel, hf⟩ := h
  have hcl : (Value.agg cs).cells.toList = cs.toList := by simp [Value.cells]
  rw [hcl] at hf
  obtain ⟨r, rv, h1, h2, h3, _⟩ := rd_rule hf hs
  exact ⟨r, rv, by rw [Array.toList_inj.1 h1], h2, h3⟩
theorem readRule : Try.prog.readableRec 36 = true ∧ 36 < Try.prog.types.size := ⟨by kernel_rfl, of_decide_eq_true (by kernel_rfl)⟩
theorem laid : laidOutB Try.prog = true := by kernel_rfl
theorem readInt : Try.prog.readableRec 3 = true ∧ 3 < Try.prog.types.size := ⟨by kernel_rfl, of_decide_eq_true (by kernel_rfl)⟩
theorem readRules : Try.prog.readableRec 24 = true ∧ 24 < Try.prog.types.size := ⟨by kernel_rfl, of_decide_eq_true (by kernel_rfl)⟩
theorem readLw : Try.prog.readableRec 40 = true ∧ 40 < Try.prog.types.size := ⟨by kernel_rfl, of_decide_eq_true (by kernel_rfl)⟩
end

end Go.Proofs.Ytelphkhacadfaaa
