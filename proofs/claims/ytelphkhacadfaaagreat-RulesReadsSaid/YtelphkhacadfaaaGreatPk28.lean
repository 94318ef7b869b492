/-
  The walk of the document's own Same: rows of rules that are alike.
  The walk of RulesChecks.
  The document's own reader of policies, a value: is, place, on, wrong, want.
  The document's own reader of policies: want, of.
  The document's own reader of policies: of.
-/
import Derived.Test.YtelphkhacadfaaaGreatPk13
import Derived.Test.YtelphkhacadfaaaGreatPk07
import Derived.Test.YtelphkhacadfaaaGreatPk27
import Derived.Test.YtelphkhacadfaaaGreatPk19
import Derived.Lib.QuietBelow
import Derived.Test.YtelphkhacadfaaaGreatPk04
import Derived.Test.YtelphkhacadfaaaGreatPk06
import Derived.Test.YtelphkhacadfaaaGreatPk16

namespace Go.Proofs.YtelphkhacadfaaaGreat
open Go.RowKit Go.Sort

set_option maxRecDepth 100000 in
set_option maxHeartbeats 4000000 in
theorem rsame_any {w : World} {v1 v2 : Value} {l : List Ru.Rule} (h1 : RSl w v1 l) (h2 : RSl w v2 l) (hn : l.length ≤ 140737488355328) :
    Calls Tryz.prog 8 #[v1, v2] w fun e w' => e = .returned (.bool true) ∧ Below w.heap.size w w' := by
  have hshape : ∀ {v : Value}, RSl w v l → ∃ p c, v = .slice p l.length c := fun h => by
    rcases h with ⟨rfl, rfl⟩ | ⟨g, off, cap, rfl, _⟩
    · exact ⟨_, _, rfl⟩
    · exact ⟨_, _, rfl⟩
  obtain ⟨p1, c1, rfl⟩ := hshape h1
  obtain ⟨p2, c2, rfl⟩ := hshape h2
  have hP : ∀ {p : Option Addr} {c : Nat}, RSl w (.slice p l.length c) l → 0 < l.length → ∃ g off, p = some ⟨g, off, none⟩ ∧ RRow w g off c l := fun h hpos => by
    rcases h with ⟨_, h0⟩ | ⟨g, off, cap, hv, hr⟩
    · rw [h0] at hpos; simp at hpos
    · cases hv; exact ⟨g, off, rfl, hr⟩
  have hP1 := hid (hP h1)
  have hP2 := hid (hP h2)
  clear h1 h2 hshape hP
  go_enter Tryz.func8, Tryz.ntmps8
  go_wp2_with fail
  go_loopw [5] (fun u wr => ∃ i : Nat, u = .int .i64 i ∧ i ≤ l.length ∧ Below w.heap.size w wr) (fun u _ => l.length - (intOf u).toNat)
  case atStart => exact ⟨0, rfl, Nat.zero_le _, Below.refl _ _⟩
  case round =>
    obtain ⟨i, rfl, hle, hQ⟩ := hrel
    have Q0 := hid hQ
    clear hQ
    by_cases hlt : i < l.length
    · obtain ⟨g1, o1, rfl, r1⟩ := hP1.out (by omega)
      obtain ⟨g2, o2, rfl, r2⟩ := hP2.out (by omega)
      obtain ⟨x1, s1⟩ := r1.at Q0.out hlt
      obtain ⟨x2, s2⟩ := r2.at Q0.out hlt
      generalize l[i] = r at *
      have S1 := hid s1
      have z1 := balloc wr (.cells (ruleArr r x1) 52)
      have hat2 : Hid ((wr.alloc (.cells (ruleArr r x1) 52)).rangeAt g2 (o2 + i * 7) (ruleArr r x2).toList) := hid (fun j u hj => (z1.cell (p := ⟨g2, o2 + i * 7 + j, none⟩) (Nat.lt_of_lt_of_le r2.lt Q0.out.size)).trans (s2.at_ j u hj))
      have ho1 := hid s1.one
      have ho2 := hid s2.one
      have Q1 := hid (bthen Q0.out z1)
      have A1 := hid (Blk.new wr (ruleArr r x1) 52)
      have R1a := hid (s1.box.ext z1)
      have R2a := hid (s2.box.ext z1)
      have hfew := hid s1.few
      clear s1 s2 r1 r2 z1
      go_upto_region 7 with (first | (refine wpList_load_at rfl 52 (.tmp 21) rfl 22 rfl g1 (o1 + i * 7) (ruleArr r x1) (S1.out.at_) rfl Tryz.underlying52 rfl (by kernel_rfl) ?_) | (refine wpList_store_new rfl 52 (.tmp 6) (.tmp 22) rfl rfl wr 52 _ (ruleArr r x1) rfl rfl rfl (by kernel_rfl) rfl (ho1.out) ?_))
      clear S1
      generalize wr.alloc (.cells (ruleArr r x1) 52) = w1 at *
      generalize wr.heap.size = ba at *
      have z2 := balloc w1 (.cells (ruleArr r x2) 52)
      have A2 := hid (A1.out.ext z2)
      have B2 := hid (Blk.new w1 (ruleArr r x2) 52)
      have Q2 := hid (bthen Q1.out z2)
      have R1 := hid (R1a.out.ext z2)
      have R2 := hid (R2a.out.ext z2)
      clear z2 R1a R2a A1 Q1
      go_upto_region 8 with (first | (refine wpList_load_at rfl 52 (.tmp 25) rfl 26 rfl g2 (o2 + i * 7) (ruleArr r x2) (hat2.out) rfl Tryz.underlying52 rfl (by kernel_rfl) ?_) | (refine wpList_store_new rfl 52 (.tmp 7) (.tmp 26) rfl rfl w1 52 _ (ruleArr r x2) rfl rfl rfl (by kernel_rfl) rfl (ho2.out) ?_))
      clear hat2 ho1 ho2
      generalize w1.alloc (.cells (ruleArr r x2) 52) = w2 at *
      obtain ⟨q1, d1, rfl⟩ := R1.out.shape
      obtain ⟨q2, d2, rfl⟩ := R2.out.shape
      have a0 := A2.out.cell 0 (v := .int .i64 r.kind) rfl
      have a1 := A2.out.cell 1 (v := .int .i64 r.roles) rfl
      have a2 := A2.out.cell 2 (v := .int .i64 r.lo) rfl
      have a3 := A2.out.cell 3 (v := .int .i64 r.hi) rfl
      have a4 := A2.out.cell 4 (v := .int .i64 r.labels) rfl
      have a5 := A2.out.cell 5 (v := .slice q1 r.boxes.length d1) rfl
      have a6 := A2.out.cell 6 (v := .int .i64 r.zoom) rfl
      have b0 := B2.out.cell 0 (v := .int .i64 r.kind) rfl
      have b1 := B2.out.cell 1 (v := .int .i64 r.roles) rfl
      have b2 := B2.out.cell 2 (v := .int .i64 r.lo) rfl
      have b3 := B2.out.cell 3 (v := .int .i64 r.hi) rfl
      have b4 := B2.out.cell 4 (v := .int .i64 r.labels) rfl
      have b5 := B2.out.cell 5 (v := .slice q2 r.boxes.length d2) rfl
      have b6 := B2.out.cell 6 (v := .int .i64 r.zoom) rfl
      go_wp2_with fail
      refine (samerects_any R1.out R2.out hfew.out).mono ?_
      rintro e w3 ⟨rfl, hb3⟩
      have Q3 := hid (bthen Q2.out hb3)
      clear hb3 a0 a1 a2 a3 a4 a5 a6 b0 b1 b2 b3 b4 b5 b6
      go_wp2_with fail
      go_roundw
      case rel => exact ⟨i + 1, by go_num, by omega, Q3.out⟩
      case measure => simp [intOf]; omega
    · obtain rfl : i = l.length := by omega
      go_wp2_with fail
      go_ret
      exact ⟨rfl, Q0.out⟩

end Go.Proofs.YtelphkhacadfaaaGreat

namespace Go.Proofs.YtelphkhacadfaaaGreat
open Go.RowKit Go.Sort Go.Maps

/-- the rules of declarations, none at a fault; the fault -/
def outRs (l : List Po.Decl) : List Ru.Rule := match Ru.checkV l with | .ok rs => rs | .error _ => []
def outFt (l : List Po.Decl) : Ru.F3 := match Ru.checkV l with | .ok _ => (0, 0, 0) | .error f => f
theorem check_out {B : Nat} {l : List Po.Decl} {e : Ending} {w' : World} (h : CheckPost B l e w') :
    ∃ v, e = .returned (.tuple #[v, .agg #[.int .i64 (outFt l).1, .int .i64 (outFt l).2.1, .int .i64 (outFt l).2.2]]) ∧ (∀ w'', Above B w' w'' → RSl w'' v (outRs l)) ∧ (outRs l).length ≤ 33 := by
  unfold CheckPost at h
  unfold outRs outFt
  cases hc : Ru.checkV l with
  | ok rs => rw [hc] at h; exact h
  | error f =>
    obtain ⟨er, x, y⟩ := f
    rw [hc] at h
    exact ⟨_, h, fun w'' _ => .inl ⟨rfl, rfl⟩, by simp⟩
theorem rcheck_out {l : List Po.Decl} {e : Ending} {w' : World} (h : RCheckPost l w' e) :
    ∃ v, e = .returned (.tuple #[v, .agg #[.int .i64 (outFt l).1, .int .i64 (outFt l).2.1, .int .i64 (outFt l).2.2]]) ∧ RSl w' v (outRs l) := by
  unfold RCheckPost at h
  rw [Ru.rcheck_eq] at h
  unfold outRs outFt
  cases hc : Ru.checkV l with
  | ok rs => rw [hc] at h; obtain ⟨v, h1, h2, _⟩ := h; exact ⟨v, h1, h2⟩
  | error f =>
    obtain ⟨er, x, y⟩ := f
    rw [hc] at h
    obtain ⟨k, h1, h2⟩ := h
    exact ⟨_, h1, .inr ⟨k, 0, 0, rfl, Nat.le_refl _, h2, fun i hi => by simp at hi⟩⟩


end Go.Proofs.YtelphkhacadfaaaGreat

namespace Go.Proofs.YtelphkhacadfaaaGreat
open Go.RowKit Go.Sort

/-- a reader's cells: what is left, where the text ends, the fault -/
def rdArr (L : Value) (e : Nat × Nat) (st : Po.St) : Array Value := #[L, .int .i64 e.1, .int .i64 e.2, .int .i64 st.f.1, .int .i64 st.f.2.1, .int .i64 st.f.2.2]
structure RRd (w : World) (L : Value) (T : List Lx.Tok) (st : Po.St) : Prop where
  le : st.at_ ≤ T.length
  small : T.length ≤ 1000
  row : ∃ p n c, L = .slice p n c ∧ n + st.at_ = T.length ∧ n ≤ c ∧ (0 < n → ∃ g off cap, p = some ⟨g, off + st.at_ * 5, none⟩ ∧ TokRow w g off cap T)
theorem RRd.ext {w w' : World} {L : Value} {T : List Lx.Tok} {st : Po.St} (h : RRd w L T st) (hb : Below w.heap.size w w') : RRd w' L T st :=
  ⟨h.le, h.small, by
    obtain ⟨p, n, c, h1, h2, h3, h4⟩ := h.row
    exact ⟨p, n, c, h1, h2, h3, fun hn => by obtain ⟨g, off, cap, h5, h6⟩ := h4 hn; exact ⟨g, off, cap, h5, tokRow_ext h6 hb⟩⟩⟩
/-- the same place, another fault -/
theorem RRd.at_ {w : World} {L : Value} {T : List Lx.Tok} {st st' : Po.St} (h : RRd w L T st) (e : st'.at_ = st.at_) : RRd w L T st' :=
  ⟨e ▸ h.le, h.small, by obtain ⟨p, n, c, h1, h2, h3, h4⟩ := h.row; exact ⟨p, n, c, h1, by rw [e]; exact h2, h3, by rw [e]; exact h4⟩⟩
theorem RRd.wrong {w : World} {L : Value} {T : List Lx.Tok} {st : Po.St} (h : RRd w L T st) (e : Nat × Nat) : RRd w L T (Po.wrong T e st) :=
  h.at_ (by unfold Po.wrong; split <;> rfl)
theorem RRd.empty {w : World} {L : Value} {T : List Lx.Tok} {st : Po.St} (h : RRd w L T st) (hn : ¬ st.at_ < T.length) : ∃ p c, L = .slice p 0 c ∧ T[st.at_]? = none := by
  obtain ⟨p, n, c, h1, h2, h3, h4⟩ := h.row
  obtain rfl : n = 0 := by omega
  exact ⟨p, c, h1, List.getElem?_eq_none (by omega)⟩
theorem RRd.head {w : World} {L : Value} {T : List Lx.Tok} {st : Po.St} (h : RRd w L T st) (hl : st.at_ < T.length) :
    ∃ g o n c t, L = .slice (some ⟨g, o, none⟩) n c ∧ 0 < n ∧ n ≤ c ∧ n ≤ 1000 ∧ T[st.at_]? = some t ∧ g < w.heap.size ∧ (∀ w', Below w.heap.size w w' → TokAt w' g o t.kind (Po.txt t.text) t.n t.line t.col) ∧
      ∀ q c', (n = 1 ∨ q = some ⟨g, o + 5, none⟩) → n - 1 ≤ c' → RRd w (.slice q (n - 1) c') T (Po.on st) := by
  obtain ⟨p, n, c, h1, h2, h3, h4⟩ := h.row
  obtain ⟨g, off, cap, rfl, hr⟩ := h4 (by omega)
  have hsm := h.small
  refine ⟨g, off + st.at_ * 5, n, c, T[st.at_], h1, by omega, h3, by omega, List.getElem?_eq_getElem hl, hr.lt, fun w' hb => (tokRow_ext hr hb).at hl, fun q c' hq hc => ⟨hl, h.small, q, n - 1, c', rfl, ?_, hc, fun hn => ?_⟩⟩
  · show n - 1 + (st.at_ + 1) = T.length; omega
  · rcases hq with hq | hq
    · omega
    · refine ⟨g, off, cap, ?_, hr⟩
      rw [hq]
      show some (⟨g, off + st.at_ * 5 + 5, none⟩ : Addr) = some ⟨g, off + (st.at_ + 1) * 5, none⟩
      rw [show off + st.at_ * 5 + 5 = off + (st.at_ + 1) * 5 by omega]

set_option maxHeartbeats 2000000 in
theorem rris_any {w0 w : World} {L : Value} {T : List Lx.Tok} {st : Po.St} (e : Nat × Nat) (h : RRd w0 L T st) (hw0 : Below w0.heap.size w0 w) (s : ByteArray) :
    Calls Tryz.prog 31 #[.agg (rdArr L e st), .string s] w fun en w' => en = .returned (.bool (Po.is T s.data.toList st)) ∧ Below w.heap.size w w' := by
  have W0 := hid hw0
  clear hw0
  have Q0 := hid (balloc w (.cells (rdArr L e st) 48))
  have h' := hid h
  obtain ⟨i, fe, fl, fc⟩ := st
  obtain ⟨el, ec⟩ := e
  unfold rdArr at *
  simp only at Q0 ⊢
  by_cases h0 : fe = 0
  · have h0b : ((fe : Int) == 0) = true := by rw [beq_iff_eq, h0]; rfl
    have h0' := hid h0
    clear h0
    by_cases hi : i < T.length
    · obtain ⟨g, o, n, c, t, rfl, hn0, hnc, hn1, ht, hg, hat, _⟩ := h'.out.head hi
      have he := hid (show Po.is T s.data.toList ⟨i, fe, fl, fc⟩ = ((Po.txt t.text).toList == s.toList) by unfold Po.is; rw [txt_eq]; simp only [ht, h0'.out]; rfl)
      have d1 := (hat _ (bthen W0.out Q0.out)).c1
      have hnI : (0 : Int) < n := by omega
      have h1000 : (n : Int) ≤ 1000 := by omega
      have hgw := Nat.lt_of_lt_of_le hg W0.out.size
      clear hat ht h h'
      generalize Po.txt t.text = x at *
      cases hx : (x.toList == s.toList) with
      | true =>
        go_enter Tryz.func31, Tryz.ntmps31
        go_wp2_with fail
        go_ret
        rw [he.out, hx]
        exact ⟨rfl, Q0.out⟩
      | false =>
        go_enter Tryz.func31, Tryz.ntmps31
        go_wp2_with fail
        go_ret
        rw [he.out, hx]
        exact ⟨rfl, Q0.out⟩
    · obtain ⟨p, c, rfl, ht⟩ := h'.out.empty hi
      have he : Po.is T s.data.toList ⟨i, fe, fl, fc⟩ = false := by unfold Po.is; simp only at ht; simp only [ht, h0'.out]; rfl
      rw [he]
      clear h h' ht
      go_enter Tryz.func31, Tryz.ntmps31
      go_wp2_with fail
      go_ret
      exact ⟨rfl, Q0.out⟩
  · have h0' : ((fe : Int) == 0) = false := by rw [beq_eq_false_iff_ne]; omega
    have he : Po.is T s.data.toList ⟨i, fe, fl, fc⟩ = false := by unfold Po.is; simp [h0]
    rw [he]
    clear h0 h h'
    go_enter Tryz.func31, Tryz.ntmps31
    go_wp2_with fail
    go_ret
    exact ⟨rfl, Q0.out⟩

set_option maxHeartbeats 2000000 in
theorem rrplace_any {w0 w : World} {L : Value} {T : List Lx.Tok} {st : Po.St} (e : Nat × Nat) (h : RRd w0 L T st) (hw0 : Below w0.heap.size w0 w) :
    Calls Tryz.prog 29 #[.agg (rdArr L e st)] w fun en w' => en = .returned (.agg #[.int .i64 (Po.place T e st).1, .int .i64 (Po.place T e st).2]) ∧ Below w.heap.size w w' := by
  have W0 := hid hw0
  clear hw0
  have Q0 := hid (balloc w (.cells (rdArr L e st) 48))
  have h' := hid h
  obtain ⟨i, fe, fl, fc⟩ := st
  obtain ⟨el, ec⟩ := e
  unfold rdArr at *
  simp only at Q0 ⊢
  by_cases hi : i < T.length
  · obtain ⟨g, o, n, c, t, rfl, hn0, hnc, hn1, ht, hg, hat, _⟩ := h'.out.head hi
    have he := hid (show Po.place T (el, ec) ⟨i, fe, fl, fc⟩ = (t.line, t.col) by unfold Po.place; simp only [ht])
    have d3 := (hat _ (bthen W0.out (bthen Q0.out (balloc _ (.cells #[.int .i64 0, .int .i64 0] 25))))).c3
    have d4 := (hat _ (bthen W0.out (bthen Q0.out (balloc _ (.cells #[.int .i64 0, .int .i64 0] 25))))).c4
    have hnI : (0 : Int) < n := by omega
    have h1000 : (n : Int) ≤ 1000 := by omega
    have hgw := Nat.lt_of_lt_of_le hg W0.out.size
    clear hat ht h h'
    go_enter Tryz.func29, Tryz.ntmps29
    go_wp2_with fail
    refine bodyPost_ret (v := .agg #[.int .i64 t.line, .int .i64 t.col]) (by simp [results, Tryz.results29, go_sem]) rfl ⟨?_, bthen Q0.out (balloc _ _)⟩
    rw [he.out]
  · obtain ⟨p, c, rfl, ht⟩ := h'.out.empty hi
    have he := hid (show Po.place T (el, ec) ⟨i, fe, fl, fc⟩ = (el, ec) by unfold Po.place; simp only at ht; simp only [ht])
    clear h h' ht
    go_enter Tryz.func29, Tryz.ntmps29
    go_wp2_with fail
    refine bodyPost_ret (v := .agg #[.int .i64 el, .int .i64 ec]) (by simp [results, Tryz.results29, go_sem]) rfl ⟨?_, bthen Q0.out (balloc _ _)⟩
    rw [he.out]

/-- a reader that comes back: the plain state, and what is left, wherever it lies -/
def RdBack (w : World) (T : List Lx.Tok) (e : Nat × Nat) (st : Po.St) (en : Ending) : Prop := ∃ L, en = .returned (.agg (rdArr L e st)) ∧ RRd w L T st

set_option maxHeartbeats 2000000 in
theorem rron_any {w0 w : World} {L : Value} {T : List Lx.Tok} {st : Po.St} (e : Nat × Nat) (h : RRd w0 L T st) (hw0 : Below w0.heap.size w0 w) (hi : st.at_ < T.length) :
    Calls Tryz.prog 33 #[.agg (rdArr L e st)] w fun en w' => RdBack w0 T e (Po.on st) en ∧ Below w.heap.size w w' := by
  have W0 := hid hw0
  clear hw0
  obtain ⟨g, o, n, c, t, rfl, hn0, hnc, hn1, _, hg, _, hnext⟩ := h.head hi
  have hnext' := hid hnext
  have Q0 := hid (balloc w (.cells (rdArr (.slice (some ⟨g, o, none⟩) n c) e st) 48))
  obtain ⟨i, fe, fl, fc⟩ := st
  obtain ⟨el, ec⟩ := e
  unfold RdBack rdArr at *
  simp only at Q0 ⊢
  have h1 : (1 : Int) ≤ n := by omega
  have h2 : (n : Int) ≤ c := by omega
  clear h hnext
  by_cases hc1 : c = 1
  · have hn : n = 1 := by omega
    have hb := hid (hnext'.out (some ⟨g, o, none⟩) (c - 1) (.inl hn) (by omega))
    subst hn
    subst hc1
    go_enter Tryz.func33, Tryz.ntmps33
    go_wp2_with fail
    refine bodyPost_ret (v := .agg #[.slice (some ⟨g, o, none⟩) 0 0, .int .i64 el, .int .i64 ec, .int .i64 fe, .int .i64 fl, .int .i64 fc]) (by simp [results, Tryz.results33, go_sem]) rfl ⟨⟨_, rfl, hb.out⟩, bthen (balloc _ _) (balloc _ _)⟩
  · have hb := hid (hnext'.out (some ⟨g, o + 5, none⟩) (c - 1) (.inr rfl) (by omega))
    go_enter Tryz.func33, Tryz.ntmps33
    go_wp2_with fail
    refine bodyPost_ret (v := .agg #[.slice (some ⟨g, o + 5, none⟩) (n - 1) (c - 1), .int .i64 el, .int .i64 ec, .int .i64 fe, .int .i64 fl, .int .i64 fc]) (by simp [results, Tryz.results33, go_sem]) rfl ⟨⟨_, rfl, hb.out⟩, bthen (balloc _ _) (balloc _ _)⟩

set_option maxHeartbeats 2000000 in
theorem rrwrong_any {w0 w : World} {L : Value} {T : List Lx.Tok} {st : Po.St} (e : Nat × Nat) (h : RRd w0 L T st) (hw0 : Below w0.heap.size w0 w) :
    Calls Tryz.prog 32 #[.agg (rdArr L e st)] w fun en w' => RdBack w0 T e (Po.wrong T e st) en ∧ Below w.heap.size w w' := by
  have W0 := hid hw0
  clear hw0
  have hb := hid (h.wrong e)
  have h' := hid h
  obtain ⟨i, fe, fl, fc⟩ := st
  obtain ⟨el, ec⟩ := e
  by_cases h0 : fe = 0
  · have hw := hid (show Po.wrong T (el, ec) ⟨i, fe, fl, fc⟩ = ⟨i, 31, (Po.place T (el, ec) ⟨i, fe, fl, fc⟩).1, (Po.place T (el, ec) ⟨i, fe, fl, fc⟩).2⟩ by unfold Po.wrong; rw [if_pos h0]; rfl)
    have h0b : ((fe : Int) != 0) = false := by rw [h0]; rfl
    clear h0
    by_cases hi : i < T.length
    · obtain ⟨g, o, n, c, t, rfl, hn0, hnc, hn1, ht, hg, hat, _⟩ := h'.out.head hi
      have he := hid (show Po.place T (el, ec) ⟨i, fe, fl, fc⟩ = (t.line, t.col) by unfold Po.place; simp only [ht])
      rw [he.out] at hw
      have z1 := balloc w (.cells (rdArr (.slice (some ⟨g, o, none⟩) n c) (el, ec) ⟨i, fe, fl, fc⟩) 48)
      have z2 := balloc (w.alloc (.cells (rdArr (.slice (some ⟨g, o, none⟩) n c) (el, ec) ⟨i, fe, fl, fc⟩) 48)) (.cells #[.slice none 0 0, .int .i64 0, .int .i64 0, .int .i64 0, .int .i64 0, .int .i64 0] 48)
      have z3 := balloc ((w.alloc (.cells (rdArr (.slice (some ⟨g, o, none⟩) n c) (el, ec) ⟨i, fe, fl, fc⟩) 48)).alloc (.cells #[.slice none 0 0, .int .i64 0, .int .i64 0, .int .i64 0, .int .i64 0, .int .i64 0] 48)) (.cells #[.int .i64 el, .int .i64 ec] 25)
      have d3 := (hat _ (bthen W0.out (bthen (bthen z1 z2) z3))).c3
      have d4 := (hat _ (bthen W0.out (bthen (bthen z1 z2) z3))).c4
      unfold rdArr at d3 d4
      simp only at d3 d4
      have hnI : (0 : Int) < n := by omega
      have h1000 : (n : Int) ≤ 1000 := by omega
      have hgw := Nat.lt_of_lt_of_le hg W0.out.size
      clear hat ht h h' z1 z2 z3
      rw [hw.out] at hb ⊢
      unfold RdBack rdArr
      simp only
      go_enter Tryz.func32, Tryz.ntmps32
      go_wp2_with fail
      refine bodyPost_ret (v := .agg #[.slice (some ⟨g, o, none⟩) n c, .int .i64 el, .int .i64 ec, .int .i64 31, .int .i64 t.line, .int .i64 t.col]) (by simp [results, Tryz.results32, go_sem]) rfl ⟨⟨_, rfl, hb.out⟩, bthen (bthen (balloc _ _) (balloc _ _)) (balloc _ _)⟩
    · obtain ⟨p, c, rfl, ht⟩ := h'.out.empty hi
      have he := hid (show Po.place T (el, ec) ⟨i, fe, fl, fc⟩ = (el, ec) by unfold Po.place; simp only at ht; simp only [ht])
      rw [he.out] at hw
      clear h h' ht
      rw [hw.out] at hb ⊢
      unfold RdBack rdArr
      simp only
      go_enter Tryz.func32, Tryz.ntmps32
      go_wp2_with fail
      refine bodyPost_ret (v := .agg #[.slice p 0 c, .int .i64 el, .int .i64 ec, .int .i64 31, .int .i64 el, .int .i64 ec]) (by simp [results, Tryz.results32, go_sem]) rfl ⟨⟨_, rfl, hb.out⟩, bthen (bthen (balloc _ _) (balloc _ _)) (balloc _ _)⟩
  · have hw := hid (show Po.wrong T (el, ec) ⟨i, fe, fl, fc⟩ = ⟨i, fe, fl, fc⟩ by unfold Po.wrong; rw [if_neg h0])
    have h0b : ((fe : Int) != 0) = true := by rw [bne_iff_ne]; omega
    rw [hw.out] at hb ⊢
    obtain ⟨p, n, c, rfl, _⟩ := h'.out.row
    clear h0 h h'
    unfold RdBack rdArr
    simp only
    go_enter Tryz.func32, Tryz.ntmps32
    go_wp2_with fail
    refine bodyPost_ret (v := .agg #[.slice p n c, .int .i64 el, .int .i64 ec, .int .i64 fe, .int .i64 fl, .int .i64 fc]) (by simp [results, Tryz.results32, go_sem]) rfl ⟨⟨_, rfl, hb.out⟩, bthen (balloc _ _) (balloc _ _)⟩

end Go.Proofs.YtelphkhacadfaaaGreat

namespace Go.Proofs.YtelphkhacadfaaaGreat
open Go.RowKit Go.Sort

theorem rdArr_one {w : World} {L : Value} {T : List Lx.Tok} {st : Po.St} (h : RRd w L T st) (e : Nat × Nat) (st' : Po.St) : (rdArr L e st').all (·.oneCell') = true := by
  obtain ⟨p, n, c, rfl, _⟩ := h.row
  unfold rdArr
  simp [Value.oneCell']
def zeroR : Array Value := #[.slice none 0 0, .int .i64 0, .int .i64 0, .int .i64 0, .int .i64 0, .int .i64 0]
def tokArr (t : Lx.Tok) : Array Value := #[.int .i64 t.kind, .string (Po.txt t.text), .int .i64 t.n, .int .i64 t.line, .int .i64 t.col]
theorem tokArr_one (t : Lx.Tok) : (tokArr t).all (·.oneCell') = true := by unfold tokArr; simp [Value.oneCell']

set_option maxHeartbeats 2000000 in
theorem rrwant_any {w0 w : World} {L : Value} {T : List Lx.Tok} {st : Po.St} (e : Nat × Nat) (h : RRd w0 L T st) (hw0 : Below w0.heap.size w0 w) (s : ByteArray) :
    Calls Tryz.prog 35 #[.agg (rdArr L e st), .string s] w fun en w' => RdBack w0 T e (Po.want T e s.data.toList st) en ∧ Below w.heap.size w w' := by
  have z1 := balloc w (.cells (rdArr L e st) 48)
  have z2 := balloc (w.alloc (.cells (rdArr L e st) 48)) (.cells zeroR 48)
  have B0 := hid ((Blk.new w (rdArr L e st) 48).ext z2)
  have R0 := hid (Blk.newAt (w := w.alloc (.cells (rdArr L e st) 48)) (k := w.heap.size + 1) (by simp) zeroR 48)
  have Q0 := hid (bthen z1 z2)
  have h' := hid h
  have W0 := hid (bthen hw0 (bthen z1 z2))
  have his := hid (rris_any e h W0.out s)
  clear z1 z2 h hw0
  unfold zeroR at *
  cases hi : Po.is T s.data.toList st with
  | true =>
    have hlt := hid (Po.lt_of_is hi)
    have hwt := hid (Po.want_on (e := e) hi)
    rw [hi] at his
    rw [hwt.out]
    clear hi
    go_enter Tryz.func35, Tryz.ntmps35
    go_wp2_with (first | (refine wpList_load_blk rfl 48 (.tmp 2) rfl 5 rfl w.heap.size 48 (rdArr L e st) (B0.out) rfl Tryz.underlying48 rfl (by kernel_rfl) ?_))
    refine his.out.mono ?_
    rintro en w1 ⟨rfl, hb1⟩
    have B1 := hid (B0.out.ext hb1)
    have R1 := hid (R0.out.ext hb1)
    have Q1 := hid (bthen Q0.out hb1)
    have W1 := hid (bthen W0.out hb1)
    clear hb1 his
    go_wp2_with (first | (refine wpList_load_blk rfl 48 (.tmp 2) rfl 8 rfl w.heap.size 48 (rdArr L e st) (B1.out) rfl Tryz.underlying48 rfl (by kernel_rfl) ?_))
    refine (rron_any e h'.out W1.out hlt.out).mono ?_
    rintro en w2 ⟨⟨L2, rfl, hL2⟩, hb2⟩
    have R2 := hid (R1.out.ext hb2)
    have Q2 := hid (bthen Q1.out hb2)
    have hL := hid hL2
    clear hb2 hL2
    go_wp2_with (first | (refine wpList_store_blk rfl 48 (.tmp 4) (.tmp 9) rfl rfl (w.heap.size + 1) 48 _ (rdArr L2 e (Po.on st)) (R2.out) rfl rfl (by kernel_rfl) rfl (rdArr_one hL.out e _) ?_))
    exact bodyPost_ret (v := .agg (rdArr L2 e (Po.on st))) (results_blk (p := 4) (ty := 48) rfl _ _ (w.heap.size + 1) 48 _ rfl (R2.out.setRow _) Tryz.underlying48 rfl (by kernel_rfl)) rfl ⟨⟨L2, rfl, hL.out⟩, below_setRow Q2.out (by omega) _⟩
  | false =>
    have hwt := hid (Po.want_not (e := e) hi)
    rw [hi] at his
    rw [hwt.out]
    clear hi
    go_enter Tryz.func35, Tryz.ntmps35
    go_wp2_with (first | (refine wpList_load_blk rfl 48 (.tmp 2) rfl 5 rfl w.heap.size 48 (rdArr L e st) (B0.out) rfl Tryz.underlying48 rfl (by kernel_rfl) ?_))
    refine his.out.mono ?_
    rintro en w1 ⟨rfl, hb1⟩
    have B1 := hid (B0.out.ext hb1)
    have R1 := hid (R0.out.ext hb1)
    have Q1 := hid (bthen Q0.out hb1)
    have W1 := hid (bthen W0.out hb1)
    clear hb1 his
    go_wp2_with (first | (refine wpList_load_blk rfl 48 (.tmp 2) rfl 10 rfl w.heap.size 48 (rdArr L e st) (B1.out) rfl Tryz.underlying48 rfl (by kernel_rfl) ?_))
    refine (rrwrong_any e h'.out W1.out).mono ?_
    rintro en w2 ⟨⟨L2, rfl, hL2⟩, hb2⟩
    have R2 := hid (R1.out.ext hb2)
    have Q2 := hid (bthen Q1.out hb2)
    have hL := hid hL2
    clear hb2 hL2
    go_wp2_with (first | (refine wpList_store_blk rfl 48 (.tmp 4) (.tmp 11) rfl rfl (w.heap.size + 1) 48 _ (rdArr L2 e (Po.wrong T e st)) (R2.out) rfl rfl (by kernel_rfl) rfl (rdArr_one hL.out e _) ?_))
    exact bodyPost_ret (v := .agg (rdArr L2 e (Po.wrong T e st))) (results_blk (p := 4) (ty := 48) rfl _ _ (w.heap.size + 1) 48 _ rfl (R2.out.setRow _) Tryz.underlying48 rfl (by kernel_rfl)) rfl ⟨⟨L2, rfl, hL.out⟩, below_setRow Q2.out (by omega) _⟩

end Go.Proofs.YtelphkhacadfaaaGreat

namespace Go.Proofs.YtelphkhacadfaaaGreat
open Go.RowKit Go.Sort

/-- a reader and a token that come back -/
def OfBack (w0 : World) (T : List Lx.Tok) (e : Nat × Nat) (k : Nat) (st : Po.St) (en : Ending) : Prop :=
  ∃ L, en = .returned (.tuple #[.agg (rdArr L e (Po.takeSt T e k st)), .agg (tokArr (Po.takeTok T k st))]) ∧ RRd w0 L T (Po.takeSt T e k st)
def zeroT : Array Value := #[.int .i64 0, .string ⟨#[]⟩, .int .i64 0, .int .i64 0, .int .i64 0]
theorem blk_set5 {w : World} {b : Nat} {a0 a1 a2 a3 a4 : Value} {t : TypeId} (h : Blk w b #[a0, a1, a2, a3, a4] t) (b0 b1 b2 b3 b4 : Value) :
    Blk (((((w.setCell ⟨b, 0, none⟩ b0).setCell ⟨b, 1, none⟩ b1).setCell ⟨b, 2, none⟩ b2).setCell ⟨b, 3, none⟩ b3).setCell ⟨b, 4, none⟩ b4) b #[b0, b1, b2, b3, b4] t := by
  have e : (((((#[a0, a1, a2, a3, a4] : Array Value).setIfInBounds 0 b0).setIfInBounds 1 b1).setIfInBounds 2 b2).setIfInBounds 3 b3).setIfInBounds 4 b4 = #[b0, b1, b2, b3, b4] := by simp
  rw [← e]
  exact ((((h.set 0 b0).set 1 b1).set 2 b2).set 3 b3).set 4 b4
theorem blk_set6 {w : World} {b : Nat} {a0 a1 a2 a3 a4 a5 : Value} {t : TypeId} (h : Blk w b #[a0, a1, a2, a3, a4, a5] t) (b0 b1 b2 b3 b4 b5 : Value) :
    Blk ((((((w.setCell ⟨b, 0, none⟩ b0).setCell ⟨b, 1, none⟩ b1).setCell ⟨b, 2, none⟩ b2).setCell ⟨b, 3, none⟩ b3).setCell ⟨b, 4, none⟩ b4).setCell ⟨b, 5, none⟩ b5) b #[b0, b1, b2, b3, b4, b5] t := by
  have e : ((((((#[a0, a1, a2, a3, a4, a5] : Array Value).setIfInBounds 0 b0).setIfInBounds 1 b1).setIfInBounds 2 b2).setIfInBounds 3 b3).setIfInBounds 4 b4).setIfInBounds 5 b5 = #[b0, b1, b2, b3, b4, b5] := by simp
  rw [← e]
  exact (((((h.set 0 b0).set 1 b1).set 2 b2).set 3 b3).set 4 b4).set 5 b5
/-- what the region reads: the reader's cells, the token's -/
theorem ofS {W : World} {b g o : Nat} {L : Value} {e : Nat × Nat} {st : Po.St} {k n l c : Int} {x : ByteArray} {t : TypeId} (h : Blk W b (rdArr L e st) t) (ha : TokAt W g o k x n l c) :
    W.cell? ⟨b, 0, none⟩ = some L ∧ W.cell? ⟨b, 1, none⟩ = some (.int .i64 e.1) ∧ W.cell? ⟨b, 1 + 1, none⟩ = some (.int .i64 e.2) ∧ W.cell? ⟨b, 1 + 1 + 1, none⟩ = some (.int .i64 st.f.1) ∧ W.cell? ⟨b, 1 + 1 + 1 + 1, none⟩ = some (.int .i64 st.f.2.1) ∧
      W.cell? ⟨b, 1 + 1 + 1 + 1 + 1, none⟩ = some (.int .i64 st.f.2.2) ∧ W.cell? ⟨g, o, none⟩ = some (.int .i64 k) ∧ W.cell? ⟨g, o + 1, none⟩ = some (.string x) ∧ W.cell? ⟨g, o + 1 + 1, none⟩ = some (.int .i64 n) ∧ W.cell? ⟨g, o + 1 + 1 + 1, none⟩ = some (.int .i64 l) ∧ W.cell? ⟨g, o + 1 + 1 + 1 + 1, none⟩ = some (.int .i64 c) :=
  ⟨h.cell 0 rfl, h.cell 1 rfl, h.cell 2 rfl, h.cell 3 rfl, h.cell 4 rfl, h.cell 5 rfl, ha.c0, ha.c1, ha.c2, ha.c3, ha.c4⟩

theorem blk_six {w : World} {b : Nat} {x y z u v s : Value} {t : TypeId} (h : Blk w b #[x, y, z, u, v, s] t) : w.cell? ⟨b, 0, none⟩ = some x ∧ w.cell? ⟨b, 1, none⟩ = some y ∧ w.cell? ⟨b, 2, none⟩ = some z ∧ w.cell? ⟨b, 3, none⟩ = some u ∧ w.cell? ⟨b, 4, none⟩ = some v ∧ w.cell? ⟨b, 5, none⟩ = some s ∧ (∀ o, w.frozen? ⟨b, o, none⟩ = false) ∧ b < w.heap.size :=
  ⟨h.cell 0 rfl, h.cell 1 rfl, h.cell 2 rfl, h.cell 3 rfl, h.cell 4 rfl, h.cell 5 rfl, h.free, h.lt⟩
set_option maxRecDepth 100000 in
set_option maxHeartbeats 4000000 in
theorem rrof_yes {w0 w : World} {L : Value} {T : List Lx.Tok} {st : Po.St} (e : Nat × Nat) (h : RRd w0 L T st) (hw0 : Below w0.heap.size w0 w) (k : Nat) (hk : Po.kindIs T k st = true) :
    Calls Tryz.prog 34 #[.agg (rdArr L e st), .int .i64 k] w fun en w' => OfBack w0 T e k st en ∧ Below w.heap.size w w' := by
  have hlt := Po.lt_of_kindIs hk
  obtain ⟨g, o, n, c, t, rfl, hn0, hnc, hn1, ht, hg, hat, _⟩ := h.head hlt
  have hts := hid (Po.takeSt_on (e := e) hk)
  have htt := hid (Po.takeTok_on hk ht)
  have hkk : Hid (t.kind = k ∧ st.f.1 = 0) := by
    unfold Po.kindIs at hk
    rw [ht] at hk
    simp only [Bool.and_eq_true, beq_iff_eq] at hk
    exact hid ⟨hk.2, hk.1⟩
  have z1 := balloc w (.cells (rdArr (.slice (some ⟨g, o, none⟩) n c) e st) 48)
  have z2 := balloc (w.alloc (.cells (rdArr (.slice (some ⟨g, o, none⟩) n c) e st) 48)) (.cells zeroR 48)
  have z3 := balloc ((w.alloc (.cells (rdArr (.slice (some ⟨g, o, none⟩) n c) e st) 48)).alloc (.cells zeroR 48)) (.cells zeroT 81)
  have B0 := hid (((Blk.new w (rdArr (.slice (some ⟨g, o, none⟩) n c) e st) 48).ext z2).ext z3)
  have R0 := hid ((Blk.newAt (w := w.alloc (.cells (rdArr (.slice (some ⟨g, o, none⟩) n c) e st) 48)) (k := w.heap.size + 1) (by simp) zeroR 48).ext z3)
  have T0 := hid (Blk.newAt (w := (w.alloc (.cells (rdArr (.slice (some ⟨g, o, none⟩) n c) e st) 48)).alloc (.cells zeroR 48)) (k := w.heap.size + 1 + 1) (by simp) zeroT 81)
  have Q0 := hid (bthen (bthen z1 z2) z3)
  have W0 := hid (bthen hw0 Q0.out)
  have h' := hid h
  have hlt' := hid hlt
  have hat' := hid hat
  have hgw : g < w.heap.size := Nat.lt_of_lt_of_le hg hw0.size
  clear z1 z2 z3 h hw0 hk ht hat hlt
  unfold OfBack
  rw [hts.out, htt.out]
  unfold zeroR zeroT at *
  go_enter Tryz.func34, Tryz.ntmps34
  go_upto_region 1 with (fail)
  have ho := hid (show w.heap.size < w.heap.size + 1 ∧ w.heap.size + 1 < w.heap.size + 1 + 1 by omega)
  generalize w.heap.size + 1 = p1 at *
  generalize p1 + 1 = p2 at *
  generalize hW : (((w.alloc (.cells (rdArr (.slice (some ⟨g, o, none⟩) n c) e st) 48)).alloc _).alloc _) = wx at *
  clear hW
  have hA := hat'.out _ W0.out
  have hS := ofS B0.out hA
  have k3 : wx.cell? ⟨w.heap.size, 3, none⟩ = some (.int .i64 st.f.1) := B0.out.cell 3 rfl
  rw [hkk.out.2] at k3
  have k0 := B0.out.cell 0 (v := .slice (some ⟨g, o, none⟩) n c) rfl
  have a0 := hA.c0
  rw [hkk.out.1] at a0
  have hnI : (0 : Int) < n := by omega
  have h1000 : (n : Int) ≤ 1000 := by omega
  have hgx : g < wx.heap.size := Nat.lt_of_lt_of_le hgw Q0.out.size
  have hS' := hid hS
  clear hS
  go_wp2_with fail
  clear k3 k0 a0
  have hSx := hS'.out
  have hSd : wx.drew.cell? ⟨w.heap.size, 0, none⟩ = _ ∧ _ := hS'.out
  have ho1 := ho.out
  have n1 : w.heap.size ≠ p1 := by omega
  have n2 : p1 ≠ p2 := by omega
  have n3 : p2 ≠ p1 := by omega
  have n4 : w.heap.size ≠ p2 := by omega
  have n5 : g ≠ p1 := by omega
  have n6 : g ≠ p2 := by omega
  clear ho1
  go_region_held3 (fun w' => w'.cell? ⟨w.heap.size, 0, none⟩ = some (.slice (some ⟨g, o, none⟩) n c) ∧ w'.cell? ⟨w.heap.size, 1, none⟩ = some (.int .i64 e.1) ∧ w'.cell? ⟨w.heap.size, 1 + 1, none⟩ = some (.int .i64 e.2) ∧ w'.cell? ⟨w.heap.size, 1 + 1 + 1, none⟩ = some (.int .i64 st.f.1) ∧ w'.cell? ⟨w.heap.size, 1 + 1 + 1 + 1, none⟩ = some (.int .i64 st.f.2.1) ∧ w'.cell? ⟨w.heap.size, 1 + 1 + 1 + 1 + 1, none⟩ = some (.int .i64 st.f.2.2) ∧ w'.cell? ⟨g, o, none⟩ = some (.int .i64 t.kind) ∧ w'.cell? ⟨g, o + 1, none⟩ = some (.string (Po.txt t.text)) ∧ w'.cell? ⟨g, o + 1 + 1, none⟩ = some (.int .i64 t.n) ∧ w'.cell? ⟨g, o + 1 + 1 + 1, none⟩ = some (.int .i64 t.line) ∧ w'.cell? ⟨g, o + 1 + 1 + 1 + 1, none⟩ = some (.int .i64 t.col)) (first | with_reducible assumption | (refine ⟨?_, ?_, ?_, ?_, ?_, ?_, ?_, ?_, ?_, ?_, ?_⟩ <;> (simp only [far n1, far n4, far n5, far n6, drewc]; assumption)) | go_keep) (first
    | ((go_at_call 33
        refine (rron_any (w := wx.drew) e h'.out W0.out.drew hlt'.out).mono ?_
        rintro en w3 ⟨⟨L2, rfl, hL2⟩, hb3⟩
        have hb4 : Below wx.heap.size wx w3 := bthen (Below.refl _ wx).drew hb3
        obtain ⟨q, m, dd, rfl, hrest⟩ := hL2.row
        clear hrest hb3
        have R3 := hid (R0.out.ext hb4)
        have T3 := hid (T0.out.ext hb4)
        have Q3 := hid (bthen Q0.out hb4)
        obtain ⟨k0, k1, k2, k3, k4, k5, kf, kz⟩ := blk_six R3.out
        obtain ⟨f0, f1, f2, f3, f4, ff, fz⟩ := T3.out.five
        have S3 := ofS (B0.out.ext hb4) (hat'.out _ (bthen W0.out hb4))
        have S3b := S3
        obtain ⟨s0, s1, s2, s3, s4, s5, s6, s7, s8, s9, s10⟩ := S3b
        have hL := hid hL2
        clear hL2
        unfold rdArr)))
  -- END
  go_wp2_with fail
  have g1 : Blk (((((((((((w3.setCell ⟨p1, 0, none⟩ (.slice q m dd)).setCell ⟨p1, 1, none⟩ (.int .i64 e.1)).setCell ⟨p1, 2, none⟩ (.int .i64 e.2)).setCell ⟨p1, 3, none⟩ (.int .i64 (Po.on st).f.1)).setCell ⟨p1, 4, none⟩ (.int .i64 (Po.on st).f.2.1)).setCell ⟨p1, 5, none⟩ (.int .i64 (Po.on st).f.2.2)).setCell ⟨p2, 0, none⟩ (.int .i64 t.kind)).setCell ⟨p2, 1, none⟩ (.string (Po.txt t.text))).setCell ⟨p2, 2, none⟩ (.int .i64 t.n)).setCell ⟨p2, 3, none⟩ (.int .i64 t.line)).setCell ⟨p2, 4, none⟩ (.int .i64 t.col)) p1 (rdArr (.slice q m dd) e (Po.on st)) 48 := by
    rw [Blk.setOther_iff n2, Blk.setOther_iff n2, Blk.setOther_iff n2, Blk.setOther_iff n2, Blk.setOther_iff n2]
    exact blk_set6 R3.out _ _ _ _ _ _
  have g2 : Blk (((((((((((w3.setCell ⟨p1, 0, none⟩ (.slice q m dd)).setCell ⟨p1, 1, none⟩ (.int .i64 e.1)).setCell ⟨p1, 2, none⟩ (.int .i64 e.2)).setCell ⟨p1, 3, none⟩ (.int .i64 (Po.on st).f.1)).setCell ⟨p1, 4, none⟩ (.int .i64 (Po.on st).f.2.1)).setCell ⟨p1, 5, none⟩ (.int .i64 (Po.on st).f.2.2)).setCell ⟨p2, 0, none⟩ (.int .i64 t.kind)).setCell ⟨p2, 1, none⟩ (.string (Po.txt t.text))).setCell ⟨p2, 2, none⟩ (.int .i64 t.n)).setCell ⟨p2, 3, none⟩ (.int .i64 t.line)).setCell ⟨p2, 4, none⟩ (.int .i64 t.col)) p2 (tokArr t) 81 := by
    refine blk_set5 (a0 := .int .i64 0) (a1 := .string ⟨#[]⟩) (a2 := .int .i64 0) (a3 := .int .i64 0) (a4 := .int .i64 0) ?_ _ _ _ _ _
    rw [Blk.setOther_iff n3, Blk.setOther_iff n3, Blk.setOther_iff n3, Blk.setOther_iff n3, Blk.setOther_iff n3, Blk.setOther_iff n3]
    exact T3.out
  have b1 : w.heap.size ≤ p1 := by have := ho.out; omega
  have b2 : w.heap.size ≤ p2 := by have := ho.out; omega
  refine bodyPost_ret (v := .tuple #[.agg (rdArr (.slice q m dd) e (Po.on st)), .agg (tokArr t)]) (results_blk2 (p := 4) (q := 5) (ty := 48) (tz := 81) rfl _ _ p1 48 _ p2 81 _ rfl rfl g1 g2 Tryz.underlying48 rfl (by kernel_rfl) Tryz.underlying81 rfl (by kernel_rfl)) rfl ⟨⟨_, rfl, hL.out⟩, ?_⟩
  exact bset (bset (bset (bset (bset (bset (bset (bset (bset (bset (bset Q3.out b1 _) b1 _) b1 _) b1 _) b1 _) b1 _) b2 _) b2 _) b2 _) b2 _) b2 _

set_option maxRecDepth 100000 in
set_option maxHeartbeats 4000000 in
theorem rrof_no {w0 w : World} {L : Value} {T : List Lx.Tok} {st : Po.St} (e : Nat × Nat) (h : RRd w0 L T st) (hw0 : Below w0.heap.size w0 w) (k : Nat) (hk : Po.kindIs T k st = false) :
    Calls Tryz.prog 34 #[.agg (rdArr L e st), .int .i64 k] w fun en w' => OfBack w0 T e k st en ∧ Below w.heap.size w w' := by
  have hts := hid (Po.takeSt_not (e := e) hk)
  have htt := hid (Po.takeTok_not hk)
  have z1 := balloc w (.cells (rdArr L e st) 48)
  have z2 := balloc (w.alloc (.cells (rdArr L e st) 48)) (.cells zeroR 48)
  have z3 := balloc ((w.alloc (.cells (rdArr L e st) 48)).alloc (.cells zeroR 48)) (.cells zeroT 81)
  have B0 := hid (((Blk.new w (rdArr L e st) 48).ext z2).ext z3)
  have R0 := hid ((Blk.newAt (w := w.alloc (.cells (rdArr L e st) 48)) (k := w.heap.size + 1) (by simp) zeroR 48).ext z3)
  have T0 := hid (Blk.newAt (w := (w.alloc (.cells (rdArr L e st) 48)).alloc (.cells zeroR 48)) (k := w.heap.size + 1 + 1) (by simp) zeroT 81)
  have Q0 := hid (bthen (bthen z1 z2) z3)
  have W0 := hid (bthen hw0 Q0.out)
  have h' := hid h
  have ho := hid (show w.heap.size < w.heap.size + 1 ∧ w.heap.size + 1 < w.heap.size + 1 + 1 by omega)
  have hgw := hid hw0.size
  clear z1 z2 z3 h hw0
  unfold OfBack
  rw [hts.out, htt.out]
  unfold zeroR zeroT at *
  go_enter Tryz.func34, Tryz.ntmps34
  go_upto_region 1 with (fail)
  generalize w.heap.size + 1 = p1 at *
  generalize p1 + 1 = p2 at *
  generalize hW : (((w.alloc (.cells (rdArr L e st) 48)).alloc _).alloc _) = wx at *
  clear hW
  have k3 : wx.cell? ⟨w.heap.size, 3, none⟩ = some (.int .i64 st.f.1) := B0.out.cell 3 rfl
  by_cases hf : st.f.1 = 0
  · have hfb : ((st.f.1 : Int) == 0) = true := by rw [hf]; rfl
    by_cases hlt : st.at_ < T.length
    · obtain ⟨g, o, n, c, t, rfl, hn0, hnc, hn1, ht, hg, hat, _⟩ := h'.out.head hlt
      have k0 := B0.out.cell 0 (v := .slice (some ⟨g, o, none⟩) n c) rfl
      have a0 := (hat _ W0.out).c0
      have hne : ((t.kind : Int) == k) = false := by
        unfold Po.kindIs at hk
        rw [beq_eq_false_iff_ne]
        intro hh
        have : t.kind = k := by omega
        simp [ht, hf, this] at hk
      have hgx : g < wx.heap.size := Nat.lt_of_lt_of_le (Nat.lt_of_lt_of_le hg hgw.out) Q0.out.size
      have hnI : (0 : Int) < n := by omega
      have h1000 : (n : Int) ≤ 1000 := by omega
      clear hf hk ht hat
      go_wp2_with (first | (refine wpList_load_blk rfl 48 (.tmp 2) rfl 31 rfl w.heap.size 48 (rdArr _ e st) (B0.out) rfl Tryz.underlying48 rfl (by kernel_rfl) ?_))
      refine (rrwrong_any e h'.out W0.out).mono ?_
      rintro en w3 ⟨⟨L2, rfl, hL2⟩, hb3⟩
      have R3 := hid (R0.out.ext hb3)
      have T3 := hid (T0.out.ext hb3)
      have Q3 := hid (bthen Q0.out hb3)
      have hL := hid hL2
      have n2 : p1 ≠ p2 := by have := ho.out; omega
      have n3 : p2 ≠ p1 := by have := ho.out; omega
      clear hb3 hL2
      have T4 := hid (T3.out.setRowOther n3 (cs' := rdArr L2 e (Po.wrong T e st)))
      go_wp2_with (first | (refine wpList_store_blk rfl 48 (.tmp 4) (.tmp 32) rfl rfl p1 48 _ (rdArr L2 e (Po.wrong T e st)) (R3.out) rfl rfl (by kernel_rfl) rfl (rdArr_one hL.out e _) ?_) | (refine wpList_store_blk rfl 81 (.tmp 5) (.tmp 33) rfl rfl p2 81 _ (tokArr Po.zeroTok) (T4.out) rfl rfl (by kernel_rfl) rfl (tokArr_one _) ?_))
      refine bodyPost_ret (v := .tuple #[.agg (rdArr L2 e (Po.wrong T e st)), .agg (tokArr Po.zeroTok)]) (results_blk2 (p := 4) (q := 5) (ty := 48) (tz := 81) rfl _ _ p1 48 _ p2 81 _ rfl rfl ((R3.out.setRow _).setRowOther n2) (T4.out.setRow _) Tryz.underlying48 rfl (by kernel_rfl) Tryz.underlying81 rfl (by kernel_rfl)) rfl ⟨⟨_, rfl, hL.out⟩, ?_⟩
      exact below_setRow (below_setRow Q3.out (by have := ho.out; omega) _) (by have := ho.out; omega) _
    · obtain ⟨p, c, rfl, _⟩ := h'.out.empty hlt
      have k0 := B0.out.cell 0 (v := .slice p 0 c) rfl
      clear hf hk
      go_wp2_with (first | (refine wpList_load_blk rfl 48 (.tmp 2) rfl 31 rfl w.heap.size 48 (rdArr _ e st) (B0.out) rfl Tryz.underlying48 rfl (by kernel_rfl) ?_))
      refine (rrwrong_any e h'.out W0.out).mono ?_
      rintro en w3 ⟨⟨L2, rfl, hL2⟩, hb3⟩
      have R3 := hid (R0.out.ext hb3)
      have T3 := hid (T0.out.ext hb3)
      have Q3 := hid (bthen Q0.out hb3)
      have hL := hid hL2
      have n2 : p1 ≠ p2 := by have := ho.out; omega
      have n3 : p2 ≠ p1 := by have := ho.out; omega
      clear hb3 hL2
      have T4 := hid (T3.out.setRowOther n3 (cs' := rdArr L2 e (Po.wrong T e st)))
      go_wp2_with (first | (refine wpList_store_blk rfl 48 (.tmp 4) (.tmp 32) rfl rfl p1 48 _ (rdArr L2 e (Po.wrong T e st)) (R3.out) rfl rfl (by kernel_rfl) rfl (rdArr_one hL.out e _) ?_) | (refine wpList_store_blk rfl 81 (.tmp 5) (.tmp 33) rfl rfl p2 81 _ (tokArr Po.zeroTok) (T4.out) rfl rfl (by kernel_rfl) rfl (tokArr_one _) ?_))
      refine bodyPost_ret (v := .tuple #[.agg (rdArr L2 e (Po.wrong T e st)), .agg (tokArr Po.zeroTok)]) (results_blk2 (p := 4) (q := 5) (ty := 48) (tz := 81) rfl _ _ p1 48 _ p2 81 _ rfl rfl ((R3.out.setRow _).setRowOther n2) (T4.out.setRow _) Tryz.underlying48 rfl (by kernel_rfl) Tryz.underlying81 rfl (by kernel_rfl)) rfl ⟨⟨_, rfl, hL.out⟩, ?_⟩
      exact below_setRow (below_setRow Q3.out (by have := ho.out; omega) _) (by have := ho.out; omega) _
  · have hfb : ((st.f.1 : Int) == 0) = false := by rw [beq_eq_false_iff_ne]; omega
    clear hf hk
    go_wp2_with (first | (refine wpList_load_blk rfl 48 (.tmp 2) rfl 31 rfl w.heap.size 48 (rdArr _ e st) (B0.out) rfl Tryz.underlying48 rfl (by kernel_rfl) ?_))
    refine (rrwrong_any e h'.out W0.out).mono ?_
    rintro en w3 ⟨⟨L2, rfl, hL2⟩, hb3⟩
    have R3 := hid (R0.out.ext hb3)
    have T3 := hid (T0.out.ext hb3)
    have Q3 := hid (bthen Q0.out hb3)
    have hL := hid hL2
    have n2 : p1 ≠ p2 := by have := ho.out; omega
    have n3 : p2 ≠ p1 := by have := ho.out; omega
    clear hb3 hL2
    have T4 := hid (T3.out.setRowOther n3 (cs' := rdArr L2 e (Po.wrong T e st)))
    go_wp2_with (first | (refine wpList_store_blk rfl 48 (.tmp 4) (.tmp 32) rfl rfl p1 48 _ (rdArr L2 e (Po.wrong T e st)) (R3.out) rfl rfl (by kernel_rfl) rfl (rdArr_one hL.out e _) ?_) | (refine wpList_store_blk rfl 81 (.tmp 5) (.tmp 33) rfl rfl p2 81 _ (tokArr Po.zeroTok) (T4.out) rfl rfl (by kernel_rfl) rfl (tokArr_one _) ?_))
    refine bodyPost_ret (v := .tuple #[.agg (rdArr L2 e (Po.wrong T e st)), .agg (tokArr Po.zeroTok)]) (results_blk2 (p := 4) (q := 5) (ty := 48) (tz := 81) rfl _ _ p1 48 _ p2 81 _ rfl rfl ((R3.out.setRow _).setRowOther n2) (T4.out.setRow _) Tryz.underlying48 rfl (by kernel_rfl) Tryz.underlying81 rfl (by kernel_rfl)) rfl ⟨⟨_, rfl, hL.out⟩, ?_⟩
    exact below_setRow (below_setRow Q3.out (by have := ho.out; omega) _) (by have := ho.out; omega) _

theorem rrof_any {w0 w : World} {L : Value} {T : List Lx.Tok} {st : Po.St} (e : Nat × Nat) (h : RRd w0 L T st) (hw0 : Below w0.heap.size w0 w) (k : Nat) :
    Calls Tryz.prog 34 #[.agg (rdArr L e st), .int .i64 k] w fun en w' => OfBack w0 T e k st en ∧ Below w.heap.size w w' := by
  cases hk : Po.kindIs T k st with
  | true => exact rrof_yes e h hw0 k hk
  | false => exact rrof_no e h hw0 k hk

theorem rrof_lit {w0 w : World} {L : Value} {T : List Lx.Tok} {st : Po.St} (e : Nat × Nat) (h : RRd w0 L T st) (hw0 : Below w0.heap.size w0 w) (k : Nat) (n : Int) (hn : n = k) :
    Calls Tryz.prog 34 #[.agg (rdArr L e st), .int .i64 n] w fun en w' => OfBack w0 T e k st en ∧ Below w.heap.size w w' := by
  subst hn
  exact rrof_any e h hw0 k

end Go.Proofs.YtelphkhacadfaaaGreat
