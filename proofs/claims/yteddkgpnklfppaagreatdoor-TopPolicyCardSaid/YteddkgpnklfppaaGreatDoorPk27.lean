/-
  The policy's writer: a who, tiers, boxes.
-/
import Derived.Test.YteddkgpnklfppaaGreatDoorPk26
import Derived.Test.YteddkgpnklfppaaGreatDoorPk15

namespace Go.Proofs.YteddkgpnklfppaaGreatDoor
open Go.RowKit Go.Sort

theorem WB.drew {B b : Nat} {l : List UInt8} {w : World} (h : WB B b l w) : WB B b l w.drew := h.ext ((Below.refl _ _).drew)
theorem Wrote.drewr {B b : Nat} {a w : World} (h : Wrote B b a w) : Wrote B b a w.drew := Wrote.drew_iff.2 h
theorem txt_size (l : List UInt8) : (⟨l.toArray⟩ : ByteArray).size = l.length := by show l.toArray.size = _; simp
theorem txt_bytes (l : List UInt8) : (⟨l.toArray⟩ : ByteArray).data.toList = l := by simp
theorem dat_size (s : ByteArray) : s.data.toList.length = s.size := by rw [Array.length_toList]; rfl

set_option maxRecDepth 100000 in
set_option maxHeartbeats 2000000 in
theorem wwho_any {B b : Nat} {l : List UInt8} {w : World} (h : WB B b l w) (x : Po.Who) (s : ByteArray) (hx : x.any = false → x.name.data.toList = [] → Ru.num x.n = true) (hlen : l.length + (1 + (Pt.whoB s.data.toList x).length) ≤ 140737488355328) :
    Calls Tryz.prog 64 #[.pointer (some ⟨b, 0, none⟩), .agg (whoArr x), .string s] w fun e w' => e = .returned (.tuple #[]) ∧ WB B b (l ++ Pt.put [Pt.whoB s.data.toList x]) w' ∧ Wrote B b w w' := by
  have z := balloc w (.cells (whoArr x) 81)
  have H0 := hid (h.ext z)
  have W0 := hid (Wrote.ext (b := b) h.le z)
  clear z h
  obtain ⟨any, name, n, line, col⟩ := x
  unfold whoArr at *
  simp only at H0 W0 hx ⊢
  have hx' := hid hx
  clear hx
  cases any with
  | true =>
    rw [show Pt.whoB s.data.toList ⟨true, name, n, line, col⟩ = s.data.toList from rfl] at hlen ⊢
    have hl := hid hlen
    clear hlen
    go_enter Tryz.func64, Tryz.ntmps64
    go_wp2_with fail
    refine (put1_any H0.out s (by have := hl.out; rwa [dat_size] at this) _ (by simp)).mono ?_
    rintro e w1 ⟨rfl, h1, q1⟩
    have H1 := hid h1
    have W1 := hid (W0.out.trans q1)
    clear h1 q1
    go_wp2_with fail
    go_end0
    exact ⟨rfl, H1.out, W1.out⟩
  | false =>
    cases hem : name.toList.isEmpty with
    | true =>
      have hem0 : name.data.toList = [] := by rw [empty_eq] at hem; simpa using hem
      have hem' : name.toList = [] := by simpa using hem
      have hnum := hid (hx'.out rfl hem0)
      rw [show Pt.whoB s.data.toList ⟨false, name, n, line, col⟩ = Lib.itoa n by unfold Pt.whoB; simp [hem0]] at hlen ⊢
      have hl := hid hlen
      clear hlen hem hem0
      go_enter Tryz.func64, Tryz.ntmps64
      go_wp2_with fail
      refine (num_any H0.out n hnum.out).mono ?_
      rintro e w1 ⟨rfl, hb1⟩
      have H1 := hid (H0.out.ext hb1)
      have W1 := hid (W0.out.trans (Wrote.ext H0.out.le hb1))
      clear hb1
      go_wp2_with fail
      refine (put1_any H1.out ⟨(Lib.itoa n).toArray⟩ (by have := hl.out; rwa [txt_size]) _ rfl).mono ?_
      rw [txt_bytes]
      rintro e w2 ⟨rfl, h2, q2⟩
      have H2 := hid h2
      have W2 := hid (W1.out.trans q2)
      clear h2 q2
      go_wp2_with fail
      go_end0
      exact ⟨rfl, H2.out, W2.out⟩
    | false =>
      have hem0 : ¬ name.data.toList = [] := by rw [empty_eq] at hem; simpa using hem
      have hem' : ¬ name.toList = [] := by simpa using hem
      have hem2 : (name.toList == []) = false := beq_eq_false_iff_ne.2 hem'
      rw [show Pt.whoB s.data.toList ⟨false, name, n, line, col⟩ = name.data.toList by unfold Pt.whoB; simp [hem0]] at hlen ⊢
      have hl := hid hlen
      clear hlen hem0
      go_enter Tryz.func64, Tryz.ntmps64
      go_wp2_with fail
      refine (put1_any H0.out name (by have := hl.out; rwa [dat_size] at this) _ (by simp)).mono ?_
      rintro e w1 ⟨rfl, h1, q1⟩
      have H1 := hid h1
      have W1 := hid (W0.out.trans q1)
      clear h1 q1
      go_wp2_with fail
      go_end0
      exact ⟨rfl, H1.out, W1.out⟩

set_option maxRecDepth 100000 in
set_option maxHeartbeats 2000000 in
theorem wtiers_any {B b : Nat} {l : List UInt8} {w : World} (h : WB B b l w) (lo hi : Int) (h1 : Ru.num lo = true) (h2 : Ru.num hi = true) (hlen : l.length + (1 + (Pt.tiersB lo hi).length) ≤ 140737488355328) :
    Calls Tryz.prog 65 #[.pointer (some ⟨b, 0, none⟩), .int .i64 lo, .int .i64 hi] w fun e w' => e = .returned (.tuple #[]) ∧ WB B b (l ++ Pt.put [Pt.tiersB lo hi]) w' ∧ Wrote B b w w' := by
  have H0 := hid h
  have h1' := hid h1
  have h2' := hid h2
  clear h h1 h2
  by_cases e0 : lo = 0
  · subst e0
    by_cases e7 : hi = 7
    · subst e7
      rw [show Pt.tiersB 0 7 = (⟨#[97, 110, 121]⟩ : ByteArray).data.toList from rfl] at hlen ⊢
      have hl := hid hlen
      clear hlen
      go_enter Tryz.func65, Tryz.ntmps65
      go_wp2_with fail
      refine (put1_any H0.out ⟨#[97, 110, 121]⟩ (by have := hl.out; exact this) _ rfl).mono ?_
      rintro e w9 ⟨rfl, h9, q9⟩
      have H9 := hid h9
      have W9 := hid (q9)
      clear h9 q9
      go_wp2_with fail
      go_end0
      exact ⟨rfl, H9.out, W9.out⟩
    · by_cases e1 : hi = 0
      · subst e1
        rw [show Pt.tiersB 0 0 = Lib.itoa 0 from rfl] at hlen ⊢
        clear e7
        have hl := hid hlen
        clear hlen
        go_enter Tryz.func65, Tryz.ntmps65
        go_wp2_with fail
        refine (num_any H0.out 0 h1'.out).mono ?_
        rintro e w1 ⟨rfl, hb1⟩
        have H1 := hid (H0.out.ext hb1)
        have W1 := hid (Wrote.ext (b := b) H0.out.le hb1)
        clear hb1
        go_wp2_with fail
        refine (put1_any H1.out ⟨(Lib.itoa 0).toArray⟩ (by have := hl.out; rwa [txt_size]) _ rfl).mono ?_
        rw [txt_bytes]
        rintro e w9 ⟨rfl, h9, q9⟩
        have H9 := hid h9
        have W9 := hid (W1.out.trans q9)
        clear h9 q9
        go_wp2_with fail
        go_end0
        exact ⟨rfl, H9.out, W9.out⟩
      · have c7 : (hi == 7) = false := beq_eq_false_iff_ne.2 e7
        have c1 : ((0 : Int) == hi) = false := beq_eq_false_iff_ne.2 (fun h => e1 h.symm)
        rw [show Pt.tiersB 0 hi = Lib.itoa 0 ++ ([46, 46] ++ Lib.itoa hi) by unfold Pt.tiersB; rw [if_neg (by omega), if_neg (by omega)]] at hlen ⊢
        clear e7 e1
        have hl := hid hlen
        obtain ⟨sl, hsl⟩ : ∃ s : ByteArray, s = ⟨(Lib.itoa 0).toArray⟩ := ⟨_, rfl⟩
        obtain ⟨sh, hsh⟩ : ∃ s : ByteArray, s = ⟨(Lib.itoa hi).toArray⟩ := ⟨_, rfl⟩
        have hst := hid (show ((sl ++ (⟨#[46, 46]⟩ : ByteArray)) ++ sh).data.toList = Lib.itoa 0 ++ ([46, 46] ++ Lib.itoa hi) by rw [hsl, hsh]; simp)
        have hnl := hid (fun W => hsl ▸ (fun (h : WB B b l W) => num_any h 0 h1'.out))
        have hnh := hid (fun W => hsh ▸ (fun (h : WB B b l W) => num_any h hi h2'.out))
        have zl : ¬ (9223372036854775807 < (sl.size : Int) + 2) := by rw [hsl, txt_size]; have := hlen; simp only [List.length_append] at this; omega
        have zh : ¬ (9223372036854775807 < (sl.size : Int) + 2 + sh.size) := by rw [hsl, hsh, txt_size, txt_size]; have := hlen; simp only [List.length_append, List.length_cons, List.length_nil] at this; omega
        clear hlen hsl hsh
        go_enter Tryz.func65, Tryz.ntmps65
        go_wp2_with fail
        refine (hnl.out _ H0.out).mono ?_
        rintro e w1 ⟨rfl, hb1⟩
        have H1 := hid (H0.out.ext hb1)
        have W1 := hid (Wrote.ext (b := b) H0.out.le hb1)
        clear hb1
        go_wp2_with fail
        refine (hnh.out _ H1.out).mono ?_
        rintro e w2 ⟨rfl, hb2⟩
        have H2 := hid (H1.out.ext hb2)
        have W2 := hid (W1.out.trans (Wrote.ext (b := b) H1.out.le hb2))
        clear hb2
        go_wp2_with fail
        refine (put1_any H2.out ((sl ++ (⟨#[46, 46]⟩ : ByteArray)) ++ sh) (by rw [← dat_size, hst.out]; exact hl.out) _ rfl).mono ?_
        rw [hst.out]
        rintro e w9 ⟨rfl, h9, q9⟩
        have H9 := hid h9
        have W9 := hid (W2.out.trans q9)
        clear h9 q9
        go_wp2_with fail
        go_end0
        exact ⟨rfl, H9.out, W9.out⟩
  · have c0 : (lo == 0) = false := beq_eq_false_iff_ne.2 e0
    by_cases e1 : lo = hi
    · subst e1
      rw [show Pt.tiersB lo lo = Lib.itoa lo by unfold Pt.tiersB; rw [if_neg (by omega), if_pos rfl]] at hlen ⊢
      clear e0
      have hl := hid hlen
      clear hlen
      go_enter Tryz.func65, Tryz.ntmps65
      go_wp2_with fail
      refine (num_any H0.out lo h1'.out).mono ?_
      rintro e w1 ⟨rfl, hb1⟩
      have H1 := hid (H0.out.ext hb1)
      have W1 := hid (Wrote.ext (b := b) H0.out.le hb1)
      clear hb1
      go_wp2_with fail
      refine (put1_any H1.out ⟨(Lib.itoa lo).toArray⟩ (by have := hl.out; rwa [txt_size]) _ rfl).mono ?_
      rw [txt_bytes]
      rintro e w9 ⟨rfl, h9, q9⟩
      have H9 := hid h9
      have W9 := hid (W1.out.trans q9)
      clear h9 q9
      go_wp2_with fail
      go_end0
      exact ⟨rfl, H9.out, W9.out⟩
    · have c1 : (lo == hi) = false := beq_eq_false_iff_ne.2 e1
      rw [show Pt.tiersB lo hi = Lib.itoa lo ++ ([46, 46] ++ Lib.itoa hi) by unfold Pt.tiersB; rw [if_neg (by omega), if_neg (by omega)]] at hlen ⊢
      clear e0 e1
      have hl := hid hlen
      obtain ⟨sl, hsl⟩ : ∃ s : ByteArray, s = ⟨(Lib.itoa lo).toArray⟩ := ⟨_, rfl⟩
      obtain ⟨sh, hsh⟩ : ∃ s : ByteArray, s = ⟨(Lib.itoa hi).toArray⟩ := ⟨_, rfl⟩
      have hst := hid (show ((sl ++ (⟨#[46, 46]⟩ : ByteArray)) ++ sh).data.toList = Lib.itoa lo ++ ([46, 46] ++ Lib.itoa hi) by rw [hsl, hsh]; simp)
      have hnl := hid (fun W => hsl ▸ (fun (h : WB B b l W) => num_any h lo h1'.out))
      have hnh := hid (fun W => hsh ▸ (fun (h : WB B b l W) => num_any h hi h2'.out))
      have zl : ¬ (9223372036854775807 < (sl.size : Int) + 2) := by rw [hsl, txt_size]; have := hlen; simp only [List.length_append] at this; omega
      have zh : ¬ (9223372036854775807 < (sl.size : Int) + 2 + sh.size) := by rw [hsl, hsh, txt_size, txt_size]; have := hlen; simp only [List.length_append, List.length_cons, List.length_nil] at this; omega
      clear hlen hsl hsh
      go_enter Tryz.func65, Tryz.ntmps65
      go_wp2_with fail
      refine (hnl.out _ H0.out).mono ?_
      rintro e w1 ⟨rfl, hb1⟩
      have H1 := hid (H0.out.ext hb1)
      have W1 := hid (Wrote.ext (b := b) H0.out.le hb1)
      clear hb1
      go_wp2_with fail
      refine (hnh.out _ H1.out).mono ?_
      rintro e w2 ⟨rfl, hb2⟩
      have H2 := hid (H1.out.ext hb2)
      have W2 := hid (W1.out.trans (Wrote.ext (b := b) H1.out.le hb2))
      clear hb2
      go_wp2_with fail
      refine (put1_any H2.out ((sl ++ (⟨#[46, 46]⟩ : ByteArray)) ++ sh) (by rw [← dat_size, hst.out]; exact hl.out) _ rfl).mono ?_
      rw [hst.out]
      rintro e w9 ⟨rfl, h9, q9⟩
      have H9 := hid h9
      have W9 := hid (W2.out.trans q9)
      clear h9 q9
      go_wp2_with fail
      go_end0
      exact ⟨rfl, H9.out, W9.out⟩

theorem boxesB_snoc (l : List Po.Box) (x : Po.Box) : Pt.boxesB (l ++ [x]) = Pt.boxesB l ++ (if l = [] then Pt.boxB x else Pt.plusB x) := by
  cases l with
  | nil => simp [Pt.boxesB]
  | cons y l => simp [Pt.boxesB]
theorem boxesB_le {l : List Po.Box} {i : Nat} (h : i < l.length) : (Pt.boxesB (l.take i)).length + (if i = 0 then Pt.boxB l[i] else Pt.plusB l[i]).length ≤ (Pt.boxesB l).length := by
  have e1 : (Pt.boxesB (l.take (i + 1))).length ≤ (Pt.boxesB l).length := by
    cases l with
    | nil => simp at h
    | cons y l =>
      have e : Pt.boxesB (y :: l) = Pt.boxesB ((y :: l).take (i + 1)) ++ (l.drop i).flatMap Pt.plusB := by
        rw [List.take_succ_cons]
        unfold Pt.boxesB
        rw [List.append_assoc, ← List.flatMap_append, List.take_append_drop]
      rw [e, List.length_append]
      omega
  rw [(List.take_append_getElem h).symm, boxesB_snoc, List.length_append] at e1
  have e2 : (l.take i = []) ↔ i = 0 := by
    rw [List.take_eq_nil_iff]
    constructor
    · intro h3
      rcases h3 with h3 | h3
      · exact h3
      · rw [h3] at h; simp at h
    · exact Or.inl
  by_cases h0 : i = 0
  · rw [if_pos h0]; rw [if_pos (e2.2 h0)] at e1; exact e1
  · rw [if_neg h0]; rw [if_neg (fun x => h0 (e2.1 x))] at e1; exact e1
theorem boxesB_take {l : List Po.Box} {i : Nat} (h : i < l.length) : Pt.boxesB (l.take (i + 1)) = Pt.boxesB (l.take i) ++ (if i = 0 then Pt.boxB l[i] else Pt.plusB l[i]) := by
  rw [(List.take_append_getElem h).symm, boxesB_snoc]
  congr 1
  by_cases h0 : i = 0
  · rw [if_pos h0, if_pos (by rw [h0, List.take_zero])]
  · rw [if_neg h0, if_neg]
    intro h3
    rw [List.take_eq_nil_iff] at h3
    rcases h3 with h3 | h3
    · exact h0 h3
    · rw [h3] at h; simp at h
/-- a box's cells -/
theorem box4 {w : World} {k : Nat} {x : Po.Box} (h : Blk w k (boxArr x) 27) : w.cell? ⟨k, 0, none⟩ = some (.int .i64 x.x0) ∧ w.cell? ⟨k, 1, none⟩ = some (.int .i64 x.y0) ∧ w.cell? ⟨k, 2, none⟩ = some (.int .i64 x.x1) ∧ w.cell? ⟨k, 3, none⟩ = some (.int .i64 x.y1) :=
  ⟨h.cell 0 rfl, h.cell 1 rfl, h.cell 2 rfl, h.cell 3 rfl⟩
theorem boxB_txt (x : Po.Box) : Pt.put [(⟨(Lib.itoa x.x0).toArray⟩ : ByteArray).data.toList, (⟨(Lib.itoa x.y0).toArray⟩ : ByteArray).data.toList, (⟨(Lib.itoa x.x1).toArray⟩ : ByteArray).data.toList, (⟨(Lib.itoa x.y1).toArray⟩ : ByteArray).data.toList] = Pt.boxB x := by
  rw [txt_bytes, txt_bytes, txt_bytes, txt_bytes]; rfl
theorem boxB_len (x : Po.Box) : (Pt.boxB x).length = 4 + (Lib.itoa x.x0).length + (Lib.itoa x.y0).length + (Lib.itoa x.x1).length + (Lib.itoa x.y1).length := by
  unfold Pt.boxB Pt.put; simp; omega
theorem plusB_len (x : Po.Box) : (Pt.plusB x).length = 2 + (Pt.boxB x).length := by unfold Pt.plusB; rw [put_one]; simp; omega
theorem boxN_nums {x : Po.Box} (h : Ru.boxN x = true) : Ru.num x.x0 = true ∧ Ru.num x.y0 = true ∧ Ru.num x.x1 = true ∧ Ru.num x.y1 = true := by
  unfold Ru.boxN at h; simp only [Bool.and_eq_true] at h; exact ⟨h.1.1.1, h.1.1.2, h.1.2, h.2⟩

set_option maxRecDepth 100000 in
set_option maxHeartbeats 4000000 in
theorem wboxes_any {B b : Nat} {l0 : List UInt8} {w : World} {v : Value} {l : List Po.Box} (h : WB B b l0 w) (hr : ∀ w', Below B w w' → BRow w' v l) (hb : ∀ x ∈ l, Ru.boxN x = true) (hlen : l0.length + (Pt.boxesB l).length ≤ 140737488355328) (hn : l.length ≤ 140737488355328) :
    Calls Tryz.prog 63 #[.pointer (some ⟨b, 0, none⟩), v] w fun e w' => e = .returned (.tuple #[]) ∧ WB B b (l0 ++ Pt.boxesB l) w' ∧ Wrote B b w w' := by
  have hH := hid h
  have hr' := hid hr
  have hb' := hid hb
  have hl' := hid hlen
  have hst := hid (show WB B b (l0 ++ Pt.boxesB (l.take 0)) w by rw [List.take_zero]; show WB B b (l0 ++ []) w; rw [List.append_nil]; exact h)
  obtain ⟨vp, vc, rfl⟩ := (hr w (Below.refl _ _)).shape
  clear h hr hb hlen
  go_enter Tryz.func63, Tryz.ntmps63
  go_wp2_with fail
  go_loopw [8] (fun u wr => ∃ i : Nat, u = .int .i64 i ∧ i ≤ l.length ∧ WB B b (l0 ++ Pt.boxesB (l.take i)) wr ∧ Wrote B b w wr) (fun u _ => l.length - (intOf u).toNat)
  case atStart => exact ⟨0, rfl, Nat.zero_le _, hst.out, Wrote.refl _ _ _⟩
  case round =>
    obtain ⟨i, rfl, hle, hB, hW⟩ := hrel
    have B0 := hid hB
    have W0 := hid hW
    clear hB hW hst
    by_cases hlt : i < l.length
    · have i0 : (0 : Int) ≤ i := by omega
      have i1 : (i : Int) < l.length := by omega
      obtain ⟨g, off, cap, hv, hs0⟩ : ∃ g off cap, Value.slice vp l.length vc = .slice (some ⟨g, off, none⟩) l.length cap ∧ SRow wr g off cap 4 boxArr l := by
        rcases brow_of (hr'.out wr W0.out.bel) with ⟨_, _, _, h0⟩ | h0
        · rw [h0] at hlt; simp at hlt
        · exact h0
      cases hv
      have hs := hid (hs0.get i hlt)
      have hbx := hid (boxN_nums (hb'.out _ (List.getElem_mem hlt)))
      have htk := hid (boxesB_take hlt)
      have hbl := boxesB_le hlt
      have hll := hl'.out
      have hlt' := hid (show (l0 ++ Pt.boxesB (l.take i)).length + (if i = 0 then Pt.boxB l[i] else Pt.plusB l[i]).length ≤ 140737488355328 by rw [List.length_append]; omega)
      clear hs0 hbl hll
      generalize l[i] = x at *
      have z := balloc wr (.cells (boxArr x) 27)
      have B1 := hid (B0.out.ext z)
      have W1 := hid (W0.out.trans (Wrote.ext B0.out.le z))
      have A1 := hid (Blk.new wr (boxArr x) 27)
      have hkb : wr.heap.size ≠ b := by have := B0.out.lt; omega
      clear z
      go_upto_region 3 with (first | (refine wpList_load_at rfl 27 (.tmp 11) rfl 12 rfl g (off + i * 4) (boxArr x) (hs.out) rfl Tryz.underlying27 rfl (by kernel_rfl) ?_) | (refine wpList_store_new rfl 27 (.tmp 5) (.tmp 12) rfl rfl wr 27 _ (boxArr x) rfl rfl rfl (by kernel_rfl) rfl (boxArr_one x) ?_))
      clear hs
      generalize wr.alloc (.cells (boxArr x) 27) = wa at *
      generalize wr.heap.size = k at *
      go_upto_if 14 with (fail)
      go_cut [5] (fun s5 wx => s5 = .pointer (some ⟨k, 0, none⟩) ∧ WB B b (l0 ++ Pt.boxesB (l.take i) ++ (if i = 0 then [] else Pt.put [[43]])) wx ∧ Wrote B b w wx ∧ Blk wx k (boxArr x) 27)
      case first =>
        by_cases hz : i = 0
        · have hd : ¬ 0 < i := by omega
          have hz' := hid hz
          clear hz
          go_wp2_with fail
          go_meet
          case rel => exact ⟨rfl, by rw [if_pos hz'.out, List.append_nil]; exact B1.out, W1.out, A1.out⟩
        · have hd : 0 < i := by omega
          rw [if_neg hz, plusB_len] at hlt'
          have hz' := hid hz
          clear hz
          go_wp2_with fail
          refine (put1_any B1.out ⟨#[43]⟩ (by have := hlt'.out; show _ + 2 ≤ _; omega) _ rfl).mono ?_
          rintro e w2 ⟨rfl, h2, q2⟩
          have B2 := hid h2
          have W2 := hid (W1.out.trans q2)
          have A2 := hid (A1.out.wrote q2 hkb (by decide))
          clear h2 q2
          go_wp2_with fail
          go_meet
          case rel => exact ⟨rfl, by rw [if_neg hz'.out]; exact B2.out, W2.out, A2.out⟩
      case rest =>
        obtain ⟨rfl, hB, hW, hA⟩ := hcut
        have B2 := hid hB.drew
        have W2 := hid hW.drewr
        have A2 := hid (Blk.drew hA)
        have S2 := box4 (Blk.drew hA)
        have hl2 := hid (show (l0 ++ Pt.boxesB (l.take i) ++ (if i = 0 then [] else Pt.put [[43]])).length + (Pt.boxB x).length ≤ 140737488355328 by
          have := hlt'.out
          rw [List.length_append]
          by_cases hz : i = 0
          · rw [if_pos hz] at *; exact this
          · rw [if_neg hz] at *; rw [plusB_len] at this; rw [put_one]; show _ + 2 + _ ≤ _; omega)
        have hfin := hid (show l0 ++ Pt.boxesB (l.take (i + 1)) = (l0 ++ Pt.boxesB (l.take i) ++ (if i = 0 then [] else Pt.put [[43]])) ++ Pt.boxB x by
          rw [htk.out]
          by_cases hz : i = 0
          · rw [if_pos hz, if_pos hz, List.append_nil, List.append_assoc]
          · rw [if_neg hz, if_neg hz]; unfold Pt.plusB; simp only [List.append_assoc])
        clear hB hW hA B1 W1 A1 B0 W0 hlt'
        generalize l0 ++ Pt.boxesB (l.take i) ++ (if i = 0 then [] else Pt.put [[43]]) = acc at *
        obtain ⟨x0, y0, x1, y1⟩ := x
        simp only at S2 hbx
        obtain ⟨n0, n1, n2, n3⟩ := hbx.out
        have N0 := hid n0
        have N1 := hid n1
        have N2 := hid n2
        have N3 := hid n3
        clear n0 n1 n2 n3 hbx
        go_wp2_with fail
        go_region_held3 (fun w' => w'.cell? ⟨k, 0, none⟩ = some (.int .i64 x0) ∧ w'.cell? ⟨k, 1, none⟩ = some (.int .i64 y0) ∧ w'.cell? ⟨k, 2, none⟩ = some (.int .i64 x1) ∧ w'.cell? ⟨k, 3, none⟩ = some (.int .i64 y1))
          (first | with_reducible assumption | go_keep) (first
          | ((go_at_call 62
              with_reducible refine (num_any B2.out x0 N0.out).mono ?_
              rintro en w3 ⟨rfl, hb⟩
              have B3 := hid (B2.out.ext hb)
              have W3 := hid (W2.out.trans (Wrote.ext B2.out.le hb))
              have A3 := hid (A2.out.ext hb)
              have S3 := box4 (A2.out.ext hb)
              simp only at S3
              clear hb S2 B2 W2 A2))
          | ((go_at_call 62
              with_reducible refine (num_any B3.out y0 N1.out).mono ?_
              rintro en w4 ⟨rfl, hb⟩
              have B4 := hid (B3.out.ext hb)
              have W4 := hid (W3.out.trans (Wrote.ext B3.out.le hb))
              have A4 := hid (A3.out.ext hb)
              have S4 := box4 (A3.out.ext hb)
              simp only at S4
              clear hb S3 B3 W3 A3))
          | ((go_at_call 62
              with_reducible refine (num_any B4.out x1 N2.out).mono ?_
              rintro en w5 ⟨rfl, hb⟩
              have B5 := hid (B4.out.ext hb)
              have W5 := hid (W4.out.trans (Wrote.ext B4.out.le hb))
              have A5 := hid (A4.out.ext hb)
              have S5 := box4 (A4.out.ext hb)
              simp only at S5
              clear hb S4 B4 W4 A4))
          | ((go_at_call 62
              with_reducible refine (num_any B5.out y1 N3.out).mono ?_
              rintro en w6 ⟨rfl, hb⟩
              have B6 := hid (B5.out.ext hb)
              have W6 := hid (W5.out.trans (Wrote.ext B5.out.le hb))
              have A6 := hid (A5.out.ext hb)
              have S6 := box4 (A5.out.ext hb)
              simp only at S6
              clear hb S5 B5 W5 A5))
          | ((go_at_call 61
              with_reducible refine (put4_any B6.out ⟨(Lib.itoa x0).toArray⟩ ⟨(Lib.itoa y0).toArray⟩ ⟨(Lib.itoa x1).toArray⟩ ⟨(Lib.itoa y1).toArray⟩ (by have := hl2.out; rw [boxB_len] at this; rw [txt_size, txt_size, txt_size, txt_size]; exact this) _ rfl).mono ?_
              rintro en w7 ⟨rfl, h7, q7⟩
              rw [boxB_txt ⟨x0, y0, x1, y1⟩] at h7
              have B7 := hid h7
              have W7 := hid (W6.out.trans q7)
              have S7 := box4 (A6.out.wrote q7 hkb (by decide))
              simp only at S7
              clear h7 q7 S6 B6 W6)))
        go_wp2_with fail
        go_roundw
        case rel => exact ⟨i + 1, by go_num, by omega, by rw [hfin.out]; exact B7.out, W7.out⟩
        case measure => simp [intOf]; omega
    · obtain rfl : i = l.length := by omega
      have E := hid (show WB B b (l0 ++ Pt.boxesB l) wr by have h := B0.out; rwa [List.take_of_length_le (Nat.le_refl _)] at h)
      clear B0
      go_wp2_with fail
      go_end0
      exact ⟨rfl, E.out, W0.out⟩

end Go.Proofs.YteddkgpnklfppaaGreatDoor
