/-
  The walks of the document's own same and Same: declarations that are alike.
  The document's own reader of policies, a value: is, place, on, wrong, want.
  The document's own reader of policies: want, of.
  Small laws on stores and on two results that are structs.
-/
import Derived.Test.YtnoieobjfihbeaaGreatDoorPk23
import Derived.Test.YtnoieobjfihbeaaGreatDoorPk17
import Derived.Test.YtnoieobjfihbeaaGreatDoorPk05
import Derived.Test.YtnoieobjfihbeaaGreatDoorPk08
import Derived.Test.YtnoieobjfihbeaaGreatDoorPk10

namespace Go.Proofs.YtnoieobjfihbeaaGreatDoor
open Go.RowKit Go.Sort

set_option maxHeartbeats 2000000 in
theorem wsame_true (x : Po.Who) (w : World) : Calls Tryz.prog 20 #[.agg (whoArr x), .agg (whoArr x), .bool true] w fun e w' => e = .returned (.bool true) ∧ Below w.heap.size w w' := by
  obtain ⟨any, name, n, l, c⟩ := x
  unfold whoArr
  simp only
  go_enter Tryz.func20, Tryz.ntmps20
  go_wp2
  go_ret
  exact ⟨rfl, bthen (balloc _ _) (balloc _ _)⟩
set_option maxHeartbeats 2000000 in
theorem wsame_false (x y : Po.Who) (w : World) (h : Po.unW x = Po.unW y) : Calls Tryz.prog 20 #[.agg (whoArr x), .agg (whoArr y), .bool false] w fun e w' => e = .returned (.bool true) ∧ Below w.heap.size w w' := by
  obtain ⟨any, name, n, l, c⟩ := x
  obtain ⟨any2, name2, n2, l2, c2⟩ := y
  unfold Po.unW at h
  simp only [Po.Who.mk.injEq, and_true] at h
  obtain ⟨rfl, rfl, rfl⟩ := h
  unfold whoArr
  simp only
  go_enter Tryz.func20, Tryz.ntmps20
  go_wp2
  go_ret
  exact ⟨rfl, bthen (balloc _ _) (balloc _ _)⟩
theorem unD_parts {a b : Po.Decl} (h : Po.unD a = Po.unD b) : a.kind = b.kind ∧ a.name = b.name ∧ a.n = b.n ∧ a.boxes = b.boxes ∧ Po.unW a.role = Po.unW b.role ∧ a.lo = b.lo ∧ a.hi = b.hi ∧ Po.unW a.label = Po.unW b.label ∧ Po.unW a.place = Po.unW b.place ∧ a.zoom = b.zoom := by
  unfold Po.unD at h
  simp only [Po.Decl.mk.injEq, and_true] at h
  exact h
theorem unD_at {l m : List Po.Decl} (h : l.map Po.unD = m.map Po.unD) {i : Nat} (hi : i < l.length) : ∃ hj : i < m.length, Po.unD l[i] = Po.unD m[i] := by
  have hl : l.length = m.length := by have := congrArg List.length h; simpa using this
  refine ⟨by omega, ?_⟩
  have h2 : (l.map Po.unD)[i]'(by simpa using hi) = (m.map Po.unD)[i]'(by simp; omega) := by simp only [h]
  simpa using h2

set_option maxRecDepth 100000 in
set_option maxHeartbeats 8000000 in
theorem psame_true {w : World} {v1 v2 : Value} {l : List Po.Decl} (h1 : DSl w v1 l) (h2 : DSl w v2 l) (hn : l.length ≤ 140737488355328) (hs : ∀ d ∈ l, DSmall d) :
    Calls Tryz.prog 7 #[v1, v2, .bool true] w fun e w' => e = .returned (.bool true) ∧ Below w.heap.size w w' := by
  obtain ⟨p1, c1, rfl⟩ := h1.shape
  obtain ⟨p2, c2, rfl⟩ := h2.shape
  have hP : ∀ {p : Option Addr} {c : Nat} {l : List Po.Decl}, DSl w (.slice p l.length c) l → 0 < l.length → ∃ g off, p = some ⟨g, off, none⟩ ∧ DRow w g off c l := fun h hpos => by
    rcases h with ⟨_, h0⟩ | ⟨g, off, cap, hv, hr⟩
    · rw [h0] at hpos; simp at hpos
    · cases hv; exact ⟨g, off, rfl, hr⟩
  have hP1 := hid (hP h1)
  have hP2 := hid (hP h2)
  have hsm := hid hs
  clear h1 h2 hP hs
  go_enter Tryz.func7, Tryz.ntmps7
  go_wp2_with fail
  go_loopw [7] (fun u wr => ∃ i : Nat, u = .int .i64 i ∧ i ≤ l.length ∧ Below w.heap.size w wr) (fun u _ => l.length - (intOf u).toNat)
  case atStart => exact ⟨0, rfl, Nat.zero_le _, Below.refl _ _⟩
  case round =>
    obtain ⟨i, rfl, hle, hQ⟩ := hrel
    have Q0 := hid hQ
    clear hQ
    by_cases hlt : i < l.length
    · obtain ⟨g1, o1, rfl, r1⟩ := hP1.out (by omega)
      obtain ⟨g2, o2, rfl, r2⟩ := hP2.out (by omega)
      obtain ⟨x1, s1⟩ := r1.at Q0.out hlt
      obtain ⟨x2, s2⟩ := r2.at Q0.out hlt
      have hfew := hid (hsm.out _ (List.getElem_mem hlt)).boxes
      generalize l[i] = d at *
      have S1 := hid s1
      have z1 := balloc wr (.cells (declCells d x1) 49)
      have hat2 : Hid ((wr.alloc (.cells (declCells d x1) 49)).rangeAt g2 (o2 + i * 24) (declCells d x2).toList) := hid (fun j u hj => (z1.cell (p := ⟨g2, o2 + i * 24 + j, none⟩) (Nat.lt_of_lt_of_le r2.lt Q0.out.size)).trans (s2.at_ j u hj))
      have ho1 := hid s1.one
      have ho2 := hid s2.one
      have Q1 := hid (bthen Q0.out z1)
      have A1 := hid (Blk.new wr (declCells d x1) 49)
      have R1a := hid (s1.box.ext z1)
      have R2a := hid (s2.box.ext z1)
      clear s1 s2 r1 r2 z1
      go_upto_region 7 with (first | (refine wpList_load_at rfl 49 (.tmp 23) rfl 24 rfl g1 (o1 + i * 24) (declCells d x1) (S1.out.at_) rfl Tryz.underlying49 rfl (by kernel_rfl) ?_) | (refine wpList_store_new rfl 49 (.tmp 8) (.tmp 24) rfl rfl wr 49 _ (declCells d x1) rfl rfl rfl (by kernel_rfl) rfl (ho1.out) ?_))
      clear S1
      generalize wr.alloc (.cells (declCells d x1) 49) = w1 at *
      generalize wr.heap.size = ba at *
      have z2 := balloc w1 (.cells (declCells d x2) 49)
      have A2 := hid (A1.out.ext z2)
      have B2 := hid (Blk.new w1 (declCells d x2) 49)
      have Q2 := hid (bthen Q1.out z2)
      have R1 := hid (R1a.out.ext z2)
      have R2 := hid (R2a.out.ext z2)
      clear z2 R1a R2a A1 Q1
      go_upto_region 8 with (first | (refine wpList_load_at rfl 49 (.tmp 27) rfl 28 rfl g2 (o2 + i * 24) (declCells d x2) (hat2.out) rfl Tryz.underlying49 rfl (by kernel_rfl) ?_) | (refine wpList_store_new rfl 49 (.tmp 9) (.tmp 28) rfl rfl w1 49 _ (declCells d x2) rfl rfl rfl (by kernel_rfl) rfl (ho2.out) ?_))
      clear hat2 ho1 ho2
      generalize w1.alloc (.cells (declCells d x2) 49) = w2 at *
      generalize w1.heap.size = bb at *
      obtain ⟨q1, d1, rfl⟩ := R1.out.shape
      obtain ⟨q2, d2, rfl⟩ := R2.out.shape
      have a0 := A2.out.cell 0 (v := .int .i64 d.kind) rfl
      have b0 := B2.out.cell 0 (v := .int .i64 d.kind) rfl
      have a1 := A2.out.cell 1 (v := .string d.name) rfl
      have b1 := B2.out.cell 1 (v := .string d.name) rfl
      have a2 := A2.out.cell 2 (v := .int .i64 d.n) rfl
      have b2 := B2.out.cell 2 (v := .int .i64 d.n) rfl
      have a3 := A2.out.cell 3 (v := .slice q1 d.boxes.length d1) rfl
      have b3 := B2.out.cell 3 (v := .slice q2 d.boxes.length d2) rfl
      have R2' := R2
      clear R2
      go_wp2_with fail
      refine (samerects_any R1.out R2'.out (by have := hfew.out; omega)).mono ?_
      rintro e3 w3 ⟨rfl, hb3⟩
      have Q3 := hid (bthen Q2.out hb3)
      have A3 := hid (A2.out.ext hb3)
      have B3 := hid (B2.out.ext hb3)
      clear hb3 a0 a1 a2 a3 b0 b1 b2 b3 A2 B2 Q2 R1 R2'
      go_wp2_with (first | (refine wpList_load_partG rfl 47 (.tmp 57) rfl 58 rfl ba (4) (whoArr d.role) (range_role A3.out) rfl Tryz.underlying47 rfl (by kernel_rfl) ?_) | (refine wpList_load_partG rfl 47 (.tmp 59) rfl 60 rfl bb (4) (whoArr d.role) (range_role B3.out) rfl Tryz.underlying47 rfl (by kernel_rfl) ?_))
      refine (wsame_true d.role _).mono ?_
      rintro e4 w4 ⟨rfl, hb4⟩
      have Q4 := hid (bthen Q3.out hb4)
      have A4 := hid (A3.out.ext hb4)
      have B4 := hid (B3.out.ext hb4)
      clear hb4 A3 B3 Q3
      have a9 := A4.out.cell 9 (v := .int .i64 d.lo) rfl
      have b9 := B4.out.cell 9 (v := .int .i64 d.lo) rfl
      have a10 := A4.out.cell 10 (v := .int .i64 d.hi) rfl
      have b10 := B4.out.cell 10 (v := .int .i64 d.hi) rfl
      go_wp2_with (first | (refine wpList_load_partG rfl 47 (.tmp 79) rfl 80 rfl ba (11) (whoArr d.label) (range_label A4.out) rfl Tryz.underlying47 rfl (by kernel_rfl) ?_) | (refine wpList_load_partG rfl 47 (.tmp 81) rfl 82 rfl bb (11) (whoArr d.label) (range_label B4.out) rfl Tryz.underlying47 rfl (by kernel_rfl) ?_))
      refine (wsame_true d.label _).mono ?_
      rintro e5 w5 ⟨rfl, hb5⟩
      have Q5 := hid (bthen Q4.out hb5)
      have A5 := hid (A4.out.ext hb5)
      have B5 := hid (B4.out.ext hb5)
      clear hb5 A4 B4 Q4 a9 a10 b9 b10
      go_wp2_with (first | (refine wpList_load_partG rfl 47 (.tmp 87) rfl 88 rfl ba (16) (whoArr d.place) (range_place A5.out) rfl Tryz.underlying47 rfl (by kernel_rfl) ?_) | (refine wpList_load_partG rfl 47 (.tmp 89) rfl 90 rfl bb (16) (whoArr d.place) (range_place B5.out) rfl Tryz.underlying47 rfl (by kernel_rfl) ?_))
      refine (wsame_true d.place _).mono ?_
      rintro e6 w6 ⟨rfl, hb6⟩
      have Q6 := hid (bthen Q5.out hb6)
      have A6 := hid (A5.out.ext hb6)
      have B6 := hid (B5.out.ext hb6)
      clear hb6 A5 B5 Q5
      have a21 := A6.out.cell 21 (v := .int .i64 d.zoom) rfl
      have b21 := B6.out.cell 21 (v := .int .i64 d.zoom) rfl
      have a22 := A6.out.cell 22 (v := .int .i64 d.line) rfl
      have b22 := B6.out.cell 22 (v := .int .i64 d.line) rfl
      have a23 := A6.out.cell 23 (v := .int .i64 d.col) rfl
      have b23 := B6.out.cell 23 (v := .int .i64 d.col) rfl
      go_wp2_with fail
      go_roundw
      case rel => exact ⟨i + 1, by go_num, by omega, Q6.out⟩
      case measure => simp [intOf]; omega
    · obtain rfl : i = l.length := by omega
      go_wp2_with fail
      go_ret
      exact ⟨rfl, Q0.out⟩

set_option maxRecDepth 100000 in
set_option maxHeartbeats 8000000 in
theorem psame_false {w : World} {v1 v2 : Value} {l : List Po.Decl} {m : List Po.Decl} (h1 : DSl w v1 l) (h2 : DSl w v2 m) (he : l.map Po.unD = m.map Po.unD) (hn : l.length ≤ 140737488355328) (hs : ∀ d ∈ l, DSmall d) :
    Calls Tryz.prog 7 #[v1, v2, .bool false] w fun e w' => e = .returned (.bool true) ∧ Below w.heap.size w w' := by
  have hlm : l.length = m.length := by have := congrArg List.length he; simpa using this
  have he' := hid he
  have hS := hid (show ∀ (i : Nat) (hi : i < l.length), ∃ hj : i < m.length, Po.unD l[i] = Po.unD m[i] from fun i hi => unD_at he hi)
  clear he
  obtain ⟨p1, c1, rfl⟩ := h1.shape
  obtain ⟨p2, c2, rfl⟩ := h2.shape
  have hP : ∀ {p : Option Addr} {c : Nat} {l : List Po.Decl}, DSl w (.slice p l.length c) l → 0 < l.length → ∃ g off, p = some ⟨g, off, none⟩ ∧ DRow w g off c l := fun h hpos => by
    rcases h with ⟨_, h0⟩ | ⟨g, off, cap, hv, hr⟩
    · rw [h0] at hpos; simp at hpos
    · cases hv; exact ⟨g, off, rfl, hr⟩
  have hP1 := hid (hP h1)
  have hP2 := hid (hP h2)
  have hsm := hid hs
  clear h1 h2 hP hs
  rw [← hlm] at *
  have hlm' := hid hlm
  clear hlm
  go_enter Tryz.func7, Tryz.ntmps7
  go_wp2_with fail
  go_loopw [7] (fun u wr => ∃ i : Nat, u = .int .i64 i ∧ i ≤ l.length ∧ Below w.heap.size w wr) (fun u _ => l.length - (intOf u).toNat)
  case atStart => exact ⟨0, rfl, Nat.zero_le _, Below.refl _ _⟩
  case round =>
    obtain ⟨i, rfl, hle, hQ⟩ := hrel
    have Q0 := hid hQ
    clear hQ
    by_cases hlt : i < l.length
    · obtain ⟨g1, o1, rfl, r1⟩ := hP1.out (by omega)
      obtain ⟨g2, o2, rfl, r2⟩ := hP2.out (by have := hlm'.out; omega)
      obtain ⟨hj, hu⟩ := hS.out i hlt
      obtain ⟨u0, u1, u2, u3, u4, u5, u6, u7, u8, u9⟩ := unD_parts hu
      obtain ⟨x1, s1⟩ := r1.at Q0.out hlt
      obtain ⟨x2, s2⟩ := r2.at Q0.out hj
      have hfew := hid (hsm.out _ (List.getElem_mem hlt)).boxes
      rw [u3] at hfew
      have U4 := hid u4
      have U7 := hid u7
      have U8 := hid u8
      clear u4 u7 u8 hu
      generalize l[i] = d at *
      generalize m[i] = e at *
      have S1 := hid s1
      have z1 := balloc wr (.cells (declCells d x1) 49)
      have hat2 : Hid ((wr.alloc (.cells (declCells d x1) 49)).rangeAt g2 (o2 + i * 24) (declCells e x2).toList) := hid (fun j u hj => (z1.cell (p := ⟨g2, o2 + i * 24 + j, none⟩) (Nat.lt_of_lt_of_le r2.lt Q0.out.size)).trans (s2.at_ j u hj))
      have ho1 := hid s1.one
      have ho2 := hid s2.one
      have Q1 := hid (bthen Q0.out z1)
      have A1 := hid (Blk.new wr (declCells d x1) 49)
      have R1a := hid (s1.box.ext z1)
      have R2a := hid (s2.box.ext z1)
      clear s1 s2 r1 r2 z1
      have u0' := hid u0
      have u1' := hid u1
      have u2' := hid u2
      have u3' := hid u3
      have u5' := hid u5
      have u6' := hid u6
      have u9' := hid u9
      clear u0 u1 u2 u3 u5 u6 u9
      go_upto_region 7 with (first | (refine wpList_load_at rfl 49 (.tmp 23) rfl 24 rfl g1 (o1 + i * 24) (declCells d x1) (S1.out.at_) rfl Tryz.underlying49 rfl (by kernel_rfl) ?_) | (refine wpList_store_new rfl 49 (.tmp 8) (.tmp 24) rfl rfl wr 49 _ (declCells d x1) rfl rfl rfl (by kernel_rfl) rfl (ho1.out) ?_))
      clear S1
      generalize wr.alloc (.cells (declCells d x1) 49) = w1 at *
      generalize wr.heap.size = ba at *
      have z2 := balloc w1 (.cells (declCells e x2) 49)
      have A2 := hid (A1.out.ext z2)
      have B2 := hid (Blk.new w1 (declCells e x2) 49)
      have Q2 := hid (bthen Q1.out z2)
      have R1 := hid (R1a.out.ext z2)
      have R2 := hid (R2a.out.ext z2)
      clear z2 R1a R2a A1 Q1
      go_upto_region 8 with (first | (refine wpList_load_at rfl 49 (.tmp 27) rfl 28 rfl g2 (o2 + i * 24) (declCells e x2) (hat2.out) rfl Tryz.underlying49 rfl (by kernel_rfl) ?_) | (refine wpList_store_new rfl 49 (.tmp 9) (.tmp 28) rfl rfl w1 49 _ (declCells e x2) rfl rfl rfl (by kernel_rfl) rfl (ho2.out) ?_))
      clear hat2 ho1 ho2
      generalize w1.alloc (.cells (declCells e x2) 49) = w2 at *
      generalize w1.heap.size = bb at *
      obtain ⟨q1, d1, rfl⟩ := R1.out.shape
      obtain ⟨q2, d2, rfl⟩ := R2.out.shape
      have a0 := A2.out.cell 0 (v := .int .i64 d.kind) rfl
      have b0 := B2.out.cell 0 (v := .int .i64 e.kind) rfl
      rw [← u0'.out] at b0
      have a1 := A2.out.cell 1 (v := .string d.name) rfl
      have b1 := B2.out.cell 1 (v := .string e.name) rfl
      rw [← u1'.out] at b1
      have a2 := A2.out.cell 2 (v := .int .i64 d.n) rfl
      have b2 := B2.out.cell 2 (v := .int .i64 e.n) rfl
      rw [← u2'.out] at b2
      have a3 := A2.out.cell 3 (v := .slice q1 d.boxes.length d1) rfl
      have b3 := B2.out.cell 3 (v := .slice q2 e.boxes.length d2) rfl
      have R2b := R2.out
      rw [← u3'.out] at R2b b3 hfew
      have R2' := hid R2b
      clear R2b R2
      go_wp2_with fail
      refine (samerects_any R1.out R2'.out (by have := hfew.out; omega)).mono ?_
      rintro e3 w3 ⟨rfl, hb3⟩
      have Q3 := hid (bthen Q2.out hb3)
      have A3 := hid (A2.out.ext hb3)
      have B3 := hid (B2.out.ext hb3)
      clear hb3 a0 a1 a2 a3 b0 b1 b2 b3 A2 B2 Q2 R1 R2'
      go_wp2_with (first | (refine wpList_load_partG rfl 47 (.tmp 57) rfl 58 rfl ba (4) (whoArr d.role) (range_role A3.out) rfl Tryz.underlying47 rfl (by kernel_rfl) ?_) | (refine wpList_load_partG rfl 47 (.tmp 59) rfl 60 rfl bb (4) (whoArr e.role) (range_role B3.out) rfl Tryz.underlying47 rfl (by kernel_rfl) ?_))
      refine (wsame_false d.role e.role _ U4.out).mono ?_
      rintro e4 w4 ⟨rfl, hb4⟩
      have Q4 := hid (bthen Q3.out hb4)
      have A4 := hid (A3.out.ext hb4)
      have B4 := hid (B3.out.ext hb4)
      clear hb4 A3 B3 Q3
      have a9 := A4.out.cell 9 (v := .int .i64 d.lo) rfl
      have b9 := B4.out.cell 9 (v := .int .i64 e.lo) rfl
      rw [← u5'.out] at b9
      have a10 := A4.out.cell 10 (v := .int .i64 d.hi) rfl
      have b10 := B4.out.cell 10 (v := .int .i64 e.hi) rfl
      rw [← u6'.out] at b10
      go_wp2_with (first | (refine wpList_load_partG rfl 47 (.tmp 79) rfl 80 rfl ba (11) (whoArr d.label) (range_label A4.out) rfl Tryz.underlying47 rfl (by kernel_rfl) ?_) | (refine wpList_load_partG rfl 47 (.tmp 81) rfl 82 rfl bb (11) (whoArr e.label) (range_label B4.out) rfl Tryz.underlying47 rfl (by kernel_rfl) ?_))
      refine (wsame_false d.label e.label _ U7.out).mono ?_
      rintro e5 w5 ⟨rfl, hb5⟩
      have Q5 := hid (bthen Q4.out hb5)
      have A5 := hid (A4.out.ext hb5)
      have B5 := hid (B4.out.ext hb5)
      clear hb5 A4 B4 Q4 a9 a10 b9 b10
      go_wp2_with (first | (refine wpList_load_partG rfl 47 (.tmp 87) rfl 88 rfl ba (16) (whoArr d.place) (range_place A5.out) rfl Tryz.underlying47 rfl (by kernel_rfl) ?_) | (refine wpList_load_partG rfl 47 (.tmp 89) rfl 90 rfl bb (16) (whoArr e.place) (range_place B5.out) rfl Tryz.underlying47 rfl (by kernel_rfl) ?_))
      refine (wsame_false d.place e.place _ U8.out).mono ?_
      rintro e6 w6 ⟨rfl, hb6⟩
      have Q6 := hid (bthen Q5.out hb6)
      have A6 := hid (A5.out.ext hb6)
      have B6 := hid (B5.out.ext hb6)
      clear hb6 A5 B5 Q5
      have a21 := A6.out.cell 21 (v := .int .i64 d.zoom) rfl
      have b21 := B6.out.cell 21 (v := .int .i64 e.zoom) rfl
      rw [← u9'.out] at b21
      go_wp2_with fail
      go_roundw
      case rel => exact ⟨i + 1, by go_num, by omega, Q6.out⟩
      case measure => simp [intOf]; omega
    · obtain rfl : i = l.length := by omega
      go_wp2_with fail
      go_ret
      exact ⟨rfl, Q0.out⟩

end Go.Proofs.YtnoieobjfihbeaaGreatDoor

namespace Go.Proofs.YtnoieobjfihbeaaGreatDoor
open Go.RowKit Go.Sort

/-- a reader's cells: what is left, where the text ends, the fault -/
def rdArr (L : Value) (e : Nat × Nat) (st : Po.St) : Array Value := #[L, .int .i64 e.1, .int .i64 e.2, .int .i64 st.f.1, .int .i64 st.f.2.1, .int .i64 st.f.2.2]
structure RRd (w : World) (L : Value) (T : List Lx.Tok) (st : Po.St) : Prop where
  le : st.at_ ≤ T.length
  small : T.length ≤ 1000
  row : ∃ p n c, L = .slice p n c ∧ n + st.at_ = T.length ∧ n ≤ c ∧ (0 < n → ∃ g off cap, p = some ⟨g, off + st.at_ * 5, none⟩ ∧ TokRow w g off cap T)
theorem RRd.ext {w w' : World} {L : Value} {T : List Lx.Tok} {st : Po.St} (h : RRd w L T st) (hb : Below w.heap.size w w') : RRd w' L T st :=
  ⟨h.le, h.small, by
    obtain ⟨p, n, c, h1, h2, h3, h4⟩ := h.row
    exact ⟨p, n, c, h1, h2, h3, fun hn => by obtain ⟨g, off, cap, h5, h6⟩ := h4 hn; exact ⟨g, off, cap, h5, tokRow_ext h6 hb⟩⟩⟩
/-- the same place, another fault -/
theorem RRd.at_ {w : World} {L : Value} {T : List Lx.Tok} {st st' : Po.St} (h : RRd w L T st) (e : st'.at_ = st.at_) : RRd w L T st' :=
  ⟨e ▸ h.le, h.small, by obtain ⟨p, n, c, h1, h2, h3, h4⟩ := h.row; exact ⟨p, n, c, h1, by rw [e]; exact h2, h3, by rw [e]; exact h4⟩⟩
theorem RRd.wrong {w : World} {L : Value} {T : List Lx.Tok} {st : Po.St} (h : RRd w L T st) (e : Nat × Nat) : RRd w L T (Po.wrong T e st) :=
  h.at_ (by unfold Po.wrong; split <;> rfl)
theorem RRd.empty {w : World} {L : Value} {T : List Lx.Tok} {st : Po.St} (h : RRd w L T st) (hn : ¬ st.at_ < T.length) : ∃ p c, L = .slice p 0 c ∧ T[st.at_]? = none := by
  obtain ⟨p, n, c, h1, h2, h3, h4⟩ := h.row
  obtain rfl : n = 0 := by omega
  exact ⟨p, c, h1, List.getElem?_eq_none (by omega)⟩
theorem RRd.head {w : World} {L : Value} {T : List Lx.Tok} {st : Po.St} (h : RRd w L T st) (hl : st.at_ < T.length) :
    ∃ g o n c t, L = .slice (some ⟨g, o, none⟩) n c ∧ 0 < n ∧ n ≤ c ∧ n ≤ 1000 ∧ T[st.at_]? = some t ∧ g < w.heap.size ∧ (∀ w', Below w.heap.size w w' → TokAt w' g o t.kind (Po.txt t.text) t.n t.line t.col) ∧
      ∀ q c', (n = 1 ∨ q = some ⟨g, o + 5, none⟩) → n - 1 ≤ c' → RRd w (.slice q (n - 1) c') T (Po.on st) := by
  obtain ⟨p, n, c, h1, h2, h3, h4⟩ := h.row
  obtain ⟨g, off, cap, rfl, hr⟩ := h4 (by omega)
  have hsm := h.small
  refine ⟨g, off + st.at_ * 5, n, c, T[st.at_], h1, by omega, h3, by omega, List.getElem?_eq_getElem hl, hr.lt, fun w' hb => (tokRow_ext hr hb).at hl, fun q c' hq hc => ⟨hl, h.small, q, n - 1, c', rfl, ?_, hc, fun hn => ?_⟩⟩
  · show n - 1 + (st.at_ + 1) = T.length; omega
  · rcases hq with hq | hq
    · omega
    · refine ⟨g, off, cap, ?_, hr⟩
      rw [hq]
      show some (⟨g, off + st.at_ * 5 + 5, none⟩ : Addr) = some ⟨g, off + (st.at_ + 1) * 5, none⟩
      rw [show off + st.at_ * 5 + 5 = off + (st.at_ + 1) * 5 by omega]

set_option maxHeartbeats 2000000 in
theorem rris_any {w0 w : World} {L : Value} {T : List Lx.Tok} {st : Po.St} (e : Nat × Nat) (h : RRd w0 L T st) (hw0 : Below w0.heap.size w0 w) (s : ByteArray) :
    Calls Tryz.prog 46 #[.agg (rdArr L e st), .string s] w fun en w' => en = .returned (.bool (Po.is T s.data.toList st)) ∧ Below w.heap.size w w' := by
  have W0 := hid hw0
  clear hw0
  have Q0 := hid (balloc w (.cells (rdArr L e st) 53))
  have h' := hid h
  obtain ⟨i, fe, fl, fc⟩ := st
  obtain ⟨el, ec⟩ := e
  unfold rdArr at *
  simp only at Q0 ⊢
  by_cases h0 : fe = 0
  · have h0b : ((fe : Int) == 0) = true := by rw [beq_iff_eq, h0]; rfl
    have h0' := hid h0
    clear h0
    by_cases hi : i < T.length
    · obtain ⟨g, o, n, c, t, rfl, hn0, hnc, hn1, ht, hg, hat, _⟩ := h'.out.head hi
      have he := hid (show Po.is T s.data.toList ⟨i, fe, fl, fc⟩ = ((Po.txt t.text).toList == s.toList) by unfold Po.is; rw [txt_eq]; simp only [ht, h0'.out]; rfl)
      have d1 := (hat _ (bthen W0.out Q0.out)).c1
      have hnI : (0 : Int) < n := by omega
      have h1000 : (n : Int) ≤ 1000 := by omega
      have hgw := Nat.lt_of_lt_of_le hg W0.out.size
      clear hat ht h h'
      generalize Po.txt t.text = x at *
      cases hx : (x.toList == s.toList) with
      | true =>
        go_enter Tryz.func46, Tryz.ntmps46
        go_wp2_with fail
        go_ret
        rw [he.out, hx]
        exact ⟨rfl, Q0.out⟩
      | false =>
        go_enter Tryz.func46, Tryz.ntmps46
        go_wp2_with fail
        go_ret
        rw [he.out, hx]
        exact ⟨rfl, Q0.out⟩
    · obtain ⟨p, c, rfl, ht⟩ := h'.out.empty hi
      have he : Po.is T s.data.toList ⟨i, fe, fl, fc⟩ = false := by unfold Po.is; simp only at ht; simp only [ht, h0'.out]; rfl
      rw [he]
      clear h h' ht
      go_enter Tryz.func46, Tryz.ntmps46
      go_wp2_with fail
      go_ret
      exact ⟨rfl, Q0.out⟩
  · have h0' : ((fe : Int) == 0) = false := by rw [beq_eq_false_iff_ne]; omega
    have he : Po.is T s.data.toList ⟨i, fe, fl, fc⟩ = false := by unfold Po.is; simp [h0]
    rw [he]
    clear h0 h h'
    go_enter Tryz.func46, Tryz.ntmps46
    go_wp2_with fail
    go_ret
    exact ⟨rfl, Q0.out⟩

set_option maxHeartbeats 2000000 in
theorem rrplace_any {w0 w : World} {L : Value} {T : List Lx.Tok} {st : Po.St} (e : Nat × Nat) (h : RRd w0 L T st) (hw0 : Below w0.heap.size w0 w) :
    Calls Tryz.prog 44 #[.agg (rdArr L e st)] w fun en w' => en = .returned (.agg #[.int .i64 (Po.place T e st).1, .int .i64 (Po.place T e st).2]) ∧ Below w.heap.size w w' := by
  have W0 := hid hw0
  clear hw0
  have Q0 := hid (balloc w (.cells (rdArr L e st) 53))
  have h' := hid h
  obtain ⟨i, fe, fl, fc⟩ := st
  obtain ⟨el, ec⟩ := e
  unfold rdArr at *
  simp only at Q0 ⊢
  by_cases hi : i < T.length
  · obtain ⟨g, o, n, c, t, rfl, hn0, hnc, hn1, ht, hg, hat, _⟩ := h'.out.head hi
    have he := hid (show Po.place T (el, ec) ⟨i, fe, fl, fc⟩ = (t.line, t.col) by unfold Po.place; simp only [ht])
    have d3 := (hat _ (bthen W0.out (bthen Q0.out (balloc _ (.cells #[.int .i64 0, .int .i64 0] 25))))).c3
    have d4 := (hat _ (bthen W0.out (bthen Q0.out (balloc _ (.cells #[.int .i64 0, .int .i64 0] 25))))).c4
    have hnI : (0 : Int) < n := by omega
    have h1000 : (n : Int) ≤ 1000 := by omega
    have hgw := Nat.lt_of_lt_of_le hg W0.out.size
    clear hat ht h h'
    go_enter Tryz.func44, Tryz.ntmps44
    go_wp2_with fail
    refine bodyPost_ret (v := .agg #[.int .i64 t.line, .int .i64 t.col]) (by simp [results, Tryz.results44, go_sem]) rfl ⟨?_, bthen Q0.out (balloc _ _)⟩
    rw [he.out]
  · obtain ⟨p, c, rfl, ht⟩ := h'.out.empty hi
    have he := hid (show Po.place T (el, ec) ⟨i, fe, fl, fc⟩ = (el, ec) by unfold Po.place; simp only at ht; simp only [ht])
    clear h h' ht
    go_enter Tryz.func44, Tryz.ntmps44
    go_wp2_with fail
    refine bodyPost_ret (v := .agg #[.int .i64 el, .int .i64 ec]) (by simp [results, Tryz.results44, go_sem]) rfl ⟨?_, bthen Q0.out (balloc _ _)⟩
    rw [he.out]

/-- a reader that comes back: the plain state, and what is left, wherever it lies -/
def RdBack (w : World) (T : List Lx.Tok) (e : Nat × Nat) (st : Po.St) (en : Ending) : Prop := ∃ L, en = .returned (.agg (rdArr L e st)) ∧ RRd w L T st

set_option maxHeartbeats 2000000 in
theorem rron_any {w0 w : World} {L : Value} {T : List Lx.Tok} {st : Po.St} (e : Nat × Nat) (h : RRd w0 L T st) (hw0 : Below w0.heap.size w0 w) (hi : st.at_ < T.length) :
    Calls Tryz.prog 48 #[.agg (rdArr L e st)] w fun en w' => RdBack w0 T e (Po.on st) en ∧ Below w.heap.size w w' := by
  have W0 := hid hw0
  clear hw0
  obtain ⟨g, o, n, c, t, rfl, hn0, hnc, hn1, _, hg, _, hnext⟩ := h.head hi
  have hnext' := hid hnext
  have Q0 := hid (balloc w (.cells (rdArr (.slice (some ⟨g, o, none⟩) n c) e st) 53))
  obtain ⟨i, fe, fl, fc⟩ := st
  obtain ⟨el, ec⟩ := e
  unfold RdBack rdArr at *
  simp only at Q0 ⊢
  have h1 : (1 : Int) ≤ n := by omega
  have h2 : (n : Int) ≤ c := by omega
  clear h hnext
  by_cases hc1 : c = 1
  · have hn : n = 1 := by omega
    have hb := hid (hnext'.out (some ⟨g, o, none⟩) (c - 1) (.inl hn) (by omega))
    subst hn
    subst hc1
    go_enter Tryz.func48, Tryz.ntmps48
    go_wp2_with fail
    refine bodyPost_ret (v := .agg #[.slice (some ⟨g, o, none⟩) 0 0, .int .i64 el, .int .i64 ec, .int .i64 fe, .int .i64 fl, .int .i64 fc]) (by simp [results, Tryz.results48, go_sem]) rfl ⟨⟨_, rfl, hb.out⟩, bthen (balloc _ _) (balloc _ _)⟩
  · have hb := hid (hnext'.out (some ⟨g, o + 5, none⟩) (c - 1) (.inr rfl) (by omega))
    go_enter Tryz.func48, Tryz.ntmps48
    go_wp2_with fail
    refine bodyPost_ret (v := .agg #[.slice (some ⟨g, o + 5, none⟩) (n - 1) (c - 1), .int .i64 el, .int .i64 ec, .int .i64 fe, .int .i64 fl, .int .i64 fc]) (by simp [results, Tryz.results48, go_sem]) rfl ⟨⟨_, rfl, hb.out⟩, bthen (balloc _ _) (balloc _ _)⟩

set_option maxHeartbeats 2000000 in
theorem rrwrong_any {w0 w : World} {L : Value} {T : List Lx.Tok} {st : Po.St} (e : Nat × Nat) (h : RRd w0 L T st) (hw0 : Below w0.heap.size w0 w) :
    Calls Tryz.prog 47 #[.agg (rdArr L e st)] w fun en w' => RdBack w0 T e (Po.wrong T e st) en ∧ Below w.heap.size w w' := by
  have W0 := hid hw0
  clear hw0
  have hb := hid (h.wrong e)
  have h' := hid h
  obtain ⟨i, fe, fl, fc⟩ := st
  obtain ⟨el, ec⟩ := e
  by_cases h0 : fe = 0
  · have hw := hid (show Po.wrong T (el, ec) ⟨i, fe, fl, fc⟩ = ⟨i, 31, (Po.place T (el, ec) ⟨i, fe, fl, fc⟩).1, (Po.place T (el, ec) ⟨i, fe, fl, fc⟩).2⟩ by unfold Po.wrong; rw [if_pos h0]; rfl)
    have h0b : ((fe : Int) != 0) = false := by rw [h0]; rfl
    clear h0
    by_cases hi : i < T.length
    · obtain ⟨g, o, n, c, t, rfl, hn0, hnc, hn1, ht, hg, hat, _⟩ := h'.out.head hi
      have he := hid (show Po.place T (el, ec) ⟨i, fe, fl, fc⟩ = (t.line, t.col) by unfold Po.place; simp only [ht])
      rw [he.out] at hw
      have z1 := balloc w (.cells (rdArr (.slice (some ⟨g, o, none⟩) n c) (el, ec) ⟨i, fe, fl, fc⟩) 53)
      have z2 := balloc (w.alloc (.cells (rdArr (.slice (some ⟨g, o, none⟩) n c) (el, ec) ⟨i, fe, fl, fc⟩) 53)) (.cells #[.slice none 0 0, .int .i64 0, .int .i64 0, .int .i64 0, .int .i64 0, .int .i64 0] 53)
      have z3 := balloc ((w.alloc (.cells (rdArr (.slice (some ⟨g, o, none⟩) n c) (el, ec) ⟨i, fe, fl, fc⟩) 53)).alloc (.cells #[.slice none 0 0, .int .i64 0, .int .i64 0, .int .i64 0, .int .i64 0, .int .i64 0] 53)) (.cells #[.int .i64 el, .int .i64 ec] 25)
      have d3 := (hat _ (bthen W0.out (bthen (bthen z1 z2) z3))).c3
      have d4 := (hat _ (bthen W0.out (bthen (bthen z1 z2) z3))).c4
      unfold rdArr at d3 d4
      simp only at d3 d4
      have hnI : (0 : Int) < n := by omega
      have h1000 : (n : Int) ≤ 1000 := by omega
      have hgw := Nat.lt_of_lt_of_le hg W0.out.size
      clear hat ht h h' z1 z2 z3
      rw [hw.out] at hb ⊢
      unfold RdBack rdArr
      simp only
      go_enter Tryz.func47, Tryz.ntmps47
      go_wp2_with fail
      refine bodyPost_ret (v := .agg #[.slice (some ⟨g, o, none⟩) n c, .int .i64 el, .int .i64 ec, .int .i64 31, .int .i64 t.line, .int .i64 t.col]) (by simp [results, Tryz.results47, go_sem]) rfl ⟨⟨_, rfl, hb.out⟩, bthen (bthen (balloc _ _) (balloc _ _)) (balloc _ _)⟩
    · obtain ⟨p, c, rfl, ht⟩ := h'.out.empty hi
      have he := hid (show Po.place T (el, ec) ⟨i, fe, fl, fc⟩ = (el, ec) by unfold Po.place; simp only at ht; simp only [ht])
      rw [he.out] at hw
      clear h h' ht
      rw [hw.out] at hb ⊢
      unfold RdBack rdArr
      simp only
      go_enter Tryz.func47, Tryz.ntmps47
      go_wp2_with fail
      refine bodyPost_ret (v := .agg #[.slice p 0 c, .int .i64 el, .int .i64 ec, .int .i64 31, .int .i64 el, .int .i64 ec]) (by simp [results, Tryz.results47, go_sem]) rfl ⟨⟨_, rfl, hb.out⟩, bthen (bthen (balloc _ _) (balloc _ _)) (balloc _ _)⟩
  · have hw := hid (show Po.wrong T (el, ec) ⟨i, fe, fl, fc⟩ = ⟨i, fe, fl, fc⟩ by unfold Po.wrong; rw [if_neg h0])
    have h0b : ((fe : Int) != 0) = true := by rw [bne_iff_ne]; omega
    rw [hw.out] at hb ⊢
    obtain ⟨p, n, c, rfl, _⟩ := h'.out.row
    clear h0 h h'
    unfold RdBack rdArr
    simp only
    go_enter Tryz.func47, Tryz.ntmps47
    go_wp2_with fail
    refine bodyPost_ret (v := .agg #[.slice p n c, .int .i64 el, .int .i64 ec, .int .i64 fe, .int .i64 fl, .int .i64 fc]) (by simp [results, Tryz.results47, go_sem]) rfl ⟨⟨_, rfl, hb.out⟩, bthen (balloc _ _) (balloc _ _)⟩

end Go.Proofs.YtnoieobjfihbeaaGreatDoor

namespace Go.Proofs.YtnoieobjfihbeaaGreatDoor
open Go.RowKit Go.Sort

theorem rdArr_one {w : World} {L : Value} {T : List Lx.Tok} {st : Po.St} (h : RRd w L T st) (e : Nat × Nat) (st' : Po.St) : (rdArr L e st').all (·.oneCell') = true := by
  obtain ⟨p, n, c, rfl, _⟩ := h.row
  unfold rdArr
  simp [Value.oneCell']
def zeroR : Array Value := #[.slice none 0 0, .int .i64 0, .int .i64 0, .int .i64 0, .int .i64 0, .int .i64 0]
def tokArr (t : Lx.Tok) : Array Value := #[.int .i64 t.kind, .string (Po.txt t.text), .int .i64 t.n, .int .i64 t.line, .int .i64 t.col]
theorem tokArr_one (t : Lx.Tok) : (tokArr t).all (·.oneCell') = true := by unfold tokArr; simp [Value.oneCell']

set_option maxHeartbeats 2000000 in
theorem rrwant_any {w0 w : World} {L : Value} {T : List Lx.Tok} {st : Po.St} (e : Nat × Nat) (h : RRd w0 L T st) (hw0 : Below w0.heap.size w0 w) (s : ByteArray) :
    Calls Tryz.prog 50 #[.agg (rdArr L e st), .string s] w fun en w' => RdBack w0 T e (Po.want T e s.data.toList st) en ∧ Below w.heap.size w w' := by
  have z1 := balloc w (.cells (rdArr L e st) 53)
  have z2 := balloc (w.alloc (.cells (rdArr L e st) 53)) (.cells zeroR 53)
  have B0 := hid ((Blk.new w (rdArr L e st) 53).ext z2)
  have R0 := hid (Blk.newAt (w := w.alloc (.cells (rdArr L e st) 53)) (k := w.heap.size + 1) (by simp) zeroR 53)
  have Q0 := hid (bthen z1 z2)
  have h' := hid h
  have W0 := hid (bthen hw0 (bthen z1 z2))
  have his := hid (rris_any e h W0.out s)
  clear z1 z2 h hw0
  unfold zeroR at *
  cases hi : Po.is T s.data.toList st with
  | true =>
    have hlt := hid (Po.lt_of_is hi)
    have hwt := hid (Po.want_on (e := e) hi)
    rw [hi] at his
    rw [hwt.out]
    clear hi
    go_enter Tryz.func50, Tryz.ntmps50
    go_wp2_with (first | (refine wpList_load_blk rfl 53 (.tmp 2) rfl 5 rfl w.heap.size 53 (rdArr L e st) (B0.out) rfl Tryz.underlying53 rfl (by kernel_rfl) ?_))
    refine his.out.mono ?_
    rintro en w1 ⟨rfl, hb1⟩
    have B1 := hid (B0.out.ext hb1)
    have R1 := hid (R0.out.ext hb1)
    have Q1 := hid (bthen Q0.out hb1)
    have W1 := hid (bthen W0.out hb1)
    clear hb1 his
    go_wp2_with (first | (refine wpList_load_blk rfl 53 (.tmp 2) rfl 8 rfl w.heap.size 53 (rdArr L e st) (B1.out) rfl Tryz.underlying53 rfl (by kernel_rfl) ?_))
    refine (rron_any e h'.out W1.out hlt.out).mono ?_
    rintro en w2 ⟨⟨L2, rfl, hL2⟩, hb2⟩
    have R2 := hid (R1.out.ext hb2)
    have Q2 := hid (bthen Q1.out hb2)
    have hL := hid hL2
    clear hb2 hL2
    go_wp2_with (first | (refine wpList_store_blk rfl 53 (.tmp 4) (.tmp 9) rfl rfl (w.heap.size + 1) 53 _ (rdArr L2 e (Po.on st)) (R2.out) rfl rfl (by kernel_rfl) rfl (rdArr_one hL.out e _) ?_))
    exact bodyPost_ret (v := .agg (rdArr L2 e (Po.on st))) (results_blk (p := 4) (ty := 53) rfl _ _ (w.heap.size + 1) 53 _ rfl (R2.out.setRow _) Tryz.underlying53 rfl (by kernel_rfl)) rfl ⟨⟨L2, rfl, hL.out⟩, below_setRow Q2.out (by omega) _⟩
  | false =>
    have hwt := hid (Po.want_not (e := e) hi)
    rw [hi] at his
    rw [hwt.out]
    clear hi
    go_enter Tryz.func50, Tryz.ntmps50
    go_wp2_with (first | (refine wpList_load_blk rfl 53 (.tmp 2) rfl 5 rfl w.heap.size 53 (rdArr L e st) (B0.out) rfl Tryz.underlying53 rfl (by kernel_rfl) ?_))
    refine his.out.mono ?_
    rintro en w1 ⟨rfl, hb1⟩
    have B1 := hid (B0.out.ext hb1)
    have R1 := hid (R0.out.ext hb1)
    have Q1 := hid (bthen Q0.out hb1)
    have W1 := hid (bthen W0.out hb1)
    clear hb1 his
    go_wp2_with (first | (refine wpList_load_blk rfl 53 (.tmp 2) rfl 10 rfl w.heap.size 53 (rdArr L e st) (B1.out) rfl Tryz.underlying53 rfl (by kernel_rfl) ?_))
    refine (rrwrong_any e h'.out W1.out).mono ?_
    rintro en w2 ⟨⟨L2, rfl, hL2⟩, hb2⟩
    have R2 := hid (R1.out.ext hb2)
    have Q2 := hid (bthen Q1.out hb2)
    have hL := hid hL2
    clear hb2 hL2
    go_wp2_with (first | (refine wpList_store_blk rfl 53 (.tmp 4) (.tmp 11) rfl rfl (w.heap.size + 1) 53 _ (rdArr L2 e (Po.wrong T e st)) (R2.out) rfl rfl (by kernel_rfl) rfl (rdArr_one hL.out e _) ?_))
    exact bodyPost_ret (v := .agg (rdArr L2 e (Po.wrong T e st))) (results_blk (p := 4) (ty := 53) rfl _ _ (w.heap.size + 1) 53 _ rfl (R2.out.setRow _) Tryz.underlying53 rfl (by kernel_rfl)) rfl ⟨⟨L2, rfl, hL.out⟩, below_setRow Q2.out (by omega) _⟩

end Go.Proofs.YtnoieobjfihbeaaGreatDoor

namespace Go.Proofs.YtnoieobjfihbeaaGreatDoor
open Go.RowKit Go.Sort

theorem far {w : World} {b k : Nat} (hn : b ≠ k) (o : Nat) (u : Value) (o' : Nat) : (w.setCell ⟨k, o, none⟩ u).cell? ⟨b, o', none⟩ = w.cell? ⟨b, o', none⟩ :=
  World.cell?_of_block (w := w) (a := ⟨b, o', none⟩) (Below.heap_setCell _ _ _ _ hn)
theorem drewc (w : World) (p : Addr) : w.drew.cell? p = w.cell? p := rfl
theorem blk_set7 {w : World} {b : Nat} {a0 a1 a2 a3 a4 a5 a6 : Value} {t : TypeId} (h : Blk w b #[a0, a1, a2, a3, a4, a5, a6] t) (b0 b1 b2 b3 b4 b5 b6 : Value) :
    Blk (((((((w.setCell ⟨b, 0, none⟩ b0).setCell ⟨b, 1, none⟩ b1).setCell ⟨b, 2, none⟩ b2).setCell ⟨b, 3, none⟩ b3).setCell ⟨b, 4, none⟩ b4).setCell ⟨b, 5, none⟩ b5).setCell ⟨b, 6, none⟩ b6) b #[b0, b1, b2, b3, b4, b5, b6] t := by
  have e : (((((((#[a0, a1, a2, a3, a4, a5, a6] : Array Value).setIfInBounds 0 b0).setIfInBounds 1 b1).setIfInBounds 2 b2).setIfInBounds 3 b3).setIfInBounds 4 b4).setIfInBounds 5 b5).setIfInBounds 6 b6 = #[b0, b1, b2, b3, b4, b5, b6] := by simp
  rw [← e]
  exact ((((((h.set 0 b0).set 1 b1).set 2 b2).set 3 b3).set 4 b4).set 5 b5).set 6 b6
theorem blk_set3 {w : World} {b : Nat} {a0 a1 a2 : Value} {t : TypeId} (h : Blk w b #[a0, a1, a2] t) (b0 b1 b2 : Value) : Blk (((w.setCell ⟨b, 0, none⟩ b0).setCell ⟨b, 1, none⟩ b1).setCell ⟨b, 2, none⟩ b2) b #[b0, b1, b2] t :=
  ((h.set 0 b0).set 1 b1).set 2 b2
theorem zf_one : (#[.int .i64 0, .int .i64 0, .int .i64 0] : Array Value).all (·.oneCell') = true := by simp [Value.oneCell']
/-- two result structs, of blocks that are known whole -/
theorem results_blk2 {P : Program} {fn : Func} {p q : Tmp} {ty tz : TypeId} (h : fn.results = #[.cell p ty, .cell q tz]) (tmps : Array Value) (w : World) (g : Nat) (t : TypeId) (cs : Array Value) (g' : Nat) (t' : TypeId) (cs' : Array Value)
    (hp : tmps.getD p undef = .pointer (some ⟨g, 0, none⟩)) (hq : tmps.getD q undef = .pointer (some ⟨g', 0, none⟩)) (hb : Blk w g cs t) (hb' : Blk w g' cs' t')
    {d d' : TypeDesc} (hu : P.underlying ty = some d) (hr : d.isRow = true) (hi : (P.info? ty).map (·.size) = some cs.size) (hu' : P.underlying tz = some d') (hr' : d'.isRow = true) (hi' : (P.info? tz).map (·.size) = some cs'.size) :
    (results fn tmps).run P w = .ok (.tuple #[.agg cs, .agg cs']) w := by
  have h1 : (loadVar ty ⟨g, 0, none⟩).run P w = .ok (.agg cs) w := run_loadVar_row w g t ty cs (0, 0) d hb hu (by cases d <;> simp_all) hi
  have h2 : (loadVar tz ⟨g', 0, none⟩).run P w = .ok (.agg cs') w := run_loadVar_row w g' t' tz cs' (0, 0) d' hb' hu' (by cases d' <;> simp_all) hi'
  have hp' : tmps[p]?.getD undef = .pointer (some ⟨g, 0, none⟩) := by simpa using hp
  have hq' : tmps[q]?.getD undef = .pointer (some ⟨g', 0, none⟩) := by simpa using hq
  simp only [results, h]
  simp [Sem.run_bind, Result.andThen, hp', hq', asAddr, h1, h2]

end Go.Proofs.YtnoieobjfihbeaaGreatDoor
