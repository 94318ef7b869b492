/-
  The policy's writer: what stands behind a declaration's first word.
  Plain laws of the rules: a policy's rules by the program and by the reference. No program.
-/
import Derived.Test.YtnoieobjfihbeaaGreatDoorPk15
import Derived.Test.YtnoieobjfihbeaaGreatDoorPk11

namespace Go.Proofs.YtnoieobjfihbeaaGreatDoor
open Go.RowKit Go.Sort

theorem put_two (a c : Lx.Bytes) : Pt.put [a, c] = 32 :: a ++ 32 :: c := by unfold Pt.put; simp
theorem put_len1 (a : Lx.Bytes) : (Pt.put [a]).length = 1 + a.length := by rw [put_one, List.length_cons]; omega
theorem put_len2 (a c : Lx.Bytes) : (Pt.put [a, c]).length = 2 + a.length + c.length := by unfold Pt.put; simp; omega
theorem put_len3 (a c d : Lx.Bytes) : (Pt.put [a, c, d]).length = 3 + a.length + c.length + d.length := by unfold Pt.put; simp; omega
section
variable {B b : Nat} {l : List UInt8} {w : World}
theorem put1_w (h : WB B b l w) (s : ByteArray) (U : Lx.Bytes) (hU : s.data.toList = U) (hlen : l.length + (Pt.put [U]).length ≤ 140737488355328) (k : Nat) (hk : k = w.heap.size) :
    Calls Tryz.prog 56 #[.pointer (some ⟨b, 0, none⟩), .slice (some ⟨k, 0, none⟩) 1 1] (w.alloc (.cells #[.string s] 9)) fun e w' => e = .returned (.tuple #[]) ∧ WB B b (l ++ Pt.put [U]) w' ∧ Wrote B b w w' := by
  subst hU
  rw [put_len1, dat_size] at hlen
  exact put1_any h s hlen k hk
theorem put2_w (h : WB B b l w) (s t : ByteArray) (U V : Lx.Bytes) (hU : s.data.toList = U) (hV : t.data.toList = V) (hlen : l.length + (Pt.put [U, V]).length ≤ 140737488355328) (k : Nat) (hk : k = w.heap.size) :
    Calls Tryz.prog 56 #[.pointer (some ⟨b, 0, none⟩), .slice (some ⟨k, 0, none⟩) 2 2] (w.alloc (.cells #[.string s, .string t] 9)) fun e w' => e = .returned (.tuple #[]) ∧ WB B b (l ++ Pt.put [U, V]) w' ∧ Wrote B b w w' := by
  subst hU hV
  rw [put_len2, dat_size, dat_size] at hlen
  exact put2_any h s t hlen k hk
theorem put3_w (h : WB B b l w) (s t u : ByteArray) (U V X : Lx.Bytes) (hU : s.data.toList = U) (hV : t.data.toList = V) (hX : u.data.toList = X) (hlen : l.length + (Pt.put [U, V, X]).length ≤ 140737488355328) (k : Nat) (hk : k = w.heap.size) :
    Calls Tryz.prog 56 #[.pointer (some ⟨b, 0, none⟩), .slice (some ⟨k, 0, none⟩) 3 3] (w.alloc (.cells #[.string s, .string t, .string u] 9)) fun e w' => e = .returned (.tuple #[]) ∧ WB B b (l ++ Pt.put [U, V, X]) w' ∧ Wrote B b w w' := by
  subst hU hV hX
  rw [put_len3, dat_size, dat_size, dat_size] at hlen
  exact put3_any h s t u hlen k hk
theorem wwho_w (h : WB B b l w) (x : Po.Who) (s : ByteArray) (U : Lx.Bytes) (hU : s.data.toList = U) (hx : x.any = false → x.name.data.toList = [] → Ru.num x.n = true) (hlen : l.length + (Pt.put [Pt.whoB U x]).length ≤ 140737488355328) :
    Calls Tryz.prog 59 #[.pointer (some ⟨b, 0, none⟩), .agg (whoArr x), .string s] w fun e w' => e = .returned (.tuple #[]) ∧ WB B b (l ++ Pt.put [Pt.whoB U x]) w' ∧ Wrote B b w w' := by
  subst hU
  rw [put_len1] at hlen
  exact wwho_any h x s hx hlen
theorem wtiers_w (h : WB B b l w) (lo hi : Int) (h1 : Ru.num lo = true) (h2 : Ru.num hi = true) (hlen : l.length + (Pt.put [Pt.tiersB lo hi]).length ≤ 140737488355328) :
    Calls Tryz.prog 60 #[.pointer (some ⟨b, 0, none⟩), .int .i64 lo, .int .i64 hi] w fun e w' => e = .returned (.tuple #[]) ∧ WB B b (l ++ Pt.put [Pt.tiersB lo hi]) w' ∧ Wrote B b w w' := by
  rw [put_len1] at hlen
  exact wtiers_any h lo hi h1 h2 hlen
end
theorem rightW_num {x : Po.Who} (h : Ru.rightW x = true) : x.any = false → x.name.data.toList = [] → Ru.num x.n = true := by
  intro h1 h2
  unfold Ru.rightW at h
  rw [h1, h2] at h
  simpa using h

set_option maxRecDepth 100000 in
set_option maxHeartbeats 4000000 in
theorem wrest_1 {B b : Nat} {l : List UInt8} {w : World} (h : WB B b l w) (D : Po.Decl) (bp : Option Addr) (bc : Nat) (hk : D.kind = 1) (hn : Ru.num D.n = true) (hlen : l.length + (Pt.put [D.name.data.toList, [61], Lib.itoa D.n]).length ≤ 140737488355328) :
    Calls Tryz.prog 24 #[.pointer (some ⟨b, 0, none⟩), .agg (declCells D (.slice bp D.boxes.length bc))] w fun e w' => e = .returned (.tuple #[]) ∧ WB B b (l ++ (Pt.put [D.name.data.toList, [61], Lib.itoa D.n])) w' ∧ Wrote B b w w' := by
  have z := balloc w (.cells (declCells D (.slice bp D.boxes.length bc)) 49)
  have H0 := hid (h.ext z)
  have W0 := hid (Wrote.ext (b := b) h.le z)
  have A0 := hid (Blk.new w (declCells D (.slice bp D.boxes.length bc)) 49)
  have hkb : w.heap.size ≠ b := by have := h.lt; omega
  have hl := hid hlen
  have q1 : (D.kind == 1) = true := beq_iff_eq.2 (by omega)
  have yk : (declCells D (.slice bp D.boxes.length bc))[0]? = some (.int .i64 D.kind) := rfl
  clear z h hk hlen
  go_enter Tryz.func24, Tryz.ntmps24
  go_upto_region 13 with (fail)
  clear yk q1
  generalize w.alloc (.cells (declCells D (.slice bp D.boxes.length bc)) 49) = wa at *
  generalize w.heap.size = k at *
  have B0 := hid H0.out.drew
  have W1 := hid W0.out.drewr
  have A1 := hid (Blk.drew A0.out)
  have S0 : wa.drew.cell? ⟨k, 1, none⟩ = some (.string D.name) ∧ wa.drew.cell? ⟨k, 2, none⟩ = some (.int .i64 D.n) := ⟨A1.out.cell 1 rfl, A1.out.cell 2 rfl⟩
  clear H0 W0 A0
  go_region_held3 (fun w' => w'.cell? ⟨k, 1, none⟩ = some (.string D.name) ∧ w'.cell? ⟨k, 2, none⟩ = some (.int .i64 D.n))
    (first | with_reducible assumption | go_keep) (first
    | ((go_at_call 57
        with_reducible refine (num_any B0.out D.n hn).mono ?_
        rintro en w3 ⟨rfl, hb⟩
        have B3 := hid (B0.out.ext hb)
        have W3 := hid (W1.out.trans (Wrote.ext B0.out.le hb))
        have A3 := hid (A1.out.ext hb)
        have S3 : w3.cell? ⟨k, 1, none⟩ = some (.string D.name) ∧ w3.cell? ⟨k, 2, none⟩ = some (.int .i64 D.n) := ⟨A3.out.cell 1 rfl, A3.out.cell 2 rfl⟩
        clear hb S0 B0 W1 A1))
    | ((go_at_call 56
        with_reducible refine (put3_w B3.out D.name ⟨#[61]⟩ ⟨(Lib.itoa D.n).toArray⟩ D.name.data.toList [61] (Lib.itoa D.n) rfl rfl (txt_bytes _) hl.out _ rfl).mono ?_
        rintro en w7 ⟨rfl, h7, q7⟩
        have B7 := hid h7
        have W7 := hid (W3.out.trans q7)
        have S7 : w7.cell? ⟨k, 1, none⟩ = some (.string D.name) ∧ w7.cell? ⟨k, 2, none⟩ = some (.int .i64 D.n) := ⟨(A3.out.wrote q7 hkb (by decide)).cell 1 rfl, (A3.out.wrote q7 hkb (by decide)).cell 2 rfl⟩
        clear h7 q7 S3 B3 W3)))
  go_wp2_with fail
  go_end0
  exact ⟨rfl, B7.out, W7.out⟩

set_option maxRecDepth 100000 in
set_option maxHeartbeats 4000000 in
theorem wrest_2 {B b : Nat} {l : List UInt8} {w : World} (h : WB B b l w) (D : Po.Decl) (bp : Option Addr) (bc : Nat) (hk : D.kind = 2) (hn : Ru.num D.n = true) (hlen : l.length + (Pt.put [D.name.data.toList, [61], Lib.itoa D.n]).length ≤ 140737488355328) :
    Calls Tryz.prog 24 #[.pointer (some ⟨b, 0, none⟩), .agg (declCells D (.slice bp D.boxes.length bc))] w fun e w' => e = .returned (.tuple #[]) ∧ WB B b (l ++ (Pt.put [D.name.data.toList, [61], Lib.itoa D.n])) w' ∧ Wrote B b w w' := by
  have z := balloc w (.cells (declCells D (.slice bp D.boxes.length bc)) 49)
  have H0 := hid (h.ext z)
  have W0 := hid (Wrote.ext (b := b) h.le z)
  have A0 := hid (Blk.new w (declCells D (.slice bp D.boxes.length bc)) 49)
  have hkb : w.heap.size ≠ b := by have := h.lt; omega
  have hl := hid hlen
  have q1 : (D.kind == 1) = false := beq_eq_false_iff_ne.2 (by omega)
  have q2 : (D.kind == 2) = true := beq_iff_eq.2 (by omega)
  have yk : (declCells D (.slice bp D.boxes.length bc))[0]? = some (.int .i64 D.kind) := rfl
  clear z h hk hlen
  go_enter Tryz.func24, Tryz.ntmps24
  go_upto_region 13 with (fail)
  clear yk q1 q2
  generalize w.alloc (.cells (declCells D (.slice bp D.boxes.length bc)) 49) = wa at *
  generalize w.heap.size = k at *
  have B0 := hid H0.out.drew
  have W1 := hid W0.out.drewr
  have A1 := hid (Blk.drew A0.out)
  have S0 : wa.drew.cell? ⟨k, 1, none⟩ = some (.string D.name) ∧ wa.drew.cell? ⟨k, 2, none⟩ = some (.int .i64 D.n) := ⟨A1.out.cell 1 rfl, A1.out.cell 2 rfl⟩
  clear H0 W0 A0
  go_region_held3 (fun w' => w'.cell? ⟨k, 1, none⟩ = some (.string D.name) ∧ w'.cell? ⟨k, 2, none⟩ = some (.int .i64 D.n))
    (first | with_reducible assumption | go_keep) (first
    | ((go_at_call 57
        with_reducible refine (num_any B0.out D.n hn).mono ?_
        rintro en w3 ⟨rfl, hb⟩
        have B3 := hid (B0.out.ext hb)
        have W3 := hid (W1.out.trans (Wrote.ext B0.out.le hb))
        have A3 := hid (A1.out.ext hb)
        have S3 : w3.cell? ⟨k, 1, none⟩ = some (.string D.name) ∧ w3.cell? ⟨k, 2, none⟩ = some (.int .i64 D.n) := ⟨A3.out.cell 1 rfl, A3.out.cell 2 rfl⟩
        clear hb S0 B0 W1 A1))
    | ((go_at_call 56
        with_reducible refine (put3_w B3.out D.name ⟨#[61]⟩ ⟨(Lib.itoa D.n).toArray⟩ D.name.data.toList [61] (Lib.itoa D.n) rfl rfl (txt_bytes _) hl.out _ rfl).mono ?_
        rintro en w7 ⟨rfl, h7, q7⟩
        have B7 := hid h7
        have W7 := hid (W3.out.trans q7)
        have S7 : w7.cell? ⟨k, 1, none⟩ = some (.string D.name) ∧ w7.cell? ⟨k, 2, none⟩ = some (.int .i64 D.n) := ⟨(A3.out.wrote q7 hkb (by decide)).cell 1 rfl, (A3.out.wrote q7 hkb (by decide)).cell 2 rfl⟩
        clear h7 q7 S3 B3 W3)))
  go_wp2_with fail
  go_end0
  exact ⟨rfl, B7.out, W7.out⟩

set_option maxRecDepth 100000 in
set_option maxHeartbeats 4000000 in
theorem wrest_3 {B b : Nat} {l : List UInt8} {w : World} (h : WB B b l w) (D : Po.Decl) (bp : Option Addr) (bc : Nat) (hk : D.kind = 3) (hr : ∀ w', Below B w w' → BRow w' (.slice bp D.boxes.length bc) D.boxes) (hb : ∀ x ∈ D.boxes, Ru.boxN x = true) (hn : D.boxes.length ≤ 140737488355328) (hlen : l.length + (Pt.put [D.name.data.toList, [61]] ++ Pt.boxesB D.boxes).length ≤ 140737488355328) :
    Calls Tryz.prog 24 #[.pointer (some ⟨b, 0, none⟩), .agg (declCells D (.slice bp D.boxes.length bc))] w fun e w' => e = .returned (.tuple #[]) ∧ WB B b (l ++ (Pt.put [D.name.data.toList, [61]] ++ Pt.boxesB D.boxes)) w' ∧ Wrote B b w w' := by
  have z := balloc w (.cells (declCells D (.slice bp D.boxes.length bc)) 49)
  have H0 := hid (h.ext z)
  have W0 := hid (Wrote.ext (b := b) h.le z)
  have A0 := hid (Blk.new w (declCells D (.slice bp D.boxes.length bc)) 49)
  have hkb : w.heap.size ≠ b := by have := h.lt; omega
  have hl := hid hlen
  have q1 : (D.kind == 1) = false := beq_eq_false_iff_ne.2 (by omega)
  have q2 : (D.kind == 2) = false := beq_eq_false_iff_ne.2 (by omega)
  have q3 : (D.kind == 3) = true := beq_iff_eq.2 (by omega)
  have yk : (declCells D (.slice bp D.boxes.length bc))[0]? = some (.int .i64 D.kind) := rfl
  clear z h hk hlen
  go_enter Tryz.func24, Tryz.ntmps24
  have y1 : (declCells D (.slice bp D.boxes.length bc))[1]? = some (.string D.name) := rfl
  go_wp2_with fail
  clear yk y1 q1 q2 q3
  refine (put2_w H0.out D.name ⟨#[61]⟩ D.name.data.toList [61] rfl rfl (by have := hl.out; rw [List.length_append] at this; omega) _ (by simp)).mono ?_
  rintro e v1 ⟨rfl, h1, q1⟩
  have B1 := hid h1
  have W1 := hid (W0.out.trans q1)
  have A1 := hid (A0.out.wrote q1 hkb (by decide))
  have R1 := hid (fun w' (hw : Below B v1 w') => hr w' (W1.out.bel.trans hw))
  clear h1 q1 A0 H0 W0
  have c3 := A1.out.cell 3 (v := .slice bp D.boxes.length bc) rfl
  go_wp2_with fail
  clear c3
  refine (wboxes_any B1.out R1.out hb (by have := hl.out; rw [List.length_append] at this; rw [List.length_append]; exact (by omega)) hn).mono ?_
  rintro e v2 ⟨rfl, h2, q2⟩
  have B2 := hid h2
  have W2 := hid (W1.out.trans q2)
  clear h2 q2
  go_wp2_with fail
  go_end0
  exact ⟨rfl, by rw [← List.append_assoc]; exact B2.out, W2.out⟩

set_option maxRecDepth 100000 in
set_option maxHeartbeats 4000000 in
theorem wrest_6 {B b : Nat} {l : List UInt8} {w : World} (h : WB B b l w) (D : Po.Decl) (bp : Option Addr) (bc : Nat) (hk : D.kind = 6) (hrole : Ru.rightW D.role = true) (hlen : l.length + (Pt.put [Po.wRole] ++ Pt.put [Pt.whoB Po.wAny D.role]).length ≤ 140737488355328) :
    Calls Tryz.prog 24 #[.pointer (some ⟨b, 0, none⟩), .agg (declCells D (.slice bp D.boxes.length bc))] w fun e w' => e = .returned (.tuple #[]) ∧ WB B b (l ++ (Pt.put [Po.wRole] ++ Pt.put [Pt.whoB Po.wAny D.role])) w' ∧ Wrote B b w w' := by
  have z := balloc w (.cells (declCells D (.slice bp D.boxes.length bc)) 49)
  have H0 := hid (h.ext z)
  have W0 := hid (Wrote.ext (b := b) h.le z)
  have A0 := hid (Blk.new w (declCells D (.slice bp D.boxes.length bc)) 49)
  have hkb : w.heap.size ≠ b := by have := h.lt; omega
  have hl := hid hlen
  have q1 : (D.kind == 1) = false := beq_eq_false_iff_ne.2 (by omega)
  have q2 : (D.kind == 2) = false := beq_eq_false_iff_ne.2 (by omega)
  have q3 : (D.kind == 3) = false := beq_eq_false_iff_ne.2 (by omega)
  have q6 : (D.kind == 6) = true := beq_iff_eq.2 (by omega)
  have yk : (declCells D (.slice bp D.boxes.length bc))[0]? = some (.int .i64 D.kind) := rfl
  clear z h hk hlen
  go_enter Tryz.func24, Tryz.ntmps24
  go_wp2_with fail
  clear yk q1 q2 q3 q6
  refine (put1_w H0.out ⟨#[114, 111, 108, 101]⟩ Po.wRole rfl (by have := hl.out; rw [List.length_append] at this; omega) _ (by simp)).mono ?_
  rintro e v1 ⟨rfl, h1, q1⟩
  have B1 := hid h1
  have W1 := hid (W0.out.trans q1)
  have A1 := hid (A0.out.wrote q1 hkb (by decide))
  clear h1 q1 A0 H0 W0
  go_wp2_with (first | (refine wpList_load_at rfl 47 (.tmp 70) rfl 71 rfl w.heap.size (4) (whoArr D.role) (range_role A1.out) rfl Tryz.underlying47 rfl (by kernel_rfl) ?_))
  refine (wwho_w B1.out D.role ⟨#[97, 110, 121]⟩ Po.wAny rfl (rightW_num hrole) (by have := hl.out; rw [List.length_append] at this; rw [List.length_append]; omega)).mono ?_
  rintro e v2 ⟨rfl, h2, q2⟩
  have B2 := hid h2
  have W2 := hid (W1.out.trans q2)
  clear h2 q2
  go_wp2_with fail
  go_end0
  exact ⟨rfl, by rw [← List.append_assoc]; exact B2.out, W2.out⟩

set_option maxRecDepth 100000 in
set_option maxHeartbeats 4000000 in
theorem wrest_4 {B b : Nat} {l : List UInt8} {w : World} (h : WB B b l w) (D : Po.Decl) (bp : Option Addr) (bc : Nat) (hk : D.kind = 4) (hrole : Ru.rightW D.role = true) (hlo : Ru.num D.lo = true) (hhi : Ru.num D.hi = true) (hlabel : Ru.rightW D.label = true) (hplace : Ru.rightW D.place = true) (hzoom : Ru.num D.zoom = true) (hlen : l.length + (Pt.put [Po.wRole] ++ (Pt.put [Pt.whoB Po.wAny D.role] ++ (Pt.put [Po.wTier] ++ (Pt.put [Pt.tiersB D.lo D.hi] ++ (Pt.put [Po.wLabel] ++ (Pt.put [Pt.whoB Po.wAny D.label] ++ (Pt.put [Po.wIn] ++ (Pt.put [Pt.whoB Po.wAll D.place] ++ (Pt.put [Po.wZoom, Lib.itoa D.zoom]))))))))).length ≤ 140737488355328) :
    Calls Tryz.prog 24 #[.pointer (some ⟨b, 0, none⟩), .agg (declCells D (.slice bp D.boxes.length bc))] w fun e w' => e = .returned (.tuple #[]) ∧ WB B b (l ++ (Pt.put [Po.wRole] ++ (Pt.put [Pt.whoB Po.wAny D.role] ++ (Pt.put [Po.wTier] ++ (Pt.put [Pt.tiersB D.lo D.hi] ++ (Pt.put [Po.wLabel] ++ (Pt.put [Pt.whoB Po.wAny D.label] ++ (Pt.put [Po.wIn] ++ (Pt.put [Pt.whoB Po.wAll D.place] ++ (Pt.put [Po.wZoom, Lib.itoa D.zoom])))))))))) w' ∧ Wrote B b w w' := by
  have z := balloc w (.cells (declCells D (.slice bp D.boxes.length bc)) 49)
  have H0 := hid (h.ext z)
  have W0 := hid (Wrote.ext (b := b) h.le z)
  have A0 := hid (Blk.new w (declCells D (.slice bp D.boxes.length bc)) 49)
  have hkb : w.heap.size ≠ b := by have := h.lt; omega
  have hl := hid hlen
  have q1 : (D.kind == 1) = false := beq_eq_false_iff_ne.2 (by omega)
  have q2 : (D.kind == 2) = false := beq_eq_false_iff_ne.2 (by omega)
  have q3 : (D.kind == 3) = false := beq_eq_false_iff_ne.2 (by omega)
  have q6 : (D.kind == 6) = false := beq_eq_false_iff_ne.2 (by omega)
  have yk : (declCells D (.slice bp D.boxes.length bc))[0]? = some (.int .i64 D.kind) := rfl
  clear z h hk hlen
  go_enter Tryz.func24, Tryz.ntmps24
  go_wp2_with fail
  clear yk q1 q2 q3 q6
  have hL : Hid (l.length + ((Pt.put [Po.wRole]).length + ((Pt.put [Pt.whoB Po.wAny D.role]).length + ((Pt.put [Po.wTier]).length + ((Pt.put [Pt.tiersB D.lo D.hi]).length + ((Pt.put [Po.wLabel]).length + ((Pt.put [Pt.whoB Po.wAny D.label]).length + ((Pt.put [Po.wIn]).length + ((Pt.put [Pt.whoB Po.wAll D.place]).length + (Pt.put [Po.wZoom, Lib.itoa D.zoom]).length)))))))) ≤ 140737488355328) := hid (by have := hl.out; simpa only [List.length_append] using this)
  clear hl
  refine (put1_w H0.out ⟨#[114, 111, 108, 101]⟩ Po.wRole rfl (by have := hL.out; first | omega | (simp only [List.length_append] at *; omega)) _ (by simp)).mono ?_
  rintro e v1 ⟨rfl, h1, q1⟩
  have B1 := hid h1
  have W1 := hid (W0.out.trans q1)
  have A1 := hid (A0.out.wrote q1 hkb (by decide))
  clear h1 q1 A0 H0 W0
  go_wp2_with (first | (refine wpList_load_at rfl 47 (.tmp 10) rfl 11 rfl w.heap.size (4) (whoArr D.role) (range_role A1.out) rfl Tryz.underlying47 rfl (by kernel_rfl) ?_))
  refine (wwho_w B1.out D.role ⟨#[97, 110, 121]⟩ Po.wAny rfl (rightW_num hrole) (by have := hL.out; first | omega | (simp only [List.length_append] at *; omega))).mono ?_
  rintro e v2 ⟨rfl, h2, q2⟩
  have B2 := hid h2
  have W2 := hid (W1.out.trans q2)
  have A2 := hid (A1.out.wrote q2 hkb (by decide))
  clear h2 q2 A1 B1 W1
  go_wp2_with fail
  refine (put1_w B2.out ⟨#[116, 105, 101, 114]⟩ Po.wTier rfl (by have := hL.out; first | omega | (simp only [List.length_append] at *; omega)) _ (by simp)).mono ?_
  rintro e v3 ⟨rfl, h3, q3⟩
  have B3 := hid h3
  have W3 := hid (W2.out.trans q3)
  have A3 := hid (A2.out.wrote q3 hkb (by decide))
  clear h3 q3 A2 B2 W2
  have c9 := A3.out.cell 9 (v := .int .i64 D.lo) rfl
  have c10 := A3.out.cell 10 (v := .int .i64 D.hi) rfl
  go_wp2_with fail
  clear c9 c10
  refine (wtiers_w B3.out D.lo D.hi hlo hhi (by have := hL.out; first | omega | (simp only [List.length_append] at *; omega))).mono ?_
  rintro e v4 ⟨rfl, h4, q4⟩
  have B4 := hid h4
  have W4 := hid (W3.out.trans q4)
  have A4 := hid (A3.out.wrote q4 hkb (by decide))
  clear h4 q4 A3 B3 W3
  go_wp2_with fail
  refine (put1_w B4.out ⟨#[108, 97, 98, 101, 108]⟩ Po.wLabel rfl (by have := hL.out; first | omega | (simp only [List.length_append] at *; omega)) _ (by simp)).mono ?_
  rintro e v5 ⟨rfl, h5, q5⟩
  have B5 := hid h5
  have W5 := hid (W4.out.trans q5)
  have A5 := hid (A4.out.wrote q5 hkb (by decide))
  clear h5 q5 A4 B4 W4
  go_wp2_with (first | (refine wpList_load_at rfl 47 (.tmp 26) rfl 27 rfl w.heap.size (11) (whoArr D.label) (range_label A5.out) rfl Tryz.underlying47 rfl (by kernel_rfl) ?_))
  refine (wwho_w B5.out D.label ⟨#[97, 110, 121]⟩ Po.wAny rfl (rightW_num hlabel) (by have := hL.out; first | omega | (simp only [List.length_append] at *; omega))).mono ?_
  rintro e v6 ⟨rfl, h6, q6⟩
  have B6 := hid h6
  have W6 := hid (W5.out.trans q6)
  have A6 := hid (A5.out.wrote q6 hkb (by decide))
  clear h6 q6 A5 B5 W5
  go_wp2_with fail
  refine (put1_w B6.out ⟨#[105, 110]⟩ Po.wIn rfl (by have := hL.out; first | omega | (simp only [List.length_append] at *; omega)) _ (by simp)).mono ?_
  rintro e v7 ⟨rfl, h7, q7⟩
  have B7 := hid h7
  have W7 := hid (W6.out.trans q7)
  have A7 := hid (A6.out.wrote q7 hkb (by decide))
  clear h7 q7 A6 B6 W6
  go_wp2_with (first | (refine wpList_load_at rfl 47 (.tmp 33) rfl 34 rfl w.heap.size (16) (whoArr D.place) (range_place A7.out) rfl Tryz.underlying47 rfl (by kernel_rfl) ?_))
  refine (wwho_w B7.out D.place ⟨#[97, 108, 108]⟩ Po.wAll rfl (rightW_num hplace) (by have := hL.out; first | omega | (simp only [List.length_append] at *; omega))).mono ?_
  rintro e v8 ⟨rfl, h8, q8⟩
  have B8 := hid h8
  have W8 := hid (W7.out.trans q8)
  have A8 := hid (A7.out.wrote q8 hkb (by decide))
  clear h8 q8 A7 B7 W7
  have c21 := A8.out.cell 21 (v := .int .i64 D.zoom) rfl
  go_wp2_with fail
  clear c21
  refine (num_any B8.out D.zoom hzoom).mono ?_
  rintro e v9 ⟨rfl, hb⟩
  have B9 := hid (B8.out.ext hb)
  have W9 := hid (W8.out.trans (Wrote.ext B8.out.le hb))
  clear hb B8 W8
  go_wp2_with fail
  refine (put2_w B9.out ⟨#[122, 111, 111, 109]⟩ ⟨(Lib.itoa D.zoom).toArray⟩ Po.wZoom (Lib.itoa D.zoom) rfl (txt_bytes _) (by have := hL.out; first | omega | (simp only [List.length_append] at *; omega)) _ rfl).mono ?_
  rintro e v10 ⟨rfl, h10, q10⟩
  have B10 := hid h10
  have W10 := hid (W9.out.trans q10)
  clear h10 q10 B9 W9
  go_wp2_with fail
  go_end0
  exact ⟨rfl, by simpa only [List.append_assoc] using B10.out, W10.out⟩

set_option maxRecDepth 100000 in
set_option maxHeartbeats 4000000 in
theorem wrest_5 {B b : Nat} {l : List UInt8} {w : World} (h : WB B b l w) (D : Po.Decl) (bp : Option Addr) (bc : Nat) (hk : D.kind = 5) (hrole : Ru.rightW D.role = true) (hlo : Ru.num D.lo = true) (hhi : Ru.num D.hi = true) (hlabel : Ru.rightW D.label = true) (hplace : Ru.rightW D.place = true) (hzoom : Ru.num D.zoom = true) (hlen : l.length + (Pt.put [Po.wRole] ++ (Pt.put [Pt.whoB Po.wAny D.role] ++ (Pt.put [Po.wTier] ++ (Pt.put [Pt.tiersB D.lo D.hi] ++ (Pt.put [Po.wLabel] ++ (Pt.put [Pt.whoB Po.wAny D.label] ++ (Pt.put [Po.wIn] ++ (Pt.put [Pt.whoB Po.wAll D.place] ++ (Pt.put [Po.wZoom, Lib.itoa D.zoom]))))))))).length ≤ 140737488355328) :
    Calls Tryz.prog 24 #[.pointer (some ⟨b, 0, none⟩), .agg (declCells D (.slice bp D.boxes.length bc))] w fun e w' => e = .returned (.tuple #[]) ∧ WB B b (l ++ (Pt.put [Po.wRole] ++ (Pt.put [Pt.whoB Po.wAny D.role] ++ (Pt.put [Po.wTier] ++ (Pt.put [Pt.tiersB D.lo D.hi] ++ (Pt.put [Po.wLabel] ++ (Pt.put [Pt.whoB Po.wAny D.label] ++ (Pt.put [Po.wIn] ++ (Pt.put [Pt.whoB Po.wAll D.place] ++ (Pt.put [Po.wZoom, Lib.itoa D.zoom])))))))))) w' ∧ Wrote B b w w' := by
  have z := balloc w (.cells (declCells D (.slice bp D.boxes.length bc)) 49)
  have H0 := hid (h.ext z)
  have W0 := hid (Wrote.ext (b := b) h.le z)
  have A0 := hid (Blk.new w (declCells D (.slice bp D.boxes.length bc)) 49)
  have hkb : w.heap.size ≠ b := by have := h.lt; omega
  have hl := hid hlen
  have q1 : (D.kind == 1) = false := beq_eq_false_iff_ne.2 (by omega)
  have q2 : (D.kind == 2) = false := beq_eq_false_iff_ne.2 (by omega)
  have q3 : (D.kind == 3) = false := beq_eq_false_iff_ne.2 (by omega)
  have q6 : (D.kind == 6) = false := beq_eq_false_iff_ne.2 (by omega)
  have yk : (declCells D (.slice bp D.boxes.length bc))[0]? = some (.int .i64 D.kind) := rfl
  clear z h hk hlen
  go_enter Tryz.func24, Tryz.ntmps24
  go_wp2_with fail
  clear yk q1 q2 q3 q6
  have hL : Hid (l.length + ((Pt.put [Po.wRole]).length + ((Pt.put [Pt.whoB Po.wAny D.role]).length + ((Pt.put [Po.wTier]).length + ((Pt.put [Pt.tiersB D.lo D.hi]).length + ((Pt.put [Po.wLabel]).length + ((Pt.put [Pt.whoB Po.wAny D.label]).length + ((Pt.put [Po.wIn]).length + ((Pt.put [Pt.whoB Po.wAll D.place]).length + (Pt.put [Po.wZoom, Lib.itoa D.zoom]).length)))))))) ≤ 140737488355328) := hid (by have := hl.out; simpa only [List.length_append] using this)
  clear hl
  refine (put1_w H0.out ⟨#[114, 111, 108, 101]⟩ Po.wRole rfl (by have := hL.out; first | omega | (simp only [List.length_append] at *; omega)) _ (by simp)).mono ?_
  rintro e v1 ⟨rfl, h1, q1⟩
  have B1 := hid h1
  have W1 := hid (W0.out.trans q1)
  have A1 := hid (A0.out.wrote q1 hkb (by decide))
  clear h1 q1 A0 H0 W0
  go_wp2_with (first | (refine wpList_load_at rfl 47 (.tmp 10) rfl 11 rfl w.heap.size (4) (whoArr D.role) (range_role A1.out) rfl Tryz.underlying47 rfl (by kernel_rfl) ?_))
  refine (wwho_w B1.out D.role ⟨#[97, 110, 121]⟩ Po.wAny rfl (rightW_num hrole) (by have := hL.out; first | omega | (simp only [List.length_append] at *; omega))).mono ?_
  rintro e v2 ⟨rfl, h2, q2⟩
  have B2 := hid h2
  have W2 := hid (W1.out.trans q2)
  have A2 := hid (A1.out.wrote q2 hkb (by decide))
  clear h2 q2 A1 B1 W1
  go_wp2_with fail
  refine (put1_w B2.out ⟨#[116, 105, 101, 114]⟩ Po.wTier rfl (by have := hL.out; first | omega | (simp only [List.length_append] at *; omega)) _ (by simp)).mono ?_
  rintro e v3 ⟨rfl, h3, q3⟩
  have B3 := hid h3
  have W3 := hid (W2.out.trans q3)
  have A3 := hid (A2.out.wrote q3 hkb (by decide))
  clear h3 q3 A2 B2 W2
  have c9 := A3.out.cell 9 (v := .int .i64 D.lo) rfl
  have c10 := A3.out.cell 10 (v := .int .i64 D.hi) rfl
  go_wp2_with fail
  clear c9 c10
  refine (wtiers_w B3.out D.lo D.hi hlo hhi (by have := hL.out; first | omega | (simp only [List.length_append] at *; omega))).mono ?_
  rintro e v4 ⟨rfl, h4, q4⟩
  have B4 := hid h4
  have W4 := hid (W3.out.trans q4)
  have A4 := hid (A3.out.wrote q4 hkb (by decide))
  clear h4 q4 A3 B3 W3
  go_wp2_with fail
  refine (put1_w B4.out ⟨#[108, 97, 98, 101, 108]⟩ Po.wLabel rfl (by have := hL.out; first | omega | (simp only [List.length_append] at *; omega)) _ (by simp)).mono ?_
  rintro e v5 ⟨rfl, h5, q5⟩
  have B5 := hid h5
  have W5 := hid (W4.out.trans q5)
  have A5 := hid (A4.out.wrote q5 hkb (by decide))
  clear h5 q5 A4 B4 W4
  go_wp2_with (first | (refine wpList_load_at rfl 47 (.tmp 26) rfl 27 rfl w.heap.size (11) (whoArr D.label) (range_label A5.out) rfl Tryz.underlying47 rfl (by kernel_rfl) ?_))
  refine (wwho_w B5.out D.label ⟨#[97, 110, 121]⟩ Po.wAny rfl (rightW_num hlabel) (by have := hL.out; first | omega | (simp only [List.length_append] at *; omega))).mono ?_
  rintro e v6 ⟨rfl, h6, q6⟩
  have B6 := hid h6
  have W6 := hid (W5.out.trans q6)
  have A6 := hid (A5.out.wrote q6 hkb (by decide))
  clear h6 q6 A5 B5 W5
  go_wp2_with fail
  refine (put1_w B6.out ⟨#[105, 110]⟩ Po.wIn rfl (by have := hL.out; first | omega | (simp only [List.length_append] at *; omega)) _ (by simp)).mono ?_
  rintro e v7 ⟨rfl, h7, q7⟩
  have B7 := hid h7
  have W7 := hid (W6.out.trans q7)
  have A7 := hid (A6.out.wrote q7 hkb (by decide))
  clear h7 q7 A6 B6 W6
  go_wp2_with (first | (refine wpList_load_at rfl 47 (.tmp 33) rfl 34 rfl w.heap.size (16) (whoArr D.place) (range_place A7.out) rfl Tryz.underlying47 rfl (by kernel_rfl) ?_))
  refine (wwho_w B7.out D.place ⟨#[97, 108, 108]⟩ Po.wAll rfl (rightW_num hplace) (by have := hL.out; first | omega | (simp only [List.length_append] at *; omega))).mono ?_
  rintro e v8 ⟨rfl, h8, q8⟩
  have B8 := hid h8
  have W8 := hid (W7.out.trans q8)
  have A8 := hid (A7.out.wrote q8 hkb (by decide))
  clear h8 q8 A7 B7 W7
  have c21 := A8.out.cell 21 (v := .int .i64 D.zoom) rfl
  go_wp2_with fail
  clear c21
  refine (num_any B8.out D.zoom hzoom).mono ?_
  rintro e v9 ⟨rfl, hb⟩
  have B9 := hid (B8.out.ext hb)
  have W9 := hid (W8.out.trans (Wrote.ext B8.out.le hb))
  clear hb B8 W8
  go_wp2_with fail
  refine (put2_w B9.out ⟨#[122, 111, 111, 109]⟩ ⟨(Lib.itoa D.zoom).toArray⟩ Po.wZoom (Lib.itoa D.zoom) rfl (txt_bytes _) (by have := hL.out; first | omega | (simp only [List.length_append] at *; omega)) _ rfl).mono ?_
  rintro e v10 ⟨rfl, h10, q10⟩
  have B10 := hid h10
  have W10 := hid (W9.out.trans q10)
  clear h10 q10 B9 W9
  go_wp2_with fail
  go_end0
  exact ⟨rfl, by simpa only [List.append_assoc] using B10.out, W10.out⟩

end Go.Proofs.YtnoieobjfihbeaaGreatDoor

namespace Go.Proofs.YtnoieobjfihbeaaGreatDoor.Ru
open Po (Box Who Decl)

/-! ### what a declaration may be, by the reference -/
def rMay (w : Who) : Bool := if w.any then w.name.data.toList == [] && w.n == 0 else (w.name.data.toList == [] && num w.n || Lx.isName w.name.data.toList && w.n == 0)
def rNamed (d : Decl) : Bool := decide (d.kind ≤ 3) && Lx.isName d.name.data.toList || decide (3 < d.kind) && d.name.data.toList == []
def rNumber (d : Decl) : Bool := decide (d.kind ≤ 2) && num d.n || decide (2 < d.kind) && d.n == 0
def rBoxes0 (d : Decl) : Bool := (d.kind == 3) == decide ((0 : Int) < d.boxes.length)
def rBoxes (d : Decl) : Bool := d.boxes.foldl (fun b x => b && boxN x) (rBoxes0 d)
def rRole (d : Decl) : Bool := decide (3 < d.kind) && rMay d.role || decide (d.kind ≤ 3) && zeroW d.role
def rRest (d : Decl) : Bool :=
  if d.kind = 4 ∨ d.kind = 5 then rMay d.label && rMay d.place && (d.place.any || d.place.name.data.toList != []) && num d.lo && num d.hi && num d.zoom
  else zeroW d.label && zeroW d.place && d.lo == 0 && d.hi == 0 && d.zoom == 0
def rRight (d : Decl) : Bool := if d.kind < 1 ∨ 6 < d.kind then false else rNamed d && rNumber d && rBoxes d && rRole d && rRest d

theorem rMay_eq (w : Who) : rMay w = rightW w := by
  unfold rMay rightW
  cases w.any with
  | true => rfl
  | false =>
    by_cases h : w.name.data.toList = []
    · have : Lx.isName ([] : Lx.Bytes) = false := rfl
      simp [h, this]
    · have h1 : (w.name.data.toList == []) = false := beq_eq_false_iff_ne.2 h
      simp only [h1, Bool.false_and, Bool.false_or, Bool.false_eq_true, if_false]
      exact Bool.and_comm _ _
theorem foldl_and {α : Type} (f : α → Bool) (l : List α) : ∀ b, l.foldl (fun b x => b && f x) b = (b && l.all f) := by
  induction l with
  | nil => intro b; simp
  | cons x l ih => intro b; rw [List.foldl_cons, ih, List.all_cons, Bool.and_assoc]
theorem len_pos (l : List Box) : decide ((0 : Int) < l.length) = !((l.length : Int) == 0) := by
  rw [Bool.eq_iff_iff, Bool.not_eq_true', beq_eq_false_iff_ne, decide_eq_true_eq]
  omega
theorem len_zero {l : List Box} (h : ((l.length : Int) == 0) = true) : l = [] := by
  rw [beq_iff_eq] at h
  exact List.eq_nil_of_length_eq_zero (by omega)
theorem may_eq (d : Decl) : rRight d = may d := by
  unfold rRight may
  by_cases hk : d.kind < 1 ∨ 6 < d.kind
  · rw [if_pos hk, if_neg (by omega), if_neg (by omega), if_neg (by omega), if_neg (by omega)]
  · rw [if_neg hk]
    have h6 : d.kind = 1 ∨ d.kind = 2 ∨ d.kind = 3 ∨ d.kind = 4 ∨ d.kind = 5 ∨ d.kind = 6 := by omega
    have hb : rBoxes d = (rBoxes0 d && d.boxes.all boxN) := foldl_and _ _ _
    rw [hb]
    unfold rNamed rNumber rBoxes0 rRole rRest
    rw [len_pos, rMay_eq, rMay_eq, rMay_eq]
    unfold noRule noName ruleD placeW boxesN
    rw [len_pos]
    cases hl : ((d.boxes.length : Int) == 0) with
    | true =>
      have h0 := len_zero hl
      rw [h0]
      rcases h6 with h | h | h | h | h | h <;> rw [h] <;> simp <;> (try (rw [Bool.eq_iff_iff]; simp only [Bool.and_eq_true])) <;> (try (constructor <;> (intro hh; simp_all; done)))
    | false =>
      rcases h6 with h | h | h | h | h | h <;> rw [h] <;> simp <;> (try (rw [Bool.eq_iff_iff]; simp only [Bool.and_eq_true])) <;> (try (constructor <;> (intro hh; simp_all; done)))

theorem may_kind {d : Decl} (h : may d = true) : 1 ≤ d.kind ∧ d.kind ≤ 6 := by
  unfold may at h
  split at h
  · omega
  · split at h
    · omega
    · split at h
      · omega
      · split at h
        · omega
        · cases h
theorem may_boxes {d : Decl} (h : may d = true) (hk : d.kind ≠ 3) : d.boxes = [] := by
  unfold may at h
  by_cases h1 : d.kind = 1 ∨ d.kind = 2
  · rw [if_pos h1] at h; simp only [Bool.and_eq_true] at h; exact len_zero h.1.1.2
  · rw [if_neg h1, if_neg hk] at h
    by_cases h4 : d.kind = 4 ∨ d.kind = 5
    · rw [if_pos h4] at h; simp only [noName, Bool.and_eq_true] at h; exact len_zero h.1.2
    · rw [if_neg h4] at h
      by_cases h6 : d.kind = 6
      · rw [if_pos h6] at h; simp only [noName, Bool.and_eq_true] at h; exact len_zero h.1.1.2
      · rw [if_neg h6] at h; cases h

/-! ### the reference's -/
def rsum (ahead : List Decl) (k : Int) (w : Who) : Except Int Int :=
  if w.any then .ok 255
  else if w.name.data.toList = [] then (if 7 < w.n then .error 33 else .ok (2 ^ w.n.toNat))
  else match declared ahead k w.name with
    | none => .error 21
    | some d => if 7 < d.n then .error 33 else .ok (2 ^ d.n.toNat)
def rwhere (ahead : List Decl) (w : Who) : Except Int (List Box) :=
  if w.any then .ok [grid] else match declared ahead 3 w.name with | none => .error 21 | some g => .ok g.boxes
def rrule (ahead : List Decl) (d : Decl) (n boxes : Int) : Except F3 Rule :=
  if 32 ≤ n then .error (2, d.line, d.col)
  else match rsum ahead 1 d.role with
    | .error e => .error (e, d.role.line, d.role.col)
    | .ok roles =>
      if d.kind = 6 then .ok ⟨d.kind, roles, 0, 0, 0, [], 0⟩
      else if d.hi < d.lo ∨ 7 < d.hi then .error (33, d.line, d.col)
      else match rsum ahead 2 d.label with
        | .error e => .error (e, d.label.line, d.label.col)
        | .ok labels => match rwhere ahead d.place with
          | .error e => .error (e, d.place.line, d.place.col)
          | .ok bs =>
            if 32 < boxes + bs.length then .error (2, d.line, d.col)
            else if 16 < d.zoom then .error (33, d.line, d.col)
            else .ok ⟨d.kind, roles, d.lo, d.hi, labels, bs, d.zoom⟩
def rbad (d : Decl) : Bool := d.boxes.foldl (fun b x => b || !boxR x) (decide (d.kind < 3) && decide (7 < d.n))
def rrun : List Decl → List Decl → List Rule → Int → Except F3 (List Rule)
  | _, [], out, _ => .ok out
  | a, d :: r, out, boxes =>
    if 3 < d.kind then match rrule a d out.length boxes with
      | .error f => .error f
      | .ok x => rrun (a ++ [d]) r (out ++ [x]) (boxes + x.boxes.length)
    else if (declared a d.kind d.name).isSome then .error (20, d.line, d.col)
    else if rbad d then .error (33, d.line, d.col)
    else rrun (a ++ [d]) r out boxes
def rcheckV (l : List Decl) : Except F3 (List Rule) := if l.all rRight then rrun [] l [] 0 else .error (1, 0, 0)

theorem foldl_or {α : Type} (f : α → Bool) (l : List α) : ∀ b, l.foldl (fun b x => b || !f x) b = (b || !l.all f) := by
  induction l with
  | nil => intro b; simp
  | cons x l ih => intro b; rw [List.foldl_cons, ih, List.all_cons, Bool.not_and, Bool.or_assoc]
theorem rsum_eq (ahead : List Decl) (k : Int) (w : Who) : rsum ahead k w = if setE ahead k w = 0 then .ok (setN ahead k w) else .error (setE ahead k w) := by
  unfold rsum setE setN whoN
  cases w.any with
  | true => rfl
  | false =>
    simp only [Bool.false_eq_true, if_false]
    by_cases h : w.name.data.toList = []
    · simp only [h, if_true, ne_eq, not_true, false_and, if_false]
      by_cases h7 : 7 < w.n
      · simp [h7]
      · simp [h7]
    · simp only [h, if_false, ne_eq, not_false_eq_true, true_and]
      cases hd : declared ahead k w.name with
      | none => simp
      | some d =>
        simp only [reduceCtorEq, if_false]
        by_cases h7 : 7 < d.n
        · simp [h7]
        · simp [h7]
theorem rwhere_eq (ahead : List Decl) (w : Who) : rwhere ahead w = if whereE ahead w = 0 then .ok (whereB ahead w) else .error (whereE ahead w) := by
  unfold rwhere whereE whereB
  cases w.any with
  | true => rfl
  | false =>
    simp only [Bool.false_eq_true, if_false]
    cases declared ahead 3 w.name with
    | none => simp
    | some d => simp
theorem setE_vals (ahead : List Decl) (k : Int) (w : Who) : setE ahead k w = 0 ∨ setE ahead k w = 21 ∨ setE ahead k w = 33 := by
  unfold setE
  split
  · exact .inl rfl
  · split
    · exact .inr (.inl rfl)
    · split
      · exact .inr (.inr rfl)
      · exact .inl rfl
theorem whereE_vals (ahead : List Decl) (w : Who) : whereE ahead w = 0 ∨ whereE ahead w = 21 := by
  unfold whereE
  split
  · exact .inl rfl
  · split
    · exact .inl rfl
    · exact .inr rfl

/-- a state that stopped stays -/
theorem wrong_stopped {c : Ck} (h : c.f.1 ≠ 0) (e l k : Int) : c.wrong e l k = c := by unfold Ck.wrong; rw [if_neg h]
theorem wrongIf_stopped {c : Ck} (h : c.f.1 ≠ 0) (e l k : Int) : c.wrongIf e l k = c := by
  unfold Ck.wrongIf
  split
  · rfl
  · exact wrong_stopped h _ _ _
theorem wrong_f {c : Ck} (h : c.f.1 = 0) (e l k : Int) : c.wrong e l k = { c with f := (e, l, k) } := by unfold Ck.wrong; rw [if_pos h]
theorem wrongIf_f {c : Ck} (h : c.f.1 = 0) {e : Int} (he : e ≠ 0) (l k : Int) : c.wrongIf e l k = { c with f := (e, l, k) } := by unfold Ck.wrongIf; rw [if_neg he, wrong_f h]
theorem wrongIf_zero (c : Ck) (l k : Int) : c.wrongIf 0 l k = c := by unfold Ck.wrongIf; rw [if_pos rfl]

theorem ckRule_eq (ahead : List Decl) (c : Ck) (d : Decl) (h0 : c.f = (0, 0, 0)) (hn : c.rules.length ≤ 32) :
    match rrule ahead d c.rules.length c.boxes with
    | .error f => (ckRule ahead c d).f = f ∧ f.1 ≠ 0
    | .ok x => ckRule ahead c d = ⟨c.rules ++ [x], c.boxes + x.boxes.length, (0, 0, 0)⟩ ∧ c.rules.length < 32 := by
  obtain ⟨rules, boxes, f⟩ := c
  simp only at h0 hn
  subst h0
  have v1 := setE_vals ahead 1 d.role
  have v2 := setE_vals ahead 2 d.label
  have v3 := whereE_vals ahead d.place
  unfold rrule
  rw [rsum_eq, rsum_eq, rwhere_eq]
  unfold ckRule ckCloak ckZoom ckBoxes ckMore ckWhere ckLabel ckTier ckRole ckLong ckRuleOf
  simp only
  by_cases hl : rules.length = 32
  · have hl' : (32 : Int) ≤ rules.length := by omega
    simp [hl, Ck.wrong, Ck.wrongIf]
    split <;> simp
    all_goals (repeat' split) <;> simp_all
  · have hl' : ¬ (32 : Int) ≤ rules.length := by omega
    have hl3 : rules.length < 32 := by omega
    simp only [hl, hl', if_false]
    by_cases h1 : setE ahead 1 d.role = 0
    · rw [h1]
      simp only [if_true, wrongIf_zero]
      by_cases h6 : d.kind = 6
      · simp [h6, hl3]
      · simp only [h6, if_false]
        by_cases ht : d.hi < d.lo ∨ 7 < d.hi
        · simp only [ht, if_true]
          simp [Ck.wrong, Ck.wrongIf]
          all_goals ((repeat' split) <;> simp_all)
        · simp only [ht, if_false]
          by_cases h2 : setE ahead 2 d.label = 0
          · rw [h2]
            simp only [if_true, wrongIf_zero]
            by_cases h3 : whereE ahead d.place = 0
            · rw [h3]
              simp only [if_true, wrongIf_zero]
              by_cases hb : 32 < boxes + ((whereB ahead d.place).length : Int)
              · simp only [hb, if_true]
                simp [Ck.wrong]
                all_goals ((repeat' split) <;> simp_all)
              · simp only [hb, if_false]
                by_cases hz : 16 < d.zoom
                · simp [hz, Ck.wrong]
                · simp [hz, hl3]
            · simp only [h3, if_false]
              simp [Ck.wrong, Ck.wrongIf, h3]
              all_goals ((repeat' split) <;> simp_all)
          · simp only [h2, if_false]
            simp [Ck.wrong, Ck.wrongIf, h2]
            all_goals ((repeat' split) <;> simp_all)
    · simp only [h1, if_false]
      simp [Ck.wrong, Ck.wrongIf, h1]
      all_goals ((repeat' split) <;> simp_all)

theorem rbad_eq {d : Decl} (hm : may d = true) (hk : d.kind ≤ 3) : rbad d = if d.kind = 3 then !boxesR d.boxes else decide (7 < d.n) := by
  unfold rbad boxesR
  rw [foldl_or]
  have := may_kind hm
  by_cases h3 : d.kind = 3
  · rw [if_pos h3]; simp [h3]
  · rw [if_neg h3, may_boxes hm h3]
    have : d.kind < 3 := by omega
    simp [this]

theorem ckRun_eq (l : List Decl) : ∀ (a : List Decl) (c : Ck), (∀ d ∈ l, may d = true) → c.f = (0, 0, 0) → c.rules.length ≤ 32 → rrun a l c.rules c.boxes = ckRun a l c := by
  induction l with
  | nil => intro a c _ _ _; rfl
  | cons d l ih =>
    intro a c hm h0 hn
    have hd := hm d List.mem_cons_self
    have hk := may_kind hd
    have hm' : ∀ d ∈ l, may d = true := fun x hx => hm x (List.mem_cons_of_mem _ hx)
    unfold rrun ckRun
    by_cases h3 : 3 < d.kind
    · rw [if_pos h3]
      have he : ckDecl a c d = ckRule a c d := by unfold ckDecl; rw [if_neg (by omega), if_neg (by omega)]
      rw [he]
      have hr := ckRule_eq a c d h0 hn
      revert hr
      cases rrule a d c.rules.length c.boxes with
      | error f => intro hr; simp only at hr ⊢; rw [if_neg (by rw [hr.1]; exact hr.2), hr.1]
      | ok x =>
        intro hr
        simp only at hr ⊢
        rw [hr.1, if_pos rfl]
        have := hr.2
        exact ih _ ⟨c.rules ++ [x], _, _⟩ hm' rfl (by simp only [List.length_append, List.length_cons, List.length_nil]; omega)
    · rw [if_neg h3, rbad_eq hd (by omega)]
      have hz : c.f.1 = 0 := by rw [h0]
      by_cases hk3 : d.kind = 3
      · have he : ckDecl a c d = ckRegion a c d := by unfold ckDecl; rw [if_neg (by omega), if_pos hk3]
        rw [he, if_pos hk3]
        unfold ckRegion
        rw [hk3]
        cases (declared a 3 d.name).isSome with
        | true => simp [wrong_f hz]
        | false =>
          cases hb : boxesR d.boxes with
          | true => simp [hz]; exact ih _ c hm' h0 hn
          | false => simp [wrong_f hz]
      · have he : ckDecl a c d = ckNumber a c d := by unfold ckDecl; rw [if_pos (by omega)]
        rw [he, if_neg hk3]
        unfold ckNumber
        cases (declared a d.kind d.name).isSome with
        | true => simp [wrong_f hz]
        | false =>
          by_cases h7 : 7 < d.n
          · simp [h7, wrong_f hz]
          · simp [h7, hz]; exact ih _ c hm' h0 hn

theorem rcheck_eq (l : List Decl) : rcheckV l = checkV l := by
  unfold rcheckV checkV
  have e : l.all rRight = l.all may := by congr 1; funext d; exact may_eq d
  rw [e]
  cases h : l.all may with
  | false => rfl
  | true =>
    simp only [if_true]
    exact ckRun_eq l [] ⟨[], 0, (0, 0, 0)⟩ (fun d hd => List.all_eq_true.1 h d hd) rfl (by simp)

end Go.Proofs.YtnoieobjfihbeaaGreatDoor.Ru
