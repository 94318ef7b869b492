/-
  The policy's writer: what stands behind a declaration's first word.
-/
import Derived.Test.YtnoieobjfihbeaaDoorPk21

namespace Go.Proofs.YtnoieobjfihbeaaDoor
open Go.RowKit Go.Sort

theorem put_two (a c : Lx.Bytes) : Pt.put [a, c] = 32 :: a ++ 32 :: c := by unfold Pt.put; simp
theorem put_len1 (a : Lx.Bytes) : (Pt.put [a]).length = 1 + a.length := by rw [put_one, List.length_cons]; omega
theorem put_len2 (a c : Lx.Bytes) : (Pt.put [a, c]).length = 2 + a.length + c.length := by unfold Pt.put; simp; omega
theorem put_len3 (a c d : Lx.Bytes) : (Pt.put [a, c, d]).length = 3 + a.length + c.length + d.length := by unfold Pt.put; simp; omega
section
variable {B b : Nat} {l : List UInt8} {w : World}
theorem put1_w (h : WB B b l w) (s : ByteArray) (U : Lx.Bytes) (hU : s.data.toList = U) (hlen : l.length + (Pt.put [U]).length ≤ 140737488355328) (k : Nat) (hk : k = w.heap.size) :
    Calls Tryd.prog 45 #[.pointer (some ⟨b, 0, none⟩), .slice (some ⟨k, 0, none⟩) 1 1] (w.alloc (.cells #[.string s] 9)) fun e w' => e = .returned (.tuple #[]) ∧ WB B b (l ++ Pt.put [U]) w' ∧ Wrote B b w w' := by
  subst hU
  rw [put_len1, dat_size] at hlen
  exact put1_any h s hlen k hk
theorem put2_w (h : WB B b l w) (s t : ByteArray) (U V : Lx.Bytes) (hU : s.data.toList = U) (hV : t.data.toList = V) (hlen : l.length + (Pt.put [U, V]).length ≤ 140737488355328) (k : Nat) (hk : k = w.heap.size) :
    Calls Tryd.prog 45 #[.pointer (some ⟨b, 0, none⟩), .slice (some ⟨k, 0, none⟩) 2 2] (w.alloc (.cells #[.string s, .string t] 9)) fun e w' => e = .returned (.tuple #[]) ∧ WB B b (l ++ Pt.put [U, V]) w' ∧ Wrote B b w w' := by
  subst hU hV
  rw [put_len2, dat_size, dat_size] at hlen
  exact put2_any h s t hlen k hk
theorem put3_w (h : WB B b l w) (s t u : ByteArray) (U V X : Lx.Bytes) (hU : s.data.toList = U) (hV : t.data.toList = V) (hX : u.data.toList = X) (hlen : l.length + (Pt.put [U, V, X]).length ≤ 140737488355328) (k : Nat) (hk : k = w.heap.size) :
    Calls Tryd.prog 45 #[.pointer (some ⟨b, 0, none⟩), .slice (some ⟨k, 0, none⟩) 3 3] (w.alloc (.cells #[.string s, .string t, .string u] 9)) fun e w' => e = .returned (.tuple #[]) ∧ WB B b (l ++ Pt.put [U, V, X]) w' ∧ Wrote B b w w' := by
  subst hU hV hX
  rw [put_len3, dat_size, dat_size, dat_size] at hlen
  exact put3_any h s t u hlen k hk
theorem wwho_w (h : WB B b l w) (x : Po.Who) (s : ByteArray) (U : Lx.Bytes) (hU : s.data.toList = U) (hx : x.any = false → x.name.data.toList = [] → Ru.num x.n = true) (hlen : l.length + (Pt.put [Pt.whoB U x]).length ≤ 140737488355328) :
    Calls Tryd.prog 48 #[.pointer (some ⟨b, 0, none⟩), .agg (whoArr x), .string s] w fun e w' => e = .returned (.tuple #[]) ∧ WB B b (l ++ Pt.put [Pt.whoB U x]) w' ∧ Wrote B b w w' := by
  subst hU
  rw [put_len1] at hlen
  exact wwho_any h x s hx hlen
theorem wtiers_w (h : WB B b l w) (lo hi : Int) (h1 : Ru.num lo = true) (h2 : Ru.num hi = true) (hlen : l.length + (Pt.put [Pt.tiersB lo hi]).length ≤ 140737488355328) :
    Calls Tryd.prog 49 #[.pointer (some ⟨b, 0, none⟩), .int .i64 lo, .int .i64 hi] w fun e w' => e = .returned (.tuple #[]) ∧ WB B b (l ++ Pt.put [Pt.tiersB lo hi]) w' ∧ Wrote B b w w' := by
  rw [put_len1] at hlen
  exact wtiers_any h lo hi h1 h2 hlen
end
theorem rightW_num {x : Po.Who} (h : Ru.rightW x = true) : x.any = false → x.name.data.toList = [] → Ru.num x.n = true := by
  intro h1 h2
  unfold Ru.rightW at h
  rw [h1, h2] at h
  simpa using h

set_option maxRecDepth 100000 in
set_option maxHeartbeats 4000000 in
theorem wrest_1 {B b : Nat} {l : List UInt8} {w : World} (h : WB B b l w) (D : Po.Decl) (bp : Option Addr) (bc : Nat) (hk : D.kind = 1) (hn : Ru.num D.n = true) (hlen : l.length + (Pt.put [D.name.data.toList, [61], Lib.itoa D.n]).length ≤ 140737488355328) :
    Calls Tryd.prog 22 #[.pointer (some ⟨b, 0, none⟩), .agg (declCells D (.slice bp D.boxes.length bc))] w fun e w' => e = .returned (.tuple #[]) ∧ WB B b (l ++ (Pt.put [D.name.data.toList, [61], Lib.itoa D.n])) w' ∧ Wrote B b w w' := by
  have z := balloc w (.cells (declCells D (.slice bp D.boxes.length bc)) 44)
  have H0 := hid (h.ext z)
  have W0 := hid (Wrote.ext (b := b) h.le z)
  have A0 := hid (Blk.new w (declCells D (.slice bp D.boxes.length bc)) 44)
  have hkb : w.heap.size ≠ b := by have := h.lt; omega
  have hl := hid hlen
  have q1 : (D.kind == 1) = true := beq_iff_eq.2 (by omega)
  have yk : (declCells D (.slice bp D.boxes.length bc))[0]? = some (.int .i64 D.kind) := rfl
  clear z h hk hlen
  go_enter Tryd.func22, Tryd.ntmps22
  go_upto_region 13 with (fail)
  clear yk q1
  generalize w.alloc (.cells (declCells D (.slice bp D.boxes.length bc)) 44) = wa at *
  generalize w.heap.size = k at *
  have B0 := hid H0.out.drew
  have W1 := hid W0.out.drewr
  have A1 := hid (Blk.drew A0.out)
  have S0 : wa.drew.cell? ⟨k, 1, none⟩ = some (.string D.name) ∧ wa.drew.cell? ⟨k, 2, none⟩ = some (.int .i64 D.n) := ⟨A1.out.cell 1 rfl, A1.out.cell 2 rfl⟩
  clear H0 W0 A0
  go_region_held3 (fun w' => w'.cell? ⟨k, 1, none⟩ = some (.string D.name) ∧ w'.cell? ⟨k, 2, none⟩ = some (.int .i64 D.n))
    (first | with_reducible assumption | go_keep) (first
    | ((go_at_call 46
        with_reducible refine (num_any B0.out D.n hn).mono ?_
        rintro en w3 ⟨rfl, hb⟩
        have B3 := hid (B0.out.ext hb)
        have W3 := hid (W1.out.trans (Wrote.ext B0.out.le hb))
        have A3 := hid (A1.out.ext hb)
        have S3 : w3.cell? ⟨k, 1, none⟩ = some (.string D.name) ∧ w3.cell? ⟨k, 2, none⟩ = some (.int .i64 D.n) := ⟨A3.out.cell 1 rfl, A3.out.cell 2 rfl⟩
        clear hb S0 B0 W1 A1))
    | ((go_at_call 45
        with_reducible refine (put3_w B3.out D.name ⟨#[61]⟩ ⟨(Lib.itoa D.n).toArray⟩ D.name.data.toList [61] (Lib.itoa D.n) rfl rfl (txt_bytes _) hl.out _ rfl).mono ?_
        rintro en w7 ⟨rfl, h7, q7⟩
        have B7 := hid h7
        have W7 := hid (W3.out.trans q7)
        have S7 : w7.cell? ⟨k, 1, none⟩ = some (.string D.name) ∧ w7.cell? ⟨k, 2, none⟩ = some (.int .i64 D.n) := ⟨(A3.out.wrote q7 hkb (by decide)).cell 1 rfl, (A3.out.wrote q7 hkb (by decide)).cell 2 rfl⟩
        clear h7 q7 S3 B3 W3)))
  go_wp2_with fail
  go_end0
  exact ⟨rfl, B7.out, W7.out⟩

set_option maxRecDepth 100000 in
set_option maxHeartbeats 4000000 in
theorem wrest_2 {B b : Nat} {l : List UInt8} {w : World} (h : WB B b l w) (D : Po.Decl) (bp : Option Addr) (bc : Nat) (hk : D.kind = 2) (hn : Ru.num D.n = true) (hlen : l.length + (Pt.put [D.name.data.toList, [61], Lib.itoa D.n]).length ≤ 140737488355328) :
    Calls Tryd.prog 22 #[.pointer (some ⟨b, 0, none⟩), .agg (declCells D (.slice bp D.boxes.length bc))] w fun e w' => e = .returned (.tuple #[]) ∧ WB B b (l ++ (Pt.put [D.name.data.toList, [61], Lib.itoa D.n])) w' ∧ Wrote B b w w' := by
  have z := balloc w (.cells (declCells D (.slice bp D.boxes.length bc)) 44)
  have H0 := hid (h.ext z)
  have W0 := hid (Wrote.ext (b := b) h.le z)
  have A0 := hid (Blk.new w (declCells D (.slice bp D.boxes.length bc)) 44)
  have hkb : w.heap.size ≠ b := by have := h.lt; omega
  have hl := hid hlen
  have q1 : (D.kind == 1) = false := beq_eq_false_iff_ne.2 (by omega)
  have q2 : (D.kind == 2) = true := beq_iff_eq.2 (by omega)
  have yk : (declCells D (.slice bp D.boxes.length bc))[0]? = some (.int .i64 D.kind) := rfl
  clear z h hk hlen
  go_enter Tryd.func22, Tryd.ntmps22
  go_upto_region 13 with (fail)
  clear yk q1 q2
  generalize w.alloc (.cells (declCells D (.slice bp D.boxes.length bc)) 44) = wa at *
  generalize w.heap.size = k at *
  have B0 := hid H0.out.drew
  have W1 := hid W0.out.drewr
  have A1 := hid (Blk.drew A0.out)
  have S0 : wa.drew.cell? ⟨k, 1, none⟩ = some (.string D.name) ∧ wa.drew.cell? ⟨k, 2, none⟩ = some (.int .i64 D.n) := ⟨A1.out.cell 1 rfl, A1.out.cell 2 rfl⟩
  clear H0 W0 A0
  go_region_held3 (fun w' => w'.cell? ⟨k, 1, none⟩ = some (.string D.name) ∧ w'.cell? ⟨k, 2, none⟩ = some (.int .i64 D.n))
    (first | with_reducible assumption | go_keep) (first
    | ((go_at_call 46
        with_reducible refine (num_any B0.out D.n hn).mono ?_
        rintro en w3 ⟨rfl, hb⟩
        have B3 := hid (B0.out.ext hb)
        have W3 := hid (W1.out.trans (Wrote.ext B0.out.le hb))
        have A3 := hid (A1.out.ext hb)
        have S3 : w3.cell? ⟨k, 1, none⟩ = some (.string D.name) ∧ w3.cell? ⟨k, 2, none⟩ = some (.int .i64 D.n) := ⟨A3.out.cell 1 rfl, A3.out.cell 2 rfl⟩
        clear hb S0 B0 W1 A1))
    | ((go_at_call 45
        with_reducible refine (put3_w B3.out D.name ⟨#[61]⟩ ⟨(Lib.itoa D.n).toArray⟩ D.name.data.toList [61] (Lib.itoa D.n) rfl rfl (txt_bytes _) hl.out _ rfl).mono ?_
        rintro en w7 ⟨rfl, h7, q7⟩
        have B7 := hid h7
        have W7 := hid (W3.out.trans q7)
        have S7 : w7.cell? ⟨k, 1, none⟩ = some (.string D.name) ∧ w7.cell? ⟨k, 2, none⟩ = some (.int .i64 D.n) := ⟨(A3.out.wrote q7 hkb (by decide)).cell 1 rfl, (A3.out.wrote q7 hkb (by decide)).cell 2 rfl⟩
        clear h7 q7 S3 B3 W3)))
  go_wp2_with fail
  go_end0
  exact ⟨rfl, B7.out, W7.out⟩

set_option maxRecDepth 100000 in
set_option maxHeartbeats 4000000 in
theorem wrest_3 {B b : Nat} {l : List UInt8} {w : World} (h : WB B b l w) (D : Po.Decl) (bp : Option Addr) (bc : Nat) (hk : D.kind = 3) (hr : ∀ w', Below B w w' → BRow w' (.slice bp D.boxes.length bc) D.boxes) (hb : ∀ x ∈ D.boxes, Ru.boxN x = true) (hn : D.boxes.length ≤ 140737488355328) (hlen : l.length + (Pt.put [D.name.data.toList, [61]] ++ Pt.boxesB D.boxes).length ≤ 140737488355328) :
    Calls Tryd.prog 22 #[.pointer (some ⟨b, 0, none⟩), .agg (declCells D (.slice bp D.boxes.length bc))] w fun e w' => e = .returned (.tuple #[]) ∧ WB B b (l ++ (Pt.put [D.name.data.toList, [61]] ++ Pt.boxesB D.boxes)) w' ∧ Wrote B b w w' := by
  have z := balloc w (.cells (declCells D (.slice bp D.boxes.length bc)) 44)
  have H0 := hid (h.ext z)
  have W0 := hid (Wrote.ext (b := b) h.le z)
  have A0 := hid (Blk.new w (declCells D (.slice bp D.boxes.length bc)) 44)
  have hkb : w.heap.size ≠ b := by have := h.lt; omega
  have hl := hid hlen
  have q1 : (D.kind == 1) = false := beq_eq_false_iff_ne.2 (by omega)
  have q2 : (D.kind == 2) = false := beq_eq_false_iff_ne.2 (by omega)
  have q3 : (D.kind == 3) = true := beq_iff_eq.2 (by omega)
  have yk : (declCells D (.slice bp D.boxes.length bc))[0]? = some (.int .i64 D.kind) := rfl
  clear z h hk hlen
  go_enter Tryd.func22, Tryd.ntmps22
  have y1 : (declCells D (.slice bp D.boxes.length bc))[1]? = some (.string D.name) := rfl
  go_wp2_with fail
  clear yk y1 q1 q2 q3
  refine (put2_w H0.out D.name ⟨#[61]⟩ D.name.data.toList [61] rfl rfl (by have := hl.out; rw [List.length_append] at this; omega) _ (by simp)).mono ?_
  rintro e v1 ⟨rfl, h1, q1⟩
  have B1 := hid h1
  have W1 := hid (W0.out.trans q1)
  have A1 := hid (A0.out.wrote q1 hkb (by decide))
  have R1 := hid (fun w' (hw : Below B v1 w') => hr w' (W1.out.bel.trans hw))
  clear h1 q1 A0 H0 W0
  have c3 := A1.out.cell 3 (v := .slice bp D.boxes.length bc) rfl
  go_wp2_with fail
  clear c3
  refine (wboxes_any B1.out R1.out hb (by have := hl.out; rw [List.length_append] at this; rw [List.length_append]; exact (by omega)) hn).mono ?_
  rintro e v2 ⟨rfl, h2, q2⟩
  have B2 := hid h2
  have W2 := hid (W1.out.trans q2)
  clear h2 q2
  go_wp2_with fail
  go_end0
  exact ⟨rfl, by rw [← List.append_assoc]; exact B2.out, W2.out⟩

set_option maxRecDepth 100000 in
set_option maxHeartbeats 4000000 in
theorem wrest_6 {B b : Nat} {l : List UInt8} {w : World} (h : WB B b l w) (D : Po.Decl) (bp : Option Addr) (bc : Nat) (hk : D.kind = 6) (hrole : Ru.rightW D.role = true) (hlen : l.length + (Pt.put [Po.wRole] ++ Pt.put [Pt.whoB Po.wAny D.role]).length ≤ 140737488355328) :
    Calls Tryd.prog 22 #[.pointer (some ⟨b, 0, none⟩), .agg (declCells D (.slice bp D.boxes.length bc))] w fun e w' => e = .returned (.tuple #[]) ∧ WB B b (l ++ (Pt.put [Po.wRole] ++ Pt.put [Pt.whoB Po.wAny D.role])) w' ∧ Wrote B b w w' := by
  have z := balloc w (.cells (declCells D (.slice bp D.boxes.length bc)) 44)
  have H0 := hid (h.ext z)
  have W0 := hid (Wrote.ext (b := b) h.le z)
  have A0 := hid (Blk.new w (declCells D (.slice bp D.boxes.length bc)) 44)
  have hkb : w.heap.size ≠ b := by have := h.lt; omega
  have hl := hid hlen
  have q1 : (D.kind == 1) = false := beq_eq_false_iff_ne.2 (by omega)
  have q2 : (D.kind == 2) = false := beq_eq_false_iff_ne.2 (by omega)
  have q3 : (D.kind == 3) = false := beq_eq_false_iff_ne.2 (by omega)
  have q6 : (D.kind == 6) = true := beq_iff_eq.2 (by omega)
  have yk : (declCells D (.slice bp D.boxes.length bc))[0]? = some (.int .i64 D.kind) := rfl
  clear z h hk hlen
  go_enter Tryd.func22, Tryd.ntmps22
  go_wp2_with fail
  clear yk q1 q2 q3 q6
  refine (put1_w H0.out ⟨#[114, 111, 108, 101]⟩ Po.wRole rfl (by have := hl.out; rw [List.length_append] at this; omega) _ (by simp)).mono ?_
  rintro e v1 ⟨rfl, h1, q1⟩
  have B1 := hid h1
  have W1 := hid (W0.out.trans q1)
  have A1 := hid (A0.out.wrote q1 hkb (by decide))
  clear h1 q1 A0 H0 W0
  go_wp2_with (first | (refine wpList_load_at rfl 42 (.tmp 70) rfl 71 rfl w.heap.size (4) (whoArr D.role) (range_role A1.out) rfl Tryd.underlying42 rfl (by kernel_rfl) ?_))
  refine (wwho_w B1.out D.role ⟨#[97, 110, 121]⟩ Po.wAny rfl (rightW_num hrole) (by have := hl.out; rw [List.length_append] at this; rw [List.length_append]; omega)).mono ?_
  rintro e v2 ⟨rfl, h2, q2⟩
  have B2 := hid h2
  have W2 := hid (W1.out.trans q2)
  clear h2 q2
  go_wp2_with fail
  go_end0
  exact ⟨rfl, by rw [← List.append_assoc]; exact B2.out, W2.out⟩

set_option maxRecDepth 100000 in
set_option maxHeartbeats 4000000 in
theorem wrest_4 {B b : Nat} {l : List UInt8} {w : World} (h : WB B b l w) (D : Po.Decl) (bp : Option Addr) (bc : Nat) (hk : D.kind = 4) (hrole : Ru.rightW D.role = true) (hlo : Ru.num D.lo = true) (hhi : Ru.num D.hi = true) (hlabel : Ru.rightW D.label = true) (hplace : Ru.rightW D.place = true) (hzoom : Ru.num D.zoom = true) (hlen : l.length + (Pt.put [Po.wRole] ++ (Pt.put [Pt.whoB Po.wAny D.role] ++ (Pt.put [Po.wTier] ++ (Pt.put [Pt.tiersB D.lo D.hi] ++ (Pt.put [Po.wLabel] ++ (Pt.put [Pt.whoB Po.wAny D.label] ++ (Pt.put [Po.wIn] ++ (Pt.put [Pt.whoB Po.wAll D.place] ++ (Pt.put [Po.wZoom, Lib.itoa D.zoom]))))))))).length ≤ 140737488355328) :
    Calls Tryd.prog 22 #[.pointer (some ⟨b, 0, none⟩), .agg (declCells D (.slice bp D.boxes.length bc))] w fun e w' => e = .returned (.tuple #[]) ∧ WB B b (l ++ (Pt.put [Po.wRole] ++ (Pt.put [Pt.whoB Po.wAny D.role] ++ (Pt.put [Po.wTier] ++ (Pt.put [Pt.tiersB D.lo D.hi] ++ (Pt.put [Po.wLabel] ++ (Pt.put [Pt.whoB Po.wAny D.label] ++ (Pt.put [Po.wIn] ++ (Pt.put [Pt.whoB Po.wAll D.place] ++ (Pt.put [Po.wZoom, Lib.itoa D.zoom])))))))))) w' ∧ Wrote B b w w' := by
  have z := balloc w (.cells (declCells D (.slice bp D.boxes.length bc)) 44)
  have H0 := hid (h.ext z)
  have W0 := hid (Wrote.ext (b := b) h.le z)
  have A0 := hid (Blk.new w (declCells D (.slice bp D.boxes.length bc)) 44)
  have hkb : w.heap.size ≠ b := by have := h.lt; omega
  have hl := hid hlen
  have q1 : (D.kind == 1) = false := beq_eq_false_iff_ne.2 (by omega)
  have q2 : (D.kind == 2) = false := beq_eq_false_iff_ne.2 (by omega)
  have q3 : (D.kind == 3) = false := beq_eq_false_iff_ne.2 (by omega)
  have q6 : (D.kind == 6) = false := beq_eq_false_iff_ne.2 (by omega)
  have yk : (declCells D (.slice bp D.boxes.length bc))[0]? = some (.int .i64 D.kind) := rfl
  clear z h hk hlen
  go_enter Tryd.func22, Tryd.ntmps22
  go_wp2_with fail
  clear yk q1 q2 q3 q6
  have hL : Hid (l.length + ((Pt.put [Po.wRole]).length + ((Pt.put [Pt.whoB Po.wAny D.role]).length + ((Pt.put [Po.wTier]).length + ((Pt.put [Pt.tiersB D.lo D.hi]).length + ((Pt.put [Po.wLabel]).length + ((Pt.put [Pt.whoB Po.wAny D.label]).length + ((Pt.put [Po.wIn]).length + ((Pt.put [Pt.whoB Po.wAll D.place]).length + (Pt.put [Po.wZoom, Lib.itoa D.zoom]).length)))))))) ≤ 140737488355328) := hid (by have := hl.out; simpa only [List.length_append] using this)
  clear hl
  refine (put1_w H0.out ⟨#[114, 111, 108, 101]⟩ Po.wRole rfl (by have := hL.out; first | omega | (simp only [List.length_append] at *; omega)) _ (by simp)).mono ?_
  rintro e v1 ⟨rfl, h1, q1⟩
  have B1 := hid h1
  have W1 := hid (W0.out.trans q1)
  have A1 := hid (A0.out.wrote q1 hkb (by decide))
  clear h1 q1 A0 H0 W0
  go_wp2_with (first | (refine wpList_load_at rfl 42 (.tmp 10) rfl 11 rfl w.heap.size (4) (whoArr D.role) (range_role A1.out) rfl Tryd.underlying42 rfl (by kernel_rfl) ?_))
  refine (wwho_w B1.out D.role ⟨#[97, 110, 121]⟩ Po.wAny rfl (rightW_num hrole) (by have := hL.out; first | omega | (simp only [List.length_append] at *; omega))).mono ?_
  rintro e v2 ⟨rfl, h2, q2⟩
  have B2 := hid h2
  have W2 := hid (W1.out.trans q2)
  have A2 := hid (A1.out.wrote q2 hkb (by decide))
  clear h2 q2 A1 B1 W1
  go_wp2_with fail
  refine (put1_w B2.out ⟨#[116, 105, 101, 114]⟩ Po.wTier rfl (by have := hL.out; first | omega | (simp only [List.length_append] at *; omega)) _ (by simp)).mono ?_
  rintro e v3 ⟨rfl, h3, q3⟩
  have B3 := hid h3
  have W3 := hid (W2.out.trans q3)
  have A3 := hid (A2.out.wrote q3 hkb (by decide))
  clear h3 q3 A2 B2 W2
  have c9 := A3.out.cell 9 (v := .int .i64 D.lo) rfl
  have c10 := A3.out.cell 10 (v := .int .i64 D.hi) rfl
  go_wp2_with fail
  clear c9 c10
  refine (wtiers_w B3.out D.lo D.hi hlo hhi (by have := hL.out; first | omega | (simp only [List.length_append] at *; omega))).mono ?_
  rintro e v4 ⟨rfl, h4, q4⟩
  have B4 := hid h4
  have W4 := hid (W3.out.trans q4)
  have A4 := hid (A3.out.wrote q4 hkb (by decide))
  clear h4 q4 A3 B3 W3
  go_wp2_with fail
  refine (put1_w B4.out ⟨#[108, 97, 98, 101, 108]⟩ Po.wLabel rfl (by have := hL.out; first | omega | (simp only [List.length_append] at *; omega)) _ (by simp)).mono ?_
  rintro e v5 ⟨rfl, h5, q5⟩
  have B5 := hid h5
  have W5 := hid (W4.out.trans q5)
  have A5 := hid (A4.out.wrote q5 hkb (by decide))
  clear h5 q5 A4 B4 W4
  go_wp2_with (first | (refine wpList_load_at rfl 42 (.tmp 26) rfl 27 rfl w.heap.size (11) (whoArr D.label) (range_label A5.out) rfl Tryd.underlying42 rfl (by kernel_rfl) ?_))
  refine (wwho_w B5.out D.label ⟨#[97, 110, 121]⟩ Po.wAny rfl (rightW_num hlabel) (by have := hL.out; first | omega | (simp only [List.length_append] at *; omega))).mono ?_
  rintro e v6 ⟨rfl, h6, q6⟩
  have B6 := hid h6
  have W6 := hid (W5.out.trans q6)
  have A6 := hid (A5.out.wrote q6 hkb (by decide))
  clear h6 q6 A5 B5 W5
  go_wp2_with fail
  refine (put1_w B6.out ⟨#[105, 110]⟩ Po.wIn rfl (by have := hL.out; first | omega | (simp only [List.length_append] at *; omega)) _ (by simp)).mono ?_
  rintro e v7 ⟨rfl, h7, q7⟩
  have B7 := hid h7
  have W7 := hid (W6.out.trans q7)
  have A7 := hid (A6.out.wrote q7 hkb (by decide))
  clear h7 q7 A6 B6 W6
  go_wp2_with (first | (refine wpList_load_at rfl 42 (.tmp 33) rfl 34 rfl w.heap.size (16) (whoArr D.place) (range_place A7.out) rfl Tryd.underlying42 rfl (by kernel_rfl) ?_))
  refine (wwho_w B7.out D.place ⟨#[97, 108, 108]⟩ Po.wAll rfl (rightW_num hplace) (by have := hL.out; first | omega | (simp only [List.length_append] at *; omega))).mono ?_
  rintro e v8 ⟨rfl, h8, q8⟩
  have B8 := hid h8
  have W8 := hid (W7.out.trans q8)
  have A8 := hid (A7.out.wrote q8 hkb (by decide))
  clear h8 q8 A7 B7 W7
  have c21 := A8.out.cell 21 (v := .int .i64 D.zoom) rfl
  go_wp2_with fail
  clear c21
  refine (num_any B8.out D.zoom hzoom).mono ?_
  rintro e v9 ⟨rfl, hb⟩
  have B9 := hid (B8.out.ext hb)
  have W9 := hid (W8.out.trans (Wrote.ext B8.out.le hb))
  clear hb B8 W8
  go_wp2_with fail
  refine (put2_w B9.out ⟨#[122, 111, 111, 109]⟩ ⟨(Lib.itoa D.zoom).toArray⟩ Po.wZoom (Lib.itoa D.zoom) rfl (txt_bytes _) (by have := hL.out; first | omega | (simp only [List.length_append] at *; omega)) _ rfl).mono ?_
  rintro e v10 ⟨rfl, h10, q10⟩
  have B10 := hid h10
  have W10 := hid (W9.out.trans q10)
  clear h10 q10 B9 W9
  go_wp2_with fail
  go_end0
  exact ⟨rfl, by simpa only [List.append_assoc] using B10.out, W10.out⟩

set_option maxRecDepth 100000 in
set_option maxHeartbeats 4000000 in
theorem wrest_5 {B b : Nat} {l : List UInt8} {w : World} (h : WB B b l w) (D : Po.Decl) (bp : Option Addr) (bc : Nat) (hk : D.kind = 5) (hrole : Ru.rightW D.role = true) (hlo : Ru.num D.lo = true) (hhi : Ru.num D.hi = true) (hlabel : Ru.rightW D.label = true) (hplace : Ru.rightW D.place = true) (hzoom : Ru.num D.zoom = true) (hlen : l.length + (Pt.put [Po.wRole] ++ (Pt.put [Pt.whoB Po.wAny D.role] ++ (Pt.put [Po.wTier] ++ (Pt.put [Pt.tiersB D.lo D.hi] ++ (Pt.put [Po.wLabel] ++ (Pt.put [Pt.whoB Po.wAny D.label] ++ (Pt.put [Po.wIn] ++ (Pt.put [Pt.whoB Po.wAll D.place] ++ (Pt.put [Po.wZoom, Lib.itoa D.zoom]))))))))).length ≤ 140737488355328) :
    Calls Tryd.prog 22 #[.pointer (some ⟨b, 0, none⟩), .agg (declCells D (.slice bp D.boxes.length bc))] w fun e w' => e = .returned (.tuple #[]) ∧ WB B b (l ++ (Pt.put [Po.wRole] ++ (Pt.put [Pt.whoB Po.wAny D.role] ++ (Pt.put [Po.wTier] ++ (Pt.put [Pt.tiersB D.lo D.hi] ++ (Pt.put [Po.wLabel] ++ (Pt.put [Pt.whoB Po.wAny D.label] ++ (Pt.put [Po.wIn] ++ (Pt.put [Pt.whoB Po.wAll D.place] ++ (Pt.put [Po.wZoom, Lib.itoa D.zoom])))))))))) w' ∧ Wrote B b w w' := by
  have z := balloc w (.cells (declCells D (.slice bp D.boxes.length bc)) 44)
  have H0 := hid (h.ext z)
  have W0 := hid (Wrote.ext (b := b) h.le z)
  have A0 := hid (Blk.new w (declCells D (.slice bp D.boxes.length bc)) 44)
  have hkb : w.heap.size ≠ b := by have := h.lt; omega
  have hl := hid hlen
  have q1 : (D.kind == 1) = false := beq_eq_false_iff_ne.2 (by omega)
  have q2 : (D.kind == 2) = false := beq_eq_false_iff_ne.2 (by omega)
  have q3 : (D.kind == 3) = false := beq_eq_false_iff_ne.2 (by omega)
  have q6 : (D.kind == 6) = false := beq_eq_false_iff_ne.2 (by omega)
  have yk : (declCells D (.slice bp D.boxes.length bc))[0]? = some (.int .i64 D.kind) := rfl
  clear z h hk hlen
  go_enter Tryd.func22, Tryd.ntmps22
  go_wp2_with fail
  clear yk q1 q2 q3 q6
  have hL : Hid (l.length + ((Pt.put [Po.wRole]).length + ((Pt.put [Pt.whoB Po.wAny D.role]).length + ((Pt.put [Po.wTier]).length + ((Pt.put [Pt.tiersB D.lo D.hi]).length + ((Pt.put [Po.wLabel]).length + ((Pt.put [Pt.whoB Po.wAny D.label]).length + ((Pt.put [Po.wIn]).length + ((Pt.put [Pt.whoB Po.wAll D.place]).length + (Pt.put [Po.wZoom, Lib.itoa D.zoom]).length)))))))) ≤ 140737488355328) := hid (by have := hl.out; simpa only [List.length_append] using this)
  clear hl
  refine (put1_w H0.out ⟨#[114, 111, 108, 101]⟩ Po.wRole rfl (by have := hL.out; first | omega | (simp only [List.length_append] at *; omega)) _ (by simp)).mono ?_
  rintro e v1 ⟨rfl, h1, q1⟩
  have B1 := hid h1
  have W1 := hid (W0.out.trans q1)
  have A1 := hid (A0.out.wrote q1 hkb (by decide))
  clear h1 q1 A0 H0 W0
  go_wp2_with (first | (refine wpList_load_at rfl 42 (.tmp 10) rfl 11 rfl w.heap.size (4) (whoArr D.role) (range_role A1.out) rfl Tryd.underlying42 rfl (by kernel_rfl) ?_))
  refine (wwho_w B1.out D.role ⟨#[97, 110, 121]⟩ Po.wAny rfl (rightW_num hrole) (by have := hL.out; first | omega | (simp only [List.length_append] at *; omega))).mono ?_
  rintro e v2 ⟨rfl, h2, q2⟩
  have B2 := hid h2
  have W2 := hid (W1.out.trans q2)
  have A2 := hid (A1.out.wrote q2 hkb (by decide))
  clear h2 q2 A1 B1 W1
  go_wp2_with fail
  refine (put1_w B2.out ⟨#[116, 105, 101, 114]⟩ Po.wTier rfl (by have := hL.out; first | omega | (simp only [List.length_append] at *; omega)) _ (by simp)).mono ?_
  rintro e v3 ⟨rfl, h3, q3⟩
  have B3 := hid h3
  have W3 := hid (W2.out.trans q3)
  have A3 := hid (A2.out.wrote q3 hkb (by decide))
  clear h3 q3 A2 B2 W2
  have c9 := A3.out.cell 9 (v := .int .i64 D.lo) rfl
  have c10 := A3.out.cell 10 (v := .int .i64 D.hi) rfl
  go_wp2_with fail
  clear c9 c10
  refine (wtiers_w B3.out D.lo D.hi hlo hhi (by have := hL.out; first | omega | (simp only [List.length_append] at *; omega))).mono ?_
  rintro e v4 ⟨rfl, h4, q4⟩
  have B4 := hid h4
  have W4 := hid (W3.out.trans q4)
  have A4 := hid (A3.out.wrote q4 hkb (by decide))
  clear h4 q4 A3 B3 W3
  go_wp2_with fail
  refine (put1_w B4.out ⟨#[108, 97, 98, 101, 108]⟩ Po.wLabel rfl (by have := hL.out; first | omega | (simp only [List.length_append] at *; omega)) _ (by simp)).mono ?_
  rintro e v5 ⟨rfl, h5, q5⟩
  have B5 := hid h5
  have W5 := hid (W4.out.trans q5)
  have A5 := hid (A4.out.wrote q5 hkb (by decide))
  clear h5 q5 A4 B4 W4
  go_wp2_with (first | (refine wpList_load_at rfl 42 (.tmp 26) rfl 27 rfl w.heap.size (11) (whoArr D.label) (range_label A5.out) rfl Tryd.underlying42 rfl (by kernel_rfl) ?_))
  refine (wwho_w B5.out D.label ⟨#[97, 110, 121]⟩ Po.wAny rfl (rightW_num hlabel) (by have := hL.out; first | omega | (simp only [List.length_append] at *; omega))).mono ?_
  rintro e v6 ⟨rfl, h6, q6⟩
  have B6 := hid h6
  have W6 := hid (W5.out.trans q6)
  have A6 := hid (A5.out.wrote q6 hkb (by decide))
  clear h6 q6 A5 B5 W5
  go_wp2_with fail
  refine (put1_w B6.out ⟨#[105, 110]⟩ Po.wIn rfl (by have := hL.out; first | omega | (simp only [List.length_append] at *; omega)) _ (by simp)).mono ?_
  rintro e v7 ⟨rfl, h7, q7⟩
  have B7 := hid h7
  have W7 := hid (W6.out.trans q7)
  have A7 := hid (A6.out.wrote q7 hkb (by decide))
  clear h7 q7 A6 B6 W6
  go_wp2_with (first | (refine wpList_load_at rfl 42 (.tmp 33) rfl 34 rfl w.heap.size (16) (whoArr D.place) (range_place A7.out) rfl Tryd.underlying42 rfl (by kernel_rfl) ?_))
  refine (wwho_w B7.out D.place ⟨#[97, 108, 108]⟩ Po.wAll rfl (rightW_num hplace) (by have := hL.out; first | omega | (simp only [List.length_append] at *; omega))).mono ?_
  rintro e v8 ⟨rfl, h8, q8⟩
  have B8 := hid h8
  have W8 := hid (W7.out.trans q8)
  have A8 := hid (A7.out.wrote q8 hkb (by decide))
  clear h8 q8 A7 B7 W7
  have c21 := A8.out.cell 21 (v := .int .i64 D.zoom) rfl
  go_wp2_with fail
  clear c21
  refine (num_any B8.out D.zoom hzoom).mono ?_
  rintro e v9 ⟨rfl, hb⟩
  have B9 := hid (B8.out.ext hb)
  have W9 := hid (W8.out.trans (Wrote.ext B8.out.le hb))
  clear hb B8 W8
  go_wp2_with fail
  refine (put2_w B9.out ⟨#[122, 111, 111, 109]⟩ ⟨(Lib.itoa D.zoom).toArray⟩ Po.wZoom (Lib.itoa D.zoom) rfl (txt_bytes _) (by have := hL.out; first | omega | (simp only [List.length_append] at *; omega)) _ rfl).mono ?_
  rintro e v10 ⟨rfl, h10, q10⟩
  have B10 := hid h10
  have W10 := hid (W9.out.trans q10)
  clear h10 q10 B9 W9
  go_wp2_with fail
  go_end0
  exact ⟨rfl, by simpa only [List.append_assoc] using B10.out, W10.out⟩

end Go.Proofs.YtnoieobjfihbeaaDoor
