/-
  The policy's writer: what stands behind a declaration's first word.
  The walks of policy.first and policy.Print.
-/
import Derived.Test.YteddkgpnklfppaaGreatDoorPk27
import Derived.Test.YteddkgpnklfppaaGreatDoorPk16
import Derived.Test.YteddkgpnklfppaaGreatDoorPk25

namespace Go.Proofs.YteddkgpnklfppaaGreatDoor
open Go.RowKit Go.Sort

theorem put_two (a c : Lx.Bytes) : Pt.put [a, c] = 32 :: a ++ 32 :: c := by unfold Pt.put; simp
theorem put_len1 (a : Lx.Bytes) : (Pt.put [a]).length = 1 + a.length := by rw [put_one, List.length_cons]; omega
theorem put_len2 (a c : Lx.Bytes) : (Pt.put [a, c]).length = 2 + a.length + c.length := by unfold Pt.put; simp; omega
theorem put_len3 (a c d : Lx.Bytes) : (Pt.put [a, c, d]).length = 3 + a.length + c.length + d.length := by unfold Pt.put; simp; omega
section
variable {B b : Nat} {l : List UInt8} {w : World}
theorem put1_w (h : WB B b l w) (s : ByteArray) (U : Lx.Bytes) (hU : s.data.toList = U) (hlen : l.length + (Pt.put [U]).length ≤ 140737488355328) (k : Nat) (hk : k = w.heap.size) :
    Calls Tryz.prog 61 #[.pointer (some ⟨b, 0, none⟩), .slice (some ⟨k, 0, none⟩) 1 1] (w.alloc (.cells #[.string s] 9)) fun e w' => e = .returned (.tuple #[]) ∧ WB B b (l ++ Pt.put [U]) w' ∧ Wrote B b w w' := by
  subst hU
  rw [put_len1, dat_size] at hlen
  exact put1_any h s hlen k hk
theorem put2_w (h : WB B b l w) (s t : ByteArray) (U V : Lx.Bytes) (hU : s.data.toList = U) (hV : t.data.toList = V) (hlen : l.length + (Pt.put [U, V]).length ≤ 140737488355328) (k : Nat) (hk : k = w.heap.size) :
    Calls Tryz.prog 61 #[.pointer (some ⟨b, 0, none⟩), .slice (some ⟨k, 0, none⟩) 2 2] (w.alloc (.cells #[.string s, .string t] 9)) fun e w' => e = .returned (.tuple #[]) ∧ WB B b (l ++ Pt.put [U, V]) w' ∧ Wrote B b w w' := by
  subst hU hV
  rw [put_len2, dat_size, dat_size] at hlen
  exact put2_any h s t hlen k hk
theorem put3_w (h : WB B b l w) (s t u : ByteArray) (U V X : Lx.Bytes) (hU : s.data.toList = U) (hV : t.data.toList = V) (hX : u.data.toList = X) (hlen : l.length + (Pt.put [U, V, X]).length ≤ 140737488355328) (k : Nat) (hk : k = w.heap.size) :
    Calls Tryz.prog 61 #[.pointer (some ⟨b, 0, none⟩), .slice (some ⟨k, 0, none⟩) 3 3] (w.alloc (.cells #[.string s, .string t, .string u] 9)) fun e w' => e = .returned (.tuple #[]) ∧ WB B b (l ++ Pt.put [U, V, X]) w' ∧ Wrote B b w w' := by
  subst hU hV hX
  rw [put_len3, dat_size, dat_size, dat_size] at hlen
  exact put3_any h s t u hlen k hk
theorem wwho_w (h : WB B b l w) (x : Po.Who) (s : ByteArray) (U : Lx.Bytes) (hU : s.data.toList = U) (hx : x.any = false → x.name.data.toList = [] → Ru.num x.n = true) (hlen : l.length + (Pt.put [Pt.whoB U x]).length ≤ 140737488355328) :
    Calls Tryz.prog 64 #[.pointer (some ⟨b, 0, none⟩), .agg (whoArr x), .string s] w fun e w' => e = .returned (.tuple #[]) ∧ WB B b (l ++ Pt.put [Pt.whoB U x]) w' ∧ Wrote B b w w' := by
  subst hU
  rw [put_len1] at hlen
  exact wwho_any h x s hx hlen
theorem wtiers_w (h : WB B b l w) (lo hi : Int) (h1 : Ru.num lo = true) (h2 : Ru.num hi = true) (hlen : l.length + (Pt.put [Pt.tiersB lo hi]).length ≤ 140737488355328) :
    Calls Tryz.prog 65 #[.pointer (some ⟨b, 0, none⟩), .int .i64 lo, .int .i64 hi] w fun e w' => e = .returned (.tuple #[]) ∧ WB B b (l ++ Pt.put [Pt.tiersB lo hi]) w' ∧ Wrote B b w w' := by
  rw [put_len1] at hlen
  exact wtiers_any h lo hi h1 h2 hlen
end
theorem rightW_num {x : Po.Who} (h : Ru.rightW x = true) : x.any = false → x.name.data.toList = [] → Ru.num x.n = true := by
  intro h1 h2
  unfold Ru.rightW at h
  rw [h1, h2] at h
  simpa using h

set_option maxRecDepth 100000 in
set_option maxHeartbeats 4000000 in
theorem wrest_1 {B b : Nat} {l : List UInt8} {w : World} (h : WB B b l w) (D : Po.Decl) (bp : Option Addr) (bc : Nat) (hk : D.kind = 1) (hn : Ru.num D.n = true) (hlen : l.length + (Pt.put [D.name.data.toList, [61], Lib.itoa D.n]).length ≤ 140737488355328) :
    Calls Tryz.prog 34 #[.pointer (some ⟨b, 0, none⟩), .agg (declCells D (.slice bp D.boxes.length bc))] w fun e w' => e = .returned (.tuple #[]) ∧ WB B b (l ++ (Pt.put [D.name.data.toList, [61], Lib.itoa D.n])) w' ∧ Wrote B b w w' := by
  have z := balloc w (.cells (declCells D (.slice bp D.boxes.length bc)) 83)
  have H0 := hid (h.ext z)
  have W0 := hid (Wrote.ext (b := b) h.le z)
  have A0 := hid (Blk.new w (declCells D (.slice bp D.boxes.length bc)) 83)
  have hkb : w.heap.size ≠ b := by have := h.lt; omega
  have hl := hid hlen
  have q1 : (D.kind == 1) = true := beq_iff_eq.2 (by omega)
  have yk : (declCells D (.slice bp D.boxes.length bc))[0]? = some (.int .i64 D.kind) := rfl
  clear z h hk hlen
  go_enter Tryz.func34, Tryz.ntmps34
  go_upto_region 13 with (fail)
  clear yk q1
  generalize w.alloc (.cells (declCells D (.slice bp D.boxes.length bc)) 83) = wa at *
  generalize w.heap.size = k at *
  have B0 := hid H0.out.drew
  have W1 := hid W0.out.drewr
  have A1 := hid (Blk.drew A0.out)
  have S0 : wa.drew.cell? ⟨k, 1, none⟩ = some (.string D.name) ∧ wa.drew.cell? ⟨k, 2, none⟩ = some (.int .i64 D.n) := ⟨A1.out.cell 1 rfl, A1.out.cell 2 rfl⟩
  clear H0 W0 A0
  go_region_held3 (fun w' => w'.cell? ⟨k, 1, none⟩ = some (.string D.name) ∧ w'.cell? ⟨k, 2, none⟩ = some (.int .i64 D.n))
    (first | with_reducible assumption | go_keep) (first
    | ((go_at_call 62
        with_reducible refine (num_any B0.out D.n hn).mono ?_
        rintro en w3 ⟨rfl, hb⟩
        have B3 := hid (B0.out.ext hb)
        have W3 := hid (W1.out.trans (Wrote.ext B0.out.le hb))
        have A3 := hid (A1.out.ext hb)
        have S3 : w3.cell? ⟨k, 1, none⟩ = some (.string D.name) ∧ w3.cell? ⟨k, 2, none⟩ = some (.int .i64 D.n) := ⟨A3.out.cell 1 rfl, A3.out.cell 2 rfl⟩
        clear hb S0 B0 W1 A1))
    | ((go_at_call 61
        with_reducible refine (put3_w B3.out D.name ⟨#[61]⟩ ⟨(Lib.itoa D.n).toArray⟩ D.name.data.toList [61] (Lib.itoa D.n) rfl rfl (txt_bytes _) hl.out _ rfl).mono ?_
        rintro en w7 ⟨rfl, h7, q7⟩
        have B7 := hid h7
        have W7 := hid (W3.out.trans q7)
        have S7 : w7.cell? ⟨k, 1, none⟩ = some (.string D.name) ∧ w7.cell? ⟨k, 2, none⟩ = some (.int .i64 D.n) := ⟨(A3.out.wrote q7 hkb (by decide)).cell 1 rfl, (A3.out.wrote q7 hkb (by decide)).cell 2 rfl⟩
        clear h7 q7 S3 B3 W3)))
  go_wp2_with fail
  go_end0
  exact ⟨rfl, B7.out, W7.out⟩

set_option maxRecDepth 100000 in
set_option maxHeartbeats 4000000 in
theorem wrest_2 {B b : Nat} {l : List UInt8} {w : World} (h : WB B b l w) (D : Po.Decl) (bp : Option Addr) (bc : Nat) (hk : D.kind = 2) (hn : Ru.num D.n = true) (hlen : l.length + (Pt.put [D.name.data.toList, [61], Lib.itoa D.n]).length ≤ 140737488355328) :
    Calls Tryz.prog 34 #[.pointer (some ⟨b, 0, none⟩), .agg (declCells D (.slice bp D.boxes.length bc))] w fun e w' => e = .returned (.tuple #[]) ∧ WB B b (l ++ (Pt.put [D.name.data.toList, [61], Lib.itoa D.n])) w' ∧ Wrote B b w w' := by
  have z := balloc w (.cells (declCells D (.slice bp D.boxes.length bc)) 83)
  have H0 := hid (h.ext z)
  have W0 := hid (Wrote.ext (b := b) h.le z)
  have A0 := hid (Blk.new w (declCells D (.slice bp D.boxes.length bc)) 83)
  have hkb : w.heap.size ≠ b := by have := h.lt; omega
  have hl := hid hlen
  have q1 : (D.kind == 1) = false := beq_eq_false_iff_ne.2 (by omega)
  have q2 : (D.kind == 2) = true := beq_iff_eq.2 (by omega)
  have yk : (declCells D (.slice bp D.boxes.length bc))[0]? = some (.int .i64 D.kind) := rfl
  clear z h hk hlen
  go_enter Tryz.func34, Tryz.ntmps34
  go_upto_region 13 with (fail)
  clear yk q1 q2
  generalize w.alloc (.cells (declCells D (.slice bp D.boxes.length bc)) 83) = wa at *
  generalize w.heap.size = k at *
  have B0 := hid H0.out.drew
  have W1 := hid W0.out.drewr
  have A1 := hid (Blk.drew A0.out)
  have S0 : wa.drew.cell? ⟨k, 1, none⟩ = some (.string D.name) ∧ wa.drew.cell? ⟨k, 2, none⟩ = some (.int .i64 D.n) := ⟨A1.out.cell 1 rfl, A1.out.cell 2 rfl⟩
  clear H0 W0 A0
  go_region_held3 (fun w' => w'.cell? ⟨k, 1, none⟩ = some (.string D.name) ∧ w'.cell? ⟨k, 2, none⟩ = some (.int .i64 D.n))
    (first | with_reducible assumption | go_keep) (first
    | ((go_at_call 62
        with_reducible refine (num_any B0.out D.n hn).mono ?_
        rintro en w3 ⟨rfl, hb⟩
        have B3 := hid (B0.out.ext hb)
        have W3 := hid (W1.out.trans (Wrote.ext B0.out.le hb))
        have A3 := hid (A1.out.ext hb)
        have S3 : w3.cell? ⟨k, 1, none⟩ = some (.string D.name) ∧ w3.cell? ⟨k, 2, none⟩ = some (.int .i64 D.n) := ⟨A3.out.cell 1 rfl, A3.out.cell 2 rfl⟩
        clear hb S0 B0 W1 A1))
    | ((go_at_call 61
        with_reducible refine (put3_w B3.out D.name ⟨#[61]⟩ ⟨(Lib.itoa D.n).toArray⟩ D.name.data.toList [61] (Lib.itoa D.n) rfl rfl (txt_bytes _) hl.out _ rfl).mono ?_
        rintro en w7 ⟨rfl, h7, q7⟩
        have B7 := hid h7
        have W7 := hid (W3.out.trans q7)
        have S7 : w7.cell? ⟨k, 1, none⟩ = some (.string D.name) ∧ w7.cell? ⟨k, 2, none⟩ = some (.int .i64 D.n) := ⟨(A3.out.wrote q7 hkb (by decide)).cell 1 rfl, (A3.out.wrote q7 hkb (by decide)).cell 2 rfl⟩
        clear h7 q7 S3 B3 W3)))
  go_wp2_with fail
  go_end0
  exact ⟨rfl, B7.out, W7.out⟩

set_option maxRecDepth 100000 in
set_option maxHeartbeats 4000000 in
theorem wrest_3 {B b : Nat} {l : List UInt8} {w : World} (h : WB B b l w) (D : Po.Decl) (bp : Option Addr) (bc : Nat) (hk : D.kind = 3) (hr : ∀ w', Below B w w' → BRow w' (.slice bp D.boxes.length bc) D.boxes) (hb : ∀ x ∈ D.boxes, Ru.boxN x = true) (hn : D.boxes.length ≤ 140737488355328) (hlen : l.length + (Pt.put [D.name.data.toList, [61]] ++ Pt.boxesB D.boxes).length ≤ 140737488355328) :
    Calls Tryz.prog 34 #[.pointer (some ⟨b, 0, none⟩), .agg (declCells D (.slice bp D.boxes.length bc))] w fun e w' => e = .returned (.tuple #[]) ∧ WB B b (l ++ (Pt.put [D.name.data.toList, [61]] ++ Pt.boxesB D.boxes)) w' ∧ Wrote B b w w' := by
  have z := balloc w (.cells (declCells D (.slice bp D.boxes.length bc)) 83)
  have H0 := hid (h.ext z)
  have W0 := hid (Wrote.ext (b := b) h.le z)
  have A0 := hid (Blk.new w (declCells D (.slice bp D.boxes.length bc)) 83)
  have hkb : w.heap.size ≠ b := by have := h.lt; omega
  have hl := hid hlen
  have q1 : (D.kind == 1) = false := beq_eq_false_iff_ne.2 (by omega)
  have q2 : (D.kind == 2) = false := beq_eq_false_iff_ne.2 (by omega)
  have q3 : (D.kind == 3) = true := beq_iff_eq.2 (by omega)
  have yk : (declCells D (.slice bp D.boxes.length bc))[0]? = some (.int .i64 D.kind) := rfl
  clear z h hk hlen
  go_enter Tryz.func34, Tryz.ntmps34
  have y1 : (declCells D (.slice bp D.boxes.length bc))[1]? = some (.string D.name) := rfl
  go_wp2_with fail
  clear yk y1 q1 q2 q3
  refine (put2_w H0.out D.name ⟨#[61]⟩ D.name.data.toList [61] rfl rfl (by have := hl.out; rw [List.length_append] at this; omega) _ (by simp)).mono ?_
  rintro e v1 ⟨rfl, h1, q1⟩
  have B1 := hid h1
  have W1 := hid (W0.out.trans q1)
  have A1 := hid (A0.out.wrote q1 hkb (by decide))
  have R1 := hid (fun w' (hw : Below B v1 w') => hr w' (W1.out.bel.trans hw))
  clear h1 q1 A0 H0 W0
  have c3 := A1.out.cell 3 (v := .slice bp D.boxes.length bc) rfl
  go_wp2_with fail
  clear c3
  refine (wboxes_any B1.out R1.out hb (by have := hl.out; rw [List.length_append] at this; rw [List.length_append]; exact (by omega)) hn).mono ?_
  rintro e v2 ⟨rfl, h2, q2⟩
  have B2 := hid h2
  have W2 := hid (W1.out.trans q2)
  clear h2 q2
  go_wp2_with fail
  go_end0
  exact ⟨rfl, by rw [← List.append_assoc]; exact B2.out, W2.out⟩

set_option maxRecDepth 100000 in
set_option maxHeartbeats 4000000 in
theorem wrest_6 {B b : Nat} {l : List UInt8} {w : World} (h : WB B b l w) (D : Po.Decl) (bp : Option Addr) (bc : Nat) (hk : D.kind = 6) (hrole : Ru.rightW D.role = true) (hlen : l.length + (Pt.put [Po.wRole] ++ Pt.put [Pt.whoB Po.wAny D.role]).length ≤ 140737488355328) :
    Calls Tryz.prog 34 #[.pointer (some ⟨b, 0, none⟩), .agg (declCells D (.slice bp D.boxes.length bc))] w fun e w' => e = .returned (.tuple #[]) ∧ WB B b (l ++ (Pt.put [Po.wRole] ++ Pt.put [Pt.whoB Po.wAny D.role])) w' ∧ Wrote B b w w' := by
  have z := balloc w (.cells (declCells D (.slice bp D.boxes.length bc)) 83)
  have H0 := hid (h.ext z)
  have W0 := hid (Wrote.ext (b := b) h.le z)
  have A0 := hid (Blk.new w (declCells D (.slice bp D.boxes.length bc)) 83)
  have hkb : w.heap.size ≠ b := by have := h.lt; omega
  have hl := hid hlen
  have q1 : (D.kind == 1) = false := beq_eq_false_iff_ne.2 (by omega)
  have q2 : (D.kind == 2) = false := beq_eq_false_iff_ne.2 (by omega)
  have q3 : (D.kind == 3) = false := beq_eq_false_iff_ne.2 (by omega)
  have q6 : (D.kind == 6) = true := beq_iff_eq.2 (by omega)
  have yk : (declCells D (.slice bp D.boxes.length bc))[0]? = some (.int .i64 D.kind) := rfl
  clear z h hk hlen
  go_enter Tryz.func34, Tryz.ntmps34
  go_wp2_with fail
  clear yk q1 q2 q3 q6
  refine (put1_w H0.out ⟨#[114, 111, 108, 101]⟩ Po.wRole rfl (by have := hl.out; rw [List.length_append] at this; omega) _ (by simp)).mono ?_
  rintro e v1 ⟨rfl, h1, q1⟩
  have B1 := hid h1
  have W1 := hid (W0.out.trans q1)
  have A1 := hid (A0.out.wrote q1 hkb (by decide))
  clear h1 q1 A0 H0 W0
  go_wp2_with (first | (refine wpList_load_at rfl 81 (.tmp 70) rfl 71 rfl w.heap.size (4) (whoArr D.role) (range_role A1.out) rfl Tryz.underlying81 rfl (by kernel_rfl) ?_))
  refine (wwho_w B1.out D.role ⟨#[97, 110, 121]⟩ Po.wAny rfl (rightW_num hrole) (by have := hl.out; rw [List.length_append] at this; rw [List.length_append]; omega)).mono ?_
  rintro e v2 ⟨rfl, h2, q2⟩
  have B2 := hid h2
  have W2 := hid (W1.out.trans q2)
  clear h2 q2
  go_wp2_with fail
  go_end0
  exact ⟨rfl, by rw [← List.append_assoc]; exact B2.out, W2.out⟩

set_option maxRecDepth 100000 in
set_option maxHeartbeats 4000000 in
theorem wrest_4 {B b : Nat} {l : List UInt8} {w : World} (h : WB B b l w) (D : Po.Decl) (bp : Option Addr) (bc : Nat) (hk : D.kind = 4) (hrole : Ru.rightW D.role = true) (hlo : Ru.num D.lo = true) (hhi : Ru.num D.hi = true) (hlabel : Ru.rightW D.label = true) (hplace : Ru.rightW D.place = true) (hzoom : Ru.num D.zoom = true) (hlen : l.length + (Pt.put [Po.wRole] ++ (Pt.put [Pt.whoB Po.wAny D.role] ++ (Pt.put [Po.wTier] ++ (Pt.put [Pt.tiersB D.lo D.hi] ++ (Pt.put [Po.wLabel] ++ (Pt.put [Pt.whoB Po.wAny D.label] ++ (Pt.put [Po.wIn] ++ (Pt.put [Pt.whoB Po.wAll D.place] ++ (Pt.put [Po.wZoom, Lib.itoa D.zoom]))))))))).length ≤ 140737488355328) :
    Calls Tryz.prog 34 #[.pointer (some ⟨b, 0, none⟩), .agg (declCells D (.slice bp D.boxes.length bc))] w fun e w' => e = .returned (.tuple #[]) ∧ WB B b (l ++ (Pt.put [Po.wRole] ++ (Pt.put [Pt.whoB Po.wAny D.role] ++ (Pt.put [Po.wTier] ++ (Pt.put [Pt.tiersB D.lo D.hi] ++ (Pt.put [Po.wLabel] ++ (Pt.put [Pt.whoB Po.wAny D.label] ++ (Pt.put [Po.wIn] ++ (Pt.put [Pt.whoB Po.wAll D.place] ++ (Pt.put [Po.wZoom, Lib.itoa D.zoom])))))))))) w' ∧ Wrote B b w w' := by
  have z := balloc w (.cells (declCells D (.slice bp D.boxes.length bc)) 83)
  have H0 := hid (h.ext z)
  have W0 := hid (Wrote.ext (b := b) h.le z)
  have A0 := hid (Blk.new w (declCells D (.slice bp D.boxes.length bc)) 83)
  have hkb : w.heap.size ≠ b := by have := h.lt; omega
  have hl := hid hlen
  have q1 : (D.kind == 1) = false := beq_eq_false_iff_ne.2 (by omega)
  have q2 : (D.kind == 2) = false := beq_eq_false_iff_ne.2 (by omega)
  have q3 : (D.kind == 3) = false := beq_eq_false_iff_ne.2 (by omega)
  have q6 : (D.kind == 6) = false := beq_eq_false_iff_ne.2 (by omega)
  have yk : (declCells D (.slice bp D.boxes.length bc))[0]? = some (.int .i64 D.kind) := rfl
  clear z h hk hlen
  go_enter Tryz.func34, Tryz.ntmps34
  go_wp2_with fail
  clear yk q1 q2 q3 q6
  have hL : Hid (l.length + ((Pt.put [Po.wRole]).length + ((Pt.put [Pt.whoB Po.wAny D.role]).length + ((Pt.put [Po.wTier]).length + ((Pt.put [Pt.tiersB D.lo D.hi]).length + ((Pt.put [Po.wLabel]).length + ((Pt.put [Pt.whoB Po.wAny D.label]).length + ((Pt.put [Po.wIn]).length + ((Pt.put [Pt.whoB Po.wAll D.place]).length + (Pt.put [Po.wZoom, Lib.itoa D.zoom]).length)))))))) ≤ 140737488355328) := hid (by have := hl.out; simpa only [List.length_append] using this)
  clear hl
  refine (put1_w H0.out ⟨#[114, 111, 108, 101]⟩ Po.wRole rfl (by have := hL.out; first | omega | (simp only [List.length_append] at *; omega)) _ (by simp)).mono ?_
  rintro e v1 ⟨rfl, h1, q1⟩
  have B1 := hid h1
  have W1 := hid (W0.out.trans q1)
  have A1 := hid (A0.out.wrote q1 hkb (by decide))
  clear h1 q1 A0 H0 W0
  go_wp2_with (first | (refine wpList_load_at rfl 81 (.tmp 10) rfl 11 rfl w.heap.size (4) (whoArr D.role) (range_role A1.out) rfl Tryz.underlying81 rfl (by kernel_rfl) ?_))
  refine (wwho_w B1.out D.role ⟨#[97, 110, 121]⟩ Po.wAny rfl (rightW_num hrole) (by have := hL.out; first | omega | (simp only [List.length_append] at *; omega))).mono ?_
  rintro e v2 ⟨rfl, h2, q2⟩
  have B2 := hid h2
  have W2 := hid (W1.out.trans q2)
  have A2 := hid (A1.out.wrote q2 hkb (by decide))
  clear h2 q2 A1 B1 W1
  go_wp2_with fail
  refine (put1_w B2.out ⟨#[116, 105, 101, 114]⟩ Po.wTier rfl (by have := hL.out; first | omega | (simp only [List.length_append] at *; omega)) _ (by simp)).mono ?_
  rintro e v3 ⟨rfl, h3, q3⟩
  have B3 := hid h3
  have W3 := hid (W2.out.trans q3)
  have A3 := hid (A2.out.wrote q3 hkb (by decide))
  clear h3 q3 A2 B2 W2
  have c9 := A3.out.cell 9 (v := .int .i64 D.lo) rfl
  have c10 := A3.out.cell 10 (v := .int .i64 D.hi) rfl
  go_wp2_with fail
  clear c9 c10
  refine (wtiers_w B3.out D.lo D.hi hlo hhi (by have := hL.out; first | omega | (simp only [List.length_append] at *; omega))).mono ?_
  rintro e v4 ⟨rfl, h4, q4⟩
  have B4 := hid h4
  have W4 := hid (W3.out.trans q4)
  have A4 := hid (A3.out.wrote q4 hkb (by decide))
  clear h4 q4 A3 B3 W3
  go_wp2_with fail
  refine (put1_w B4.out ⟨#[108, 97, 98, 101, 108]⟩ Po.wLabel rfl (by have := hL.out; first | omega | (simp only [List.length_append] at *; omega)) _ (by simp)).mono ?_
  rintro e v5 ⟨rfl, h5, q5⟩
  have B5 := hid h5
  have W5 := hid (W4.out.trans q5)
  have A5 := hid (A4.out.wrote q5 hkb (by decide))
  clear h5 q5 A4 B4 W4
  go_wp2_with (first | (refine wpList_load_at rfl 81 (.tmp 26) rfl 27 rfl w.heap.size (11) (whoArr D.label) (range_label A5.out) rfl Tryz.underlying81 rfl (by kernel_rfl) ?_))
  refine (wwho_w B5.out D.label ⟨#[97, 110, 121]⟩ Po.wAny rfl (rightW_num hlabel) (by have := hL.out; first | omega | (simp only [List.length_append] at *; omega))).mono ?_
  rintro e v6 ⟨rfl, h6, q6⟩
  have B6 := hid h6
  have W6 := hid (W5.out.trans q6)
  have A6 := hid (A5.out.wrote q6 hkb (by decide))
  clear h6 q6 A5 B5 W5
  go_wp2_with fail
  refine (put1_w B6.out ⟨#[105, 110]⟩ Po.wIn rfl (by have := hL.out; first | omega | (simp only [List.length_append] at *; omega)) _ (by simp)).mono ?_
  rintro e v7 ⟨rfl, h7, q7⟩
  have B7 := hid h7
  have W7 := hid (W6.out.trans q7)
  have A7 := hid (A6.out.wrote q7 hkb (by decide))
  clear h7 q7 A6 B6 W6
  go_wp2_with (first | (refine wpList_load_at rfl 81 (.tmp 33) rfl 34 rfl w.heap.size (16) (whoArr D.place) (range_place A7.out) rfl Tryz.underlying81 rfl (by kernel_rfl) ?_))
  refine (wwho_w B7.out D.place ⟨#[97, 108, 108]⟩ Po.wAll rfl (rightW_num hplace) (by have := hL.out; first | omega | (simp only [List.length_append] at *; omega))).mono ?_
  rintro e v8 ⟨rfl, h8, q8⟩
  have B8 := hid h8
  have W8 := hid (W7.out.trans q8)
  have A8 := hid (A7.out.wrote q8 hkb (by decide))
  clear h8 q8 A7 B7 W7
  have c21 := A8.out.cell 21 (v := .int .i64 D.zoom) rfl
  go_wp2_with fail
  clear c21
  refine (num_any B8.out D.zoom hzoom).mono ?_
  rintro e v9 ⟨rfl, hb⟩
  have B9 := hid (B8.out.ext hb)
  have W9 := hid (W8.out.trans (Wrote.ext B8.out.le hb))
  clear hb B8 W8
  go_wp2_with fail
  refine (put2_w B9.out ⟨#[122, 111, 111, 109]⟩ ⟨(Lib.itoa D.zoom).toArray⟩ Po.wZoom (Lib.itoa D.zoom) rfl (txt_bytes _) (by have := hL.out; first | omega | (simp only [List.length_append] at *; omega)) _ rfl).mono ?_
  rintro e v10 ⟨rfl, h10, q10⟩
  have B10 := hid h10
  have W10 := hid (W9.out.trans q10)
  clear h10 q10 B9 W9
  go_wp2_with fail
  go_end0
  exact ⟨rfl, by simpa only [List.append_assoc] using B10.out, W10.out⟩

set_option maxRecDepth 100000 in
set_option maxHeartbeats 4000000 in
theorem wrest_5 {B b : Nat} {l : List UInt8} {w : World} (h : WB B b l w) (D : Po.Decl) (bp : Option Addr) (bc : Nat) (hk : D.kind = 5) (hrole : Ru.rightW D.role = true) (hlo : Ru.num D.lo = true) (hhi : Ru.num D.hi = true) (hlabel : Ru.rightW D.label = true) (hplace : Ru.rightW D.place = true) (hzoom : Ru.num D.zoom = true) (hlen : l.length + (Pt.put [Po.wRole] ++ (Pt.put [Pt.whoB Po.wAny D.role] ++ (Pt.put [Po.wTier] ++ (Pt.put [Pt.tiersB D.lo D.hi] ++ (Pt.put [Po.wLabel] ++ (Pt.put [Pt.whoB Po.wAny D.label] ++ (Pt.put [Po.wIn] ++ (Pt.put [Pt.whoB Po.wAll D.place] ++ (Pt.put [Po.wZoom, Lib.itoa D.zoom]))))))))).length ≤ 140737488355328) :
    Calls Tryz.prog 34 #[.pointer (some ⟨b, 0, none⟩), .agg (declCells D (.slice bp D.boxes.length bc))] w fun e w' => e = .returned (.tuple #[]) ∧ WB B b (l ++ (Pt.put [Po.wRole] ++ (Pt.put [Pt.whoB Po.wAny D.role] ++ (Pt.put [Po.wTier] ++ (Pt.put [Pt.tiersB D.lo D.hi] ++ (Pt.put [Po.wLabel] ++ (Pt.put [Pt.whoB Po.wAny D.label] ++ (Pt.put [Po.wIn] ++ (Pt.put [Pt.whoB Po.wAll D.place] ++ (Pt.put [Po.wZoom, Lib.itoa D.zoom])))))))))) w' ∧ Wrote B b w w' := by
  have z := balloc w (.cells (declCells D (.slice bp D.boxes.length bc)) 83)
  have H0 := hid (h.ext z)
  have W0 := hid (Wrote.ext (b := b) h.le z)
  have A0 := hid (Blk.new w (declCells D (.slice bp D.boxes.length bc)) 83)
  have hkb : w.heap.size ≠ b := by have := h.lt; omega
  have hl := hid hlen
  have q1 : (D.kind == 1) = false := beq_eq_false_iff_ne.2 (by omega)
  have q2 : (D.kind == 2) = false := beq_eq_false_iff_ne.2 (by omega)
  have q3 : (D.kind == 3) = false := beq_eq_false_iff_ne.2 (by omega)
  have q6 : (D.kind == 6) = false := beq_eq_false_iff_ne.2 (by omega)
  have yk : (declCells D (.slice bp D.boxes.length bc))[0]? = some (.int .i64 D.kind) := rfl
  clear z h hk hlen
  go_enter Tryz.func34, Tryz.ntmps34
  go_wp2_with fail
  clear yk q1 q2 q3 q6
  have hL : Hid (l.length + ((Pt.put [Po.wRole]).length + ((Pt.put [Pt.whoB Po.wAny D.role]).length + ((Pt.put [Po.wTier]).length + ((Pt.put [Pt.tiersB D.lo D.hi]).length + ((Pt.put [Po.wLabel]).length + ((Pt.put [Pt.whoB Po.wAny D.label]).length + ((Pt.put [Po.wIn]).length + ((Pt.put [Pt.whoB Po.wAll D.place]).length + (Pt.put [Po.wZoom, Lib.itoa D.zoom]).length)))))))) ≤ 140737488355328) := hid (by have := hl.out; simpa only [List.length_append] using this)
  clear hl
  refine (put1_w H0.out ⟨#[114, 111, 108, 101]⟩ Po.wRole rfl (by have := hL.out; first | omega | (simp only [List.length_append] at *; omega)) _ (by simp)).mono ?_
  rintro e v1 ⟨rfl, h1, q1⟩
  have B1 := hid h1
  have W1 := hid (W0.out.trans q1)
  have A1 := hid (A0.out.wrote q1 hkb (by decide))
  clear h1 q1 A0 H0 W0
  go_wp2_with (first | (refine wpList_load_at rfl 81 (.tmp 10) rfl 11 rfl w.heap.size (4) (whoArr D.role) (range_role A1.out) rfl Tryz.underlying81 rfl (by kernel_rfl) ?_))
  refine (wwho_w B1.out D.role ⟨#[97, 110, 121]⟩ Po.wAny rfl (rightW_num hrole) (by have := hL.out; first | omega | (simp only [List.length_append] at *; omega))).mono ?_
  rintro e v2 ⟨rfl, h2, q2⟩
  have B2 := hid h2
  have W2 := hid (W1.out.trans q2)
  have A2 := hid (A1.out.wrote q2 hkb (by decide))
  clear h2 q2 A1 B1 W1
  go_wp2_with fail
  refine (put1_w B2.out ⟨#[116, 105, 101, 114]⟩ Po.wTier rfl (by have := hL.out; first | omega | (simp only [List.length_append] at *; omega)) _ (by simp)).mono ?_
  rintro e v3 ⟨rfl, h3, q3⟩
  have B3 := hid h3
  have W3 := hid (W2.out.trans q3)
  have A3 := hid (A2.out.wrote q3 hkb (by decide))
  clear h3 q3 A2 B2 W2
  have c9 := A3.out.cell 9 (v := .int .i64 D.lo) rfl
  have c10 := A3.out.cell 10 (v := .int .i64 D.hi) rfl
  go_wp2_with fail
  clear c9 c10
  refine (wtiers_w B3.out D.lo D.hi hlo hhi (by have := hL.out; first | omega | (simp only [List.length_append] at *; omega))).mono ?_
  rintro e v4 ⟨rfl, h4, q4⟩
  have B4 := hid h4
  have W4 := hid (W3.out.trans q4)
  have A4 := hid (A3.out.wrote q4 hkb (by decide))
  clear h4 q4 A3 B3 W3
  go_wp2_with fail
  refine (put1_w B4.out ⟨#[108, 97, 98, 101, 108]⟩ Po.wLabel rfl (by have := hL.out; first | omega | (simp only [List.length_append] at *; omega)) _ (by simp)).mono ?_
  rintro e v5 ⟨rfl, h5, q5⟩
  have B5 := hid h5
  have W5 := hid (W4.out.trans q5)
  have A5 := hid (A4.out.wrote q5 hkb (by decide))
  clear h5 q5 A4 B4 W4
  go_wp2_with (first | (refine wpList_load_at rfl 81 (.tmp 26) rfl 27 rfl w.heap.size (11) (whoArr D.label) (range_label A5.out) rfl Tryz.underlying81 rfl (by kernel_rfl) ?_))
  refine (wwho_w B5.out D.label ⟨#[97, 110, 121]⟩ Po.wAny rfl (rightW_num hlabel) (by have := hL.out; first | omega | (simp only [List.length_append] at *; omega))).mono ?_
  rintro e v6 ⟨rfl, h6, q6⟩
  have B6 := hid h6
  have W6 := hid (W5.out.trans q6)
  have A6 := hid (A5.out.wrote q6 hkb (by decide))
  clear h6 q6 A5 B5 W5
  go_wp2_with fail
  refine (put1_w B6.out ⟨#[105, 110]⟩ Po.wIn rfl (by have := hL.out; first | omega | (simp only [List.length_append] at *; omega)) _ (by simp)).mono ?_
  rintro e v7 ⟨rfl, h7, q7⟩
  have B7 := hid h7
  have W7 := hid (W6.out.trans q7)
  have A7 := hid (A6.out.wrote q7 hkb (by decide))
  clear h7 q7 A6 B6 W6
  go_wp2_with (first | (refine wpList_load_at rfl 81 (.tmp 33) rfl 34 rfl w.heap.size (16) (whoArr D.place) (range_place A7.out) rfl Tryz.underlying81 rfl (by kernel_rfl) ?_))
  refine (wwho_w B7.out D.place ⟨#[97, 108, 108]⟩ Po.wAll rfl (rightW_num hplace) (by have := hL.out; first | omega | (simp only [List.length_append] at *; omega))).mono ?_
  rintro e v8 ⟨rfl, h8, q8⟩
  have B8 := hid h8
  have W8 := hid (W7.out.trans q8)
  have A8 := hid (A7.out.wrote q8 hkb (by decide))
  clear h8 q8 A7 B7 W7
  have c21 := A8.out.cell 21 (v := .int .i64 D.zoom) rfl
  go_wp2_with fail
  clear c21
  refine (num_any B8.out D.zoom hzoom).mono ?_
  rintro e v9 ⟨rfl, hb⟩
  have B9 := hid (B8.out.ext hb)
  have W9 := hid (W8.out.trans (Wrote.ext B8.out.le hb))
  clear hb B8 W8
  go_wp2_with fail
  refine (put2_w B9.out ⟨#[122, 111, 111, 109]⟩ ⟨(Lib.itoa D.zoom).toArray⟩ Po.wZoom (Lib.itoa D.zoom) rfl (txt_bytes _) (by have := hL.out; first | omega | (simp only [List.length_append] at *; omega)) _ rfl).mono ?_
  rintro e v10 ⟨rfl, h10, q10⟩
  have B10 := hid h10
  have W10 := hid (W9.out.trans q10)
  clear h10 q10 B9 W9
  go_wp2_with fail
  go_end0
  exact ⟨rfl, by simpa only [List.append_assoc] using B10.out, W10.out⟩

end Go.Proofs.YteddkgpnklfppaaGreatDoor

namespace Go.Proofs.YteddkgpnklfppaaGreatDoor
open Go.RowKit Go.Sort

set_option maxRecDepth 100000 in
theorem first_1 (w : World) : Calls Tryz.prog 33 #[.int .i64 1] w fun e w' => e = .returned (.string ⟨(Pt.firstB 1).toArray⟩) ∧ w = w' := by
  have hix : ∀ w, Sem.run Tryz.prog (Instr.index 134 (.agg #[.string ⟨#[]⟩, .string ⟨#[114, 111, 108, 101]⟩, .string ⟨#[108, 97, 98, 101, 108]⟩, .string ⟨#[114, 101, 103, 105, 111, 110]⟩, .string ⟨#[97, 108, 108, 111, 119]⟩, .string ⟨#[99, 97, 112]⟩, .string ⟨#[99, 108, 111, 97, 107]⟩]) (.int .i64 1)) w = .ok (.string ⟨(Pt.firstB 1).toArray⟩) w := fun w => by kernel_rfl
  go_enter Tryz.func33, Tryz.ntmps33
  go_wp2
  go_ret
  exact ⟨rfl, rfl⟩
set_option maxRecDepth 100000 in
theorem first_2 (w : World) : Calls Tryz.prog 33 #[.int .i64 2] w fun e w' => e = .returned (.string ⟨(Pt.firstB 2).toArray⟩) ∧ w = w' := by
  have hix : ∀ w, Sem.run Tryz.prog (Instr.index 134 (.agg #[.string ⟨#[]⟩, .string ⟨#[114, 111, 108, 101]⟩, .string ⟨#[108, 97, 98, 101, 108]⟩, .string ⟨#[114, 101, 103, 105, 111, 110]⟩, .string ⟨#[97, 108, 108, 111, 119]⟩, .string ⟨#[99, 97, 112]⟩, .string ⟨#[99, 108, 111, 97, 107]⟩]) (.int .i64 2)) w = .ok (.string ⟨(Pt.firstB 2).toArray⟩) w := fun w => by kernel_rfl
  go_enter Tryz.func33, Tryz.ntmps33
  go_wp2
  go_ret
  exact ⟨rfl, rfl⟩
set_option maxRecDepth 100000 in
theorem first_3 (w : World) : Calls Tryz.prog 33 #[.int .i64 3] w fun e w' => e = .returned (.string ⟨(Pt.firstB 3).toArray⟩) ∧ w = w' := by
  have hix : ∀ w, Sem.run Tryz.prog (Instr.index 134 (.agg #[.string ⟨#[]⟩, .string ⟨#[114, 111, 108, 101]⟩, .string ⟨#[108, 97, 98, 101, 108]⟩, .string ⟨#[114, 101, 103, 105, 111, 110]⟩, .string ⟨#[97, 108, 108, 111, 119]⟩, .string ⟨#[99, 97, 112]⟩, .string ⟨#[99, 108, 111, 97, 107]⟩]) (.int .i64 3)) w = .ok (.string ⟨(Pt.firstB 3).toArray⟩) w := fun w => by kernel_rfl
  go_enter Tryz.func33, Tryz.ntmps33
  go_wp2
  go_ret
  exact ⟨rfl, rfl⟩
set_option maxRecDepth 100000 in
theorem first_4 (w : World) : Calls Tryz.prog 33 #[.int .i64 4] w fun e w' => e = .returned (.string ⟨(Pt.firstB 4).toArray⟩) ∧ w = w' := by
  have hix : ∀ w, Sem.run Tryz.prog (Instr.index 134 (.agg #[.string ⟨#[]⟩, .string ⟨#[114, 111, 108, 101]⟩, .string ⟨#[108, 97, 98, 101, 108]⟩, .string ⟨#[114, 101, 103, 105, 111, 110]⟩, .string ⟨#[97, 108, 108, 111, 119]⟩, .string ⟨#[99, 97, 112]⟩, .string ⟨#[99, 108, 111, 97, 107]⟩]) (.int .i64 4)) w = .ok (.string ⟨(Pt.firstB 4).toArray⟩) w := fun w => by kernel_rfl
  go_enter Tryz.func33, Tryz.ntmps33
  go_wp2
  go_ret
  exact ⟨rfl, rfl⟩
set_option maxRecDepth 100000 in
theorem first_5 (w : World) : Calls Tryz.prog 33 #[.int .i64 5] w fun e w' => e = .returned (.string ⟨(Pt.firstB 5).toArray⟩) ∧ w = w' := by
  have hix : ∀ w, Sem.run Tryz.prog (Instr.index 134 (.agg #[.string ⟨#[]⟩, .string ⟨#[114, 111, 108, 101]⟩, .string ⟨#[108, 97, 98, 101, 108]⟩, .string ⟨#[114, 101, 103, 105, 111, 110]⟩, .string ⟨#[97, 108, 108, 111, 119]⟩, .string ⟨#[99, 97, 112]⟩, .string ⟨#[99, 108, 111, 97, 107]⟩]) (.int .i64 5)) w = .ok (.string ⟨(Pt.firstB 5).toArray⟩) w := fun w => by kernel_rfl
  go_enter Tryz.func33, Tryz.ntmps33
  go_wp2
  go_ret
  exact ⟨rfl, rfl⟩
set_option maxRecDepth 100000 in
theorem first_6 (w : World) : Calls Tryz.prog 33 #[.int .i64 6] w fun e w' => e = .returned (.string ⟨(Pt.firstB 6).toArray⟩) ∧ w = w' := by
  have hix : ∀ w, Sem.run Tryz.prog (Instr.index 134 (.agg #[.string ⟨#[]⟩, .string ⟨#[114, 111, 108, 101]⟩, .string ⟨#[108, 97, 98, 101, 108]⟩, .string ⟨#[114, 101, 103, 105, 111, 110]⟩, .string ⟨#[97, 108, 108, 111, 119]⟩, .string ⟨#[99, 97, 112]⟩, .string ⟨#[99, 108, 111, 97, 107]⟩]) (.int .i64 6)) w = .ok (.string ⟨(Pt.firstB 6).toArray⟩) w := fun w => by kernel_rfl
  go_enter Tryz.func33, Tryz.ntmps33
  go_wp2
  go_ret
  exact ⟨rfl, rfl⟩
set_option maxRecDepth 100000 in
theorem first_any (k : Int) (h1 : 1 ≤ k) (h6 : k ≤ 6) (w : World) :
    Calls Tryz.prog 33 #[.int .i64 k] w fun e w' => e = .returned (.string ⟨(Pt.firstB k).toArray⟩) ∧ w = w' := by
  have hk : k = 1 ∨ k = 2 ∨ k = 3 ∨ k = 4 ∨ k = 5 ∨ k = 6 := by omega
  rcases hk with rfl | rfl | rfl | rfl | rfl | rfl
  · exact first_1 w
  · exact first_2 w
  · exact first_3 w
  · exact first_4 w
  · exact first_5 w
  · exact first_6 w

/-- what a declaration writes behind its first word, whatever its kind -/
theorem wrest_any {B b : Nat} {l : List UInt8} {w : World} (h : WB B b l w) (D : Po.Decl) (v : Value) (hm : Ru.may D = true) (hr : ∀ w', Below B w w' → BRow w' v D.boxes) (hn : D.boxes.length ≤ 140737488355328) (hlen : l.length + (Pt.restB D).length ≤ 140737488355328) :
    Calls Tryz.prog 34 #[.pointer (some ⟨b, 0, none⟩), .agg (declCells D v)] w fun e w' => e = .returned (.tuple #[]) ∧ WB B b (l ++ Pt.restB D) w' ∧ Wrote B b w w' := by
  obtain ⟨bp, bc, rfl⟩ := (hr w (Below.refl _ _)).shape
  unfold Pt.restB at *
  cases Pt.may_cases hm with
  | named hk h1 h2 h3 h4 h5 =>
    rw [if_pos hk] at hlen ⊢
    rcases hk with hk | hk
    · exact wrest_1 h D bp bc hk h2 hlen
    · exact wrest_2 h D bp bc hk h2 hlen
  | region hk h1 h2 hb h3 h4 h5 =>
    rw [if_neg (by omega), if_pos hk] at hlen ⊢
    exact wrest_3 h D bp bc hk hr hb hn hlen
  | rule hk h1 h2 h3 hrole hlo hhi hz hl hp =>
    rw [if_neg (by omega), if_neg (by omega), if_neg (by omega)] at hlen ⊢
    rcases hk with hk | hk
    · exact wrest_4 h D bp bc hk hrole hlo hhi hl (Pt.place_right hp) hz hlen
    · exact wrest_5 h D bp bc hk hrole hlo hhi hl (Pt.place_right hp) hz hlen
  | cloak hk h1 h2 h3 hrole h4 =>
    rw [if_neg (by omega), if_neg (by omega), if_pos hk] at hlen ⊢
    exact wrest_6 h D bp bc hk hrole hlen

theorem lines_take {l : List Po.Decl} {i : Nat} (h : i < l.length) : (l.take (i + 1)).flatMap Pt.lineB = (l.take i).flatMap Pt.lineB ++ Pt.lineB l[i] := by
  rw [(List.take_append_getElem h).symm, List.flatMap_append, List.flatMap_cons, List.flatMap_nil, List.append_nil]
theorem lines_le {l : List Po.Decl} {i : Nat} (h : i < l.length) : ((l.take i).flatMap Pt.lineB).length + (Pt.lineB l[i]).length ≤ (l.flatMap Pt.lineB).length := by
  have e : l.flatMap Pt.lineB = (l.take (i + 1)).flatMap Pt.lineB ++ (l.drop (i + 1)).flatMap Pt.lineB := by rw [← List.flatMap_append, List.take_append_drop]
  rw [e, lines_take h, List.length_append, List.length_append]
  omega
theorem line_parts (d : Po.Decl) : (Pt.lineB d).length = (Pt.firstB d.kind).length + (Pt.restB d).length + 2 := by unfold Pt.lineB; simp; omega
theorem lines_some {l : List Po.Decl} (h : 0 < l.length) : l.flatMap Pt.lineB ≠ [] := by
  cases l with
  | nil => simp at h
  | cons d l => simp [Pt.lineB]

set_option maxRecDepth 100000 in
set_option maxHeartbeats 4000000 in
theorem print_bad {w : World} {v : Value} {l : List Po.Decl} (h : DSl w v l) (hn : l.length ≤ 140737488355328) (hs : ∀ d ∈ l, DSmall d) (ha : l.all Ru.may = false) :
    Calls Tryz.prog 12 #[v] w fun e w' => e = .returned (.string ⟨(Pt.printB l).toArray⟩) ∧ Below w.heap.size w w' := by
  have e := hid (show Pt.printB l = [] by unfold Pt.printB; rw [ha]; rfl)
  have hp := hid (pright_any h hn hs)
  rw [ha] at hp
  clear h hs ha
  rw [e.out]
  go_enter Tryz.func12, Tryz.ntmps12
  go_wp2_with fail
  refine hp.out.mono ?_
  rintro en w1 ⟨rfl, hb1⟩
  have Q := hid hb1
  clear hb1 hp
  go_wp2_with fail
  go_ret
  exact ⟨rfl, Q.out⟩

set_option maxRecDepth 100000 in
set_option maxHeartbeats 4000000 in
theorem print_good {w : World} {v : Value} {l : List Po.Decl} (h : DSl w v l) (hn : l.length ≤ 140737488355328) (hs : ∀ d ∈ l, DSmall d) (ha : l.all Ru.may = true) (ht : TabU w) (hlen : (l.flatMap Pt.lineB).length ≤ 140737488355328) :
    Calls Tryz.prog 12 #[v] w fun e w' => e = .returned (.string ⟨(Pt.printB l).toArray⟩) ∧ Below w.heap.size w w' := by
  have e := hid (show Pt.printB l = l.flatMap Pt.lineB by unfold Pt.printB; rw [if_pos ha])
  have hp := hid (pright_any h hn hs)
  rw [ha] at hp
  have ha' := hid ha
  have hs' := hid hs
  have ht' := hid ht
  have hl' := hid hlen
  have hds := hid h
  obtain ⟨vp, vc, rfl⟩ := h.shape
  clear h hs ha ht hlen
  rw [e.out]
  go_enter Tryz.func12, Tryz.ntmps12
  go_wp2_with fail
  refine hp.out.mono ?_
  rintro en w1 ⟨rfl, hb1⟩
  have Q1 := hid hb1
  have N1 := hid (WB.new (tab_ext ht'.out hb1))
  have hBw := hb1.size
  have Z1 := hid (hb1.trans ((balloc w1 (.cells #[.pointer none, .slice none 0 0] 92)).mono hBw))
  have A1 := hid (Blk.new w1 #[.pointer none, .slice none 0 0] 92)
  clear hb1 hp
  go_wp2_with fail
  generalize w1.alloc (.cells #[.pointer none, .slice none 0 0] 92) = w2 at *
  generalize w1.heap.size = b at *
  clear Q1
  go_loopw [13] (fun u wr => ∃ i : Nat, u = .int .i64 i ∧ i ≤ l.length ∧ WB b b ((l.take i).flatMap Pt.lineB) wr ∧ Below w.heap.size w wr ∧ (i = 0 → Blk wr b #[.pointer none, .slice none 0 0] 92)) (fun u _ => l.length - (intOf u).toNat)
  case atStart => exact ⟨0, rfl, Nat.zero_le _, N1.out, Z1.out, fun _ => A1.out⟩
  case round =>
    obtain ⟨i, rfl, hle, hB, hQ, hA⟩ := hrel
    have B0 := hid hB
    have Q0 := hid hQ
    have A0 := hid hA
    clear hB hQ hA N1 Z1 A1
    by_cases hlt : i < l.length
    · rcases hds.out with ⟨_, h0⟩ | ⟨g, off, cap, hv, hr⟩
      · rw [h0] at hlt; simp at hlt
      cases hv
      have i0 : (0 : Int) ≤ i := by omega
      have i1 : (i : Int) < l.length := by omega
      obtain ⟨x, h1, h2⟩ := hr.get i hlt
      have hx := hid (show wr.rangeAt g (off + i * 24) (declCells l[i] x).toList from fun j u hu => (Q0.out.cell (p := ⟨g, off + i * 24 + j, none⟩) hr.lt).trans (h1 j u hu))
      have hbx := hid h2
      have hone := hid (declCells_one l[i] h2.one)
      have hsm := hs'.out _ (List.getElem_mem hlt)
      have hmay := hid (List.all_eq_true.1 ha'.out _ (List.getElem_mem hlt))
      have hkk := Ru.may_kind hmay.out
      have htk := hid (lines_take hlt)
      have hll := lines_le hlt
      have hl0 := hl'.out
      have hbn := hsm.boxes
      rw [line_parts] at hll
      have hL := hid (show ((l.take i).flatMap Pt.lineB).length + ((Pt.firstB l[i].kind).length + (Pt.restB l[i]).length + 2) ≤ 140737488355328 by omega)
      clear hsm h1 h2 hr hll hl0
      generalize l[i] = d at *
      generalize (l.take i).flatMap Pt.lineB = acc at *
      have z := balloc wr (.cells (declCells d x) 83)
      have B1 := hid (B0.out.ext z)
      have Q1 := hid (Q0.out.trans (z.mono Q0.out.size))
      have D1 := hid (Blk.new wr (declCells d x) 83)
      have hkb : wr.heap.size ≠ b := by have := B0.out.lt; omega
      have hbw := Q0.out.size
      clear z
      go_upto_region 7 with (first | (refine wpList_load_at rfl 83 (.tmp 15) rfl 16 rfl g (off + i * 24) (declCells d x) (hx.out) rfl Tryz.underlying83 rfl (by kernel_rfl) ?_) | (refine wpList_store_new rfl 83 (.tmp 5) (.tmp 16) rfl rfl wr 83 _ (declCells d x) rfl rfl rfl (by kernel_rfl) rfl (hone.out) ?_))
      clear hx hone
      generalize wr.alloc (.cells (declCells d x) 83) = wa at *
      generalize wr.heap.size = k at *
      have B2 := hid B1.out.drew
      have Q2 := hid Q1.out.drew
      have D2 := hid (Blk.drew D1.out)
      have S2 : wa.drew.cell? ⟨k, 0, none⟩ = some (.int .i64 d.kind) := D2.out.cell 0 rfl
      clear B1 Q1 D1 B0 Q0
      go_region_held3 (fun w' => w'.cell? ⟨k, 0, none⟩ = some (.int .i64 d.kind)) (first | with_reducible assumption | go_keep) (first
        | ((go_at_call 33
            with_reducible refine (first_any d.kind hkk.1 hkk.2 _).mono ?_
            rintro en w3 ⟨rfl, rfl⟩))
        | ((go_at_call 32
            with_reducible refine (bwrite_any B2.out ⟨(Pt.firstB d.kind).toArray⟩ (by have := hL.out; rw [txt_size]; omega)).mono ?_
            rintro en w4 ⟨rfl, h4, q4⟩
            rw [txt_bytes] at h4
            have B4 := hid h4
            have Q4 := hid (Q2.out.trans (q4.bel.mono hBw))
            have D4 := hid (D2.out.wrote q4 hkb (by decide))
            have S4 : w4.cell? ⟨k, 0, none⟩ = some (.int .i64 d.kind) := D4.out.cell 0 rfl
            clear h4 q4 S2 B2 Q2 D2)))
      clear S4
      go_wp2_with (first | (refine wpList_load_blk rfl 83 (.tmp 5) rfl 25 rfl k 83 (declCells d x) (D4.out) rfl Tryz.underlying83 rfl (by kernel_rfl) ?_))
      refine (wrest_any B4.out d x hmay.out (fun w' hw => hbx.out.ext (Q4.out.trans (hw.mono hBw))) (by omega) (by have := hL.out; rw [List.length_append]; omega)).mono ?_
      rintro en w5 ⟨rfl, h5, q5⟩
      have B5 := hid h5
      have Q5 := hid (Q4.out.trans (q5.bel.mono hBw))
      clear h5 q5 B4 Q4 D4
      go_wp2_with fail
      refine (bwrite_any B5.out ⟨#[59, 10]⟩ (by have := hL.out; simp only [List.length_append]; show _ + 2 ≤ _; omega)).mono ?_
      rintro en w6 ⟨rfl, h6, q6⟩
      have B6 := hid (show WB b b (acc ++ Pt.lineB d) w6 by
        have e : acc ++ Pt.lineB d = acc ++ Pt.firstB d.kind ++ Pt.restB d ++ (⟨#[59, 10]⟩ : ByteArray).data.toList := by unfold Pt.lineB; simp only [List.append_assoc]
        rw [e]; exact h6)
      have Q6 := hid (Q5.out.trans (q6.bel.mono hBw))
      clear h6 q6 B5 Q5
      go_wp2_with fail
      go_roundw
      case rel => exact ⟨i + 1, by go_num, by omega, by rw [htk.out]; exact B6.out, Q6.out, fun h => by omega⟩
      case measure => simp [intOf]; omega
    · obtain rfl : i = l.length := by omega
      have E := hid (show WB b b (l.flatMap Pt.lineB) wr by have h := B0.out; rwa [List.take_of_length_le (Nat.le_refl _)] at h)
      clear B0
      by_cases h0 : l.length = 0
      · have hA := hid (A0.out h0)
        have hl0 := hid (show l.flatMap Pt.lineB = [] by rw [List.eq_nil_of_length_eq_zero h0]; rfl)
        clear h0 A0
        go_wp2_with fail
        refine (bstring_nil (B := w.heap.size) hA.out).mono ?_
        rintro en w3 ⟨rfl, hb3⟩
        have Q3 := hid (Q0.out.trans hb3)
        clear hb3
        go_wp2_with fail
        go_ret
        exact ⟨by rw [hl0.out]; rfl, Q3.out⟩
      · have hne := hid (lines_some (l := l) (by omega))
        clear h0 A0
        go_wp2_with fail
        refine (bstring_some E.out hne.out).mono ?_
        rintro en w3 ⟨rfl, hb3⟩
        have Q3 := hid (Q0.out.trans (hb3.mono hBw))
        clear hb3
        go_wp2_with fail
        go_ret
        exact ⟨rfl, Q3.out⟩

theorem print_any {w : World} {v : Value} {l : List Po.Decl} (h : DSl w v l) (hn : l.length ≤ 140737488355328) (hs : ∀ d ∈ l, DSmall d) (ht : TabU w) (hlen : l.all Ru.may = true → (l.flatMap Pt.lineB).length ≤ 140737488355328) :
    Calls Tryz.prog 12 #[v] w fun e w' => e = .returned (.string ⟨(Pt.printB l).toArray⟩) ∧ Below w.heap.size w w' := by
  cases ha : l.all Ru.may with
  | true => exact print_good h hn hs ha ht (hlen ha)
  | false => exact print_bad h hn hs ha

end Go.Proofs.YteddkgpnklfppaaGreatDoor
