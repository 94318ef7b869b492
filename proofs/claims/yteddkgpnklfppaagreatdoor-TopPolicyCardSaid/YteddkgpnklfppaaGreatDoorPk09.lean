/-
  The walks of geom: Meets, Meet, Area.
  The walks of grant: zoom, with the library's IndexFunc and ContainsFunc over its closure.
  Rows of boxes that are copied: small laws.
  The library's slices.Sort and slices.Compact at []int at this dump: their contracts, laid by the kit's tool; what they leave of a slice of the call's own.
-/
import Derived.Test.YteddkgpnklfppaaGreatDoorPk07
import Derived.Test.YteddkgpnklfppaaGreatDoorPk08
import Derived.Test.YteddkgpnklfppaaGreatDoorPk06
import Derived.Shelf.Lays
import Derived.Shelf.Lays2
import Derived.Shelf.Sort.Plain
import Derived.Shelf.Slices.CompactI
import Derived.Shelf.Slices.In.SortNone
import Derived.Sort.OwnSortedInts

namespace Go.Proofs.YteddkgpnklfppaaGreatDoor
open Go.RowKit Go.Sort

theorem gmeets_is {a b : Po.Box} (ha : Ru.boxR a = true) (hb : Ru.boxR b = true) : Gr.meets a b = (decide (a.x0 ≤ b.x1) && decide (b.x0 ≤ a.x1) && decide (a.y0 ≤ b.y1) && decide (b.y0 ≤ a.y1)) := by
  unfold Gr.meets
  rw [ha, hb]
  simp only [Bool.true_and]
set_option maxRecDepth 100000 in
set_option maxHeartbeats 2000000 in
theorem gmeets_any (a b : Po.Box) (ha : Ru.boxR a = true) (hb : Ru.boxR b = true) (w : World) : Calls Tryz.prog 44 #[pboxV a, pboxV b] w fun e w' => e = .returned (.bool (Gr.meets a b)) ∧ Below w.heap.size w w' := by
  have ca := hid (boxright_any a)
  have cb := hid (boxright_any b)
  rw [ha] at ca
  rw [hb] at cb
  have A0 := hid ((Blk.new w #[.int .i64 a.x0, .int .i64 a.y0, .int .i64 a.x1, .int .i64 a.y1] 27).alloc (.cells #[.int .i64 b.x0, .int .i64 b.y0, .int .i64 b.x1, .int .i64 b.y1] 27))
  have B0 := hid (Blk.newAt (w := w.alloc (.cells #[.int .i64 a.x0, .int .i64 a.y0, .int .i64 a.x1, .int .i64 a.y1] 27)) (k := w.heap.size + 1) (by simp) #[.int .i64 b.x0, .int .i64 b.y0, .int .i64 b.x1, .int .i64 b.y1] 27)
  have Q0 := hid (bthen (balloc w (.cells #[.int .i64 a.x0, .int .i64 a.y0, .int .i64 a.x1, .int .i64 a.y1] 27)) (balloc _ (.cells #[.int .i64 b.x0, .int .i64 b.y0, .int .i64 b.x1, .int .i64 b.y1] 27)))
  rw [gmeets_is ha hb]
  clear ha hb
  obtain ⟨x0, y0, x1, y1⟩ := a
  obtain ⟨u0, v0, u1, v1⟩ := b
  simp only at ca cb A0 B0 Q0 ⊢
  unfold pboxV at *
  simp only at ca cb ⊢
  go_enter Tryz.func44, Tryz.ntmps44
  go_wp2_with fail
  refine (ca.out _).mono ?_
  rintro e w1 ⟨rfl, hb1⟩
  have A1 := hid (A0.out.ext hb1)
  have B1 := hid (B0.out.ext hb1)
  have Q1 := hid (bthen Q0.out hb1)
  clear hb1
  obtain ⟨p0, p1, p2, p3, pf, pz⟩ := B1.out.four
  go_wp2_with fail
  refine (cb.out _).mono ?_
  rintro e w2 ⟨rfl, hb2⟩
  have A2 := hid (A1.out.ext hb2)
  have B2 := hid (B1.out.ext hb2)
  have Q2 := hid (bthen Q1.out hb2)
  clear hb2 p0 p1 p2 p3 pf pz A1 B1 Q1 A0 B0 Q0 ca cb
  obtain ⟨p0, p1, p2, p3, pf, pz⟩ := A2.out.four
  obtain ⟨q0, q1, q2, q3, qf, qz⟩ := B2.out.four
  go_wp2_with fail
  all_goals
    go_ret
    refine ⟨ret_bool ?_, Q2.out⟩
    clear p0 p1 p2 p3 pf pz q0 q1 q2 q3 qf qz Q2
    first | (simp_all; done) | (simp_all; omega)

theorem gmeet_eq (a b : Po.Box) : pboxV (Gr.meet a b) = .agg #[.int .i64 (max a.x0 b.x0), .int .i64 (max a.y0 b.y0), .int .i64 (min a.x1 b.x1), .int .i64 (min a.y1 b.y1)] := rfl
set_option maxRecDepth 100000 in
set_option maxHeartbeats 2000000 in
theorem gmeet_any {a b : Po.Box} (ha : Ru.boxR a = true) (hb : Ru.boxR b = true) (w : World) : Calls Tryz.prog 27 #[pboxV a, pboxV b] w fun e w' => e = .returned (if Gr.meets a b then .tuple #[pboxV (Gr.meet a b), .bool true] else .tuple #[.agg #[.int .i64 0, .int .i64 0, .int .i64 0, .int .i64 0], .bool false]) ∧ Below w.heap.size w w' := by
  have cm := hid (gmeets_any a b ha hb)
  rw [gmeet_eq]
  clear ha hb
  generalize Gr.meets a b = m at *
  obtain ⟨a0, a1, a2, a3⟩ := a
  obtain ⟨b0, b1, b2, b3⟩ := b
  have z1 := balloc w (.cells #[.int .i64 a0, .int .i64 a1, .int .i64 a2, .int .i64 a3] 27)
  have z2 := balloc (w.alloc (.cells #[.int .i64 a0, .int .i64 a1, .int .i64 a2, .int .i64 a3] 27)) (.cells #[.int .i64 b0, .int .i64 b1, .int .i64 b2, .int .i64 b3] 27)
  have z3 := balloc ((w.alloc (.cells #[.int .i64 a0, .int .i64 a1, .int .i64 a2, .int .i64 a3] 27)).alloc (.cells #[.int .i64 b0, .int .i64 b1, .int .i64 b2, .int .i64 b3] 27)) (.cells #[.int .i64 0, .int .i64 0, .int .i64 0, .int .i64 0] 27)
  have Q0 := hid (bthen (bthen z1 z2) z3)
  have A0 := hid (((Blk.new w #[.int .i64 a0, .int .i64 a1, .int .i64 a2, .int .i64 a3] 27).ext z2).ext z3)
  have B0 := hid ((Blk.newAt (w := w.alloc (.cells #[.int .i64 a0, .int .i64 a1, .int .i64 a2, .int .i64 a3] 27)) (k := w.heap.size + 1) (by simp) #[.int .i64 b0, .int .i64 b1, .int .i64 b2, .int .i64 b3] 27).ext z3)
  have C0 := hid (Blk.newAt (w := (w.alloc (.cells #[.int .i64 a0, .int .i64 a1, .int .i64 a2, .int .i64 a3] 27)).alloc (.cells #[.int .i64 b0, .int .i64 b1, .int .i64 b2, .int .i64 b3] 27)) (k := w.heap.size + 1 + 1) (by simp) #[.int .i64 0, .int .i64 0, .int .i64 0, .int .i64 0] 27)
  clear z1 z2 z3
  unfold pboxV at *
  simp only at *
  go_enter Tryz.func27, Tryz.ntmps27
  go_wp2_with fail
  obtain ⟨x0, x1, x2, x3, xf, xz⟩ := A0.out.four
  obtain ⟨y0, y1, y2, y3, yf, yz⟩ := B0.out.four
  go_wp2_with fail
  refine (cm.out _).mono ?_
  rintro e w2 ⟨rfl, hb2⟩
  have A2 := hid (A0.out.ext hb2)
  have B2 := hid (B0.out.ext hb2)
  have C2 := hid (C0.out.ext hb2)
  have Q2 := hid (bthen Q0.out hb2)
  clear hb2 A0 B0 C0 Q0 x0 x1 x2 x3 xf xz y0 y1 y2 y3 yf yz
  obtain ⟨x0, x1, x2, x3, xf, xz⟩ := A2.out.four
  obtain ⟨y0, y1, y2, y3, yf, yz⟩ := B2.out.four
  obtain ⟨c0, c1, c2, c3, cf, cz⟩ := C2.out.four
  cases m with
  | false =>
    go_wp2_with fail
    exact bodyPost_ret (v := .tuple #[.agg #[.int .i64 0, .int .i64 0, .int .i64 0, .int .i64 0], .bool false]) (by simp [results, Tryz.results27, go_sem, c0, c1, c2, c3]) rfl ⟨rfl, bset (bset (bset (bset Q2.out (by omega) _) (by omega) _) (by omega) _) (by omega) _⟩
  | true =>
    go_wp2_with fail
    all_goals exact bodyPost_ret (v := .tuple #[.agg #[.int .i64 (max a0 b0), .int .i64 (max a1 b1), .int .i64 (min a2 b2), .int .i64 (min a3 b3)], .bool true]) (by simp [results, Tryz.results27, go_sem, c0, c1, c2, c3]; try omega) rfl ⟨rfl, bset (bset (bset (bset Q2.out (by omega) _) (by omega) _) (by omega) _) (by omega) _⟩

theorem garea_wrap {a : Po.Box} (h : Ru.boxR a = true) : IntKind.u64.wrap (IntKind.u64.wrap (wrap64 (wrap64 (a.x1 - a.x0) + 1)) * IntKind.u64.wrap (wrap64 (wrap64 (a.y1 - a.y0) + 1))) = Gr.area a := by
  have hb := Gr.boxR_le h
  have e1 : IntKind.u64.wrap (wrap64 (wrap64 (a.x1 - a.x0) + 1)) = a.x1 - a.x0 + 1 := by rw [IntKind.wrap_u64]; unfold wrap64; omega
  have e2 : IntKind.u64.wrap (wrap64 (wrap64 (a.y1 - a.y0) + 1)) = a.y1 - a.y0 + 1 := by rw [IntKind.wrap_u64]; unfold wrap64; omega
  have ha := Gr.area_eq h
  have e3 : Gr.area a = (a.x1 - a.x0 + 1) * (a.y1 - a.y0 + 1) := by unfold Gr.area; rw [if_pos h]
  rw [e1, e2, ← e3, IntKind.wrap_u64]
  omega
set_option maxHeartbeats 2000000 in
theorem garea_any {a : Po.Box} (h : Ru.boxR a = true) (w : World) : Calls Tryz.prog 26 #[pboxV a] w fun e w' => e = .returned (.int .u64 (Gr.area a)) ∧ Below w.heap.size w w' := by
  have ca := hid (boxright_any a)
  have hw := hid (garea_wrap h)
  rw [h] at ca
  clear h
  obtain ⟨a0, a1, a2, a3⟩ := a
  have z1 := balloc w (.cells #[.int .i64 a0, .int .i64 a1, .int .i64 a2, .int .i64 a3] 27)
  have Q0 := hid z1
  have A0 := hid (Blk.new w #[.int .i64 a0, .int .i64 a1, .int .i64 a2, .int .i64 a3] 27)
  clear z1
  unfold pboxV at *
  simp only at *
  go_enter Tryz.func26, Tryz.ntmps26
  obtain ⟨x0, x1, x2, x3, xf, xz⟩ := A0.out.four
  go_wp2_with fail
  refine (ca.out _).mono ?_
  rintro e w2 ⟨rfl, hb2⟩
  have A2 := hid (A0.out.ext hb2)
  have Q2 := hid (bthen Q0.out hb2)
  clear hb2 A0 Q0 x0 x1 x2 x3 xf xz
  obtain ⟨x0, x1, x2, x3, xf, xz⟩ := A2.out.four
  go_wp2_with fail
  go_ret
  exact ⟨ret_int (by rw [← hw.out]), Q2.out⟩

end Go.Proofs.YteddkgpnklfppaaGreatDoor

namespace Go.Proofs.YteddkgpnklfppaaGreatDoor
open Go.RowKit Go.Sort

theorem enter_has1 (args : Array Value) (w : World) : Sem.run Tryz.prog (callFunc 123 args) w = .ok (.enter 123 args) w := by kernel_rfl
/-- the function value that asks whether a box has the point of a block -/
def hasFV (b : Nat) : Value := .func (.func 123) #[] #[.pointer (some ⟨b, 0, none⟩)]
theorem has1_any {w : World} {b : Nat} {x y : Int} (h : Blk w b #[.int .i64 x, .int .i64 y] 25) (c : Po.Box) :
    Calls Tryz.prog 123 #[.agg (boxArr c), .pointer (some ⟨b, 0, none⟩)] w fun e w' => e = .returned (.bool (Ru.boxHas c x y)) ∧ Below w.heap.size w w' := by
  have z := balloc w (.cells (boxArr c) 27)
  have hb : Hid (∀ w, Calls Tryz.prog 9 #[.agg (boxArr c), .agg #[.int .i64 x, .int .i64 y]] w fun e w' => e = .returned (.bool (Ru.boxHas c x y)) ∧ Below w.heap.size w w') := hid (has_any c x y)
  have P0 := hid (h.ext z)
  have Q0 := hid z
  have B0 := hid (Blk.new w (boxArr c) 27)
  clear z h
  generalize Ru.boxHas c x y = r at *
  go_enter Tryz.func123, Tryz.ntmps123
  go_wp2_with (first | (refine wpList_load_blk rfl 27 (.tmp 2) rfl 4 rfl w.heap.size 27 (boxArr c) (B0.out) rfl Tryz.underlying27 rfl (by kernel_rfl) ?_) | (refine wpList_load_blk rfl 25 (.tmp 1) rfl 5 rfl b 25 (#[.int .i64 x, .int .i64 y]) (P0.out) rfl Tryz.underlying25 rfl (by kernel_rfl) ?_))
  refine (hb.out _).mono ?_
  rintro e w1 ⟨rfl, hb1⟩
  have Q1 := hid (bthen Q0.out hb1)
  clear hb1
  go_wp2_with fail
  go_ret
  exact ⟨rfl, Q1.out⟩

theorem idx_find {l : List Po.Box} {i : Nat} {p : Po.Box → Bool} (hi : i < l.length) (_h : (l.take i).any p = false) (hp : p l[i] = true) : l.any p = true := any_yes hi hp
set_option maxRecDepth 100000 in
set_option maxHeartbeats 2000000 in
theorem indexf_any {w : World} {b : Nat} {x y : Int} {v : Value} {l : List Po.Box} (h : BRow w v l) (hn : l.length ≤ 140737488355328) (hP : Blk w b #[.int .i64 x, .int .i64 y] 25) :
    Calls Tryz.prog 137 #[v, hasFV b] w fun e w' => (∃ k : Int, e = .returned (.int .i64 k) ∧ decide (0 ≤ k) = Ru.hasB l x y ∧ -1 ≤ k ∧ k ≤ l.length) ∧ Below w.heap.size w w' := by
  have hen := enter_has1
  unfold hasFV
  rcases brow_of h with ⟨p0, c0, rfl, rfl⟩ | ⟨g, off, cap, rfl, hr⟩
  · clear h hP
    go_enter Tryz.func137, Tryz.ntmps137
    go_wp2_with fail
    go_loop [8] (fun u => u = .int .i64 0) (fun _ => 0)
    case atStart => rfl
    case round =>
      subst hrel
      go_wp2_with fail
      go_ret
      exact ⟨⟨-1, rfl, rfl, by decide, by decide⟩, Below.refl _ _⟩
  · have hr' := hid hr
    have P0 := hid hP
    clear h hr hP
    go_enter Tryz.func137, Tryz.ntmps137
    go_wp2_with fail
    go_loopw [8] (fun u wr => ∃ i : Nat, u = .int .i64 i ∧ i ≤ l.length ∧ Below w.heap.size w wr ∧ (l.take i).any (fun b => Ru.boxHas b x y) = false) (fun u _ => l.length - (intOf u).toNat)
    case atStart => exact ⟨0, rfl, Nat.zero_le _, Below.refl _ _, rfl⟩
    case round =>
      obtain ⟨i, rfl, hle, hQ, hall⟩ := hrel
      have hQ' := hid hQ
      have hall' := hid hall
      clear hQ hall
      by_cases hlt : i < l.length
      · have hs := hid ((hr'.out.ext hQ'.out).get i hlt)
        have hyes := hid (fun h => any_yes (p := fun b => Ru.boxHas b x y) hlt h)
        have hno := hid (fun h => any_take hlt hall'.out h)
        have hb := hid (has1_any (P0.out.ext hQ'.out) l[i])
        have j0 : (0 : Int) ≤ i := by omega
        have j1 : (i : Int) < l.length := by omega
        generalize l[i] = c at *
        go_wp2_with (first | (refine wpList_load_at rfl 27 (.tmp 14) rfl 15 rfl g (off + i * 4) (boxArr c) (hs.out) rfl Tryz.underlying27 rfl (by kernel_rfl) ?_))
        refine hb.out.mono ?_
        rintro e w1 ⟨rfl, hb1⟩
        have Q1 := hid (bthen hQ'.out hb1)
        generalize Ru.boxHas c x y = r at *
        cases r with
        | false =>
          have hy := hid (hno.out rfl)
          go_wp2_with fail
          go_roundw
          case rel => exact ⟨i + 1, by go_num, by omega, Q1.out, hy.out⟩
          case measure => simp [intOf]; omega
        | true =>
          have hy := hid (hyes.out rfl)
          go_wp2_with fail
          go_ret
          exact ⟨⟨i, rfl, by unfold Ru.hasB; rw [hy.out]; first | done | simp, by omega, by omega⟩, Q1.out⟩
      · obtain rfl : i = l.length := by omega
        have hf := hid (show Ru.hasB l x y = false by have h := hall'.out; rw [List.take_of_length_le (Nat.le_refl _)] at h; exact h)
        go_wp2_with fail
        go_ret
        exact ⟨⟨-1, rfl, by rw [hf.out]; first | done | rfl, by omega, by omega⟩, hQ'.out⟩
theorem containsf_any {w : World} {b : Nat} {x y : Int} {v : Value} {l : List Po.Box} (h : BRow w v l) (hn : l.length ≤ 140737488355328) (hP : Blk w b #[.int .i64 x, .int .i64 y] 25) :
    Calls Tryz.prog 122 #[v, hasFV b] w fun e w' => e = .returned (.bool (Ru.hasB l x y)) ∧ Below w.heap.size w w' := by
  have hi := hid (indexf_any h hn hP)
  clear h hP
  go_enter Tryz.func122, Tryz.ntmps122
  go_wp2_with fail
  refine hi.out.mono ?_
  rintro e w1 ⟨⟨k, rfl, hk, k0, k1⟩, hb1⟩
  have Q1 := hid hb1
  have hk' := hid hk
  clear hb1 hk
  go_wp2_with fail
  all_goals
    go_ret
    exact ⟨ret_bool (by rw [← hk'.out]; first | done | (simp_all; done) | (simp_all; omega)), Q1.out⟩

theorem zs_yes {r : Ru.Rule} {x y : Int} {p : Int × Int} (h2 : Ru.hasB r.boxes x y = true) : Gr.zStep x y p r = if r.kind = 4 then (max p.1 r.zoom, p.2) else (p.1, min p.2 r.zoom) := by
  unfold Gr.zStep; rw [h2]; rfl
theorem zs_no {r : Ru.Rule} {x y : Int} {p : Int × Int} (h : Ru.hasB r.boxes x y = false) : Gr.zStep x y p r = p := by
  unfold Gr.zStep; rw [h]; rfl

set_option maxRecDepth 100000 in
set_option maxHeartbeats 4000000 in
theorem gzoom_any {w : World} {v : Value} {l : List Ru.Rule} (x y : Int) (h : RSl w v l) (hn : l.length ≤ 140737488355328) :
    Calls Tryz.prog 110 #[v, .agg #[.int .i64 x, .int .i64 y]] w fun e w' => e = .returned (.int .i64 (Gr.zoomG l x y)) ∧ Below w.heap.size w w' := by
  have hz := balloc w (.cells #[.int .i64 x, .int .i64 y] 25)
  have Q0 := hid hz
  have P0 := hid (Blk.new w #[.int .i64 x, .int .i64 y] 25)
  have h0 := hid (h.ext hz)
  clear h hz
  rcases h0.out with ⟨rfl, rfl⟩ | ⟨g, off, cap, rfl, hr⟩
  · go_enter Tryz.func110, Tryz.ntmps110
    go_wp2_with fail
    go_loop [5, 6, 11] (fun a c u => a = .int .i64 0 ∧ c = .int .i64 16 ∧ u = .int .i64 0) (fun _ _ _ => 0)
    case atStart => exact ⟨rfl, rfl, rfl⟩
    case round =>
      obtain ⟨rfl, rfl, rfl⟩ := hrel
      go_wp2_with fail
      go_ret
      exact ⟨rfl, Q0.out⟩
  · have R1 := hid hr
    clear hr h0
    have hs1 := P0.out.lt
    go_enter Tryz.func110, Tryz.ntmps110
    go_wp2_with fail
    generalize hw0 : w.alloc (.cells #[.int .i64 x, .int .i64 y] 25) = w0 at *
    clear hw0
    generalize hpb : w.heap.size = pb at *
    have hpb' := hid hpb
    clear hpb
    go_loopw [5, 6, 11] (fun a c u wr => ∃ (i : Nat) (m k : Int), a = .int .i64 m ∧ c = .int .i64 k ∧ u = .int .i64 i ∧ i ≤ l.length ∧ Below w0.heap.size w0 wr ∧ (l.take i).foldl (Gr.zStep x y) (0, 16) = (m, k)) (fun _ _ u _ => l.length - (intOf u).toNat)
    case atStart => exact ⟨0, 0, 16, rfl, rfl, rfl, Nat.zero_le _, Below.refl _ _, rfl⟩
    case round =>
      obtain ⟨i, m, k, rfl, rfl, rfl, hle, hQ, hall⟩ := hrel
      have hQ' := hid hQ
      have hall' := hid hall
      have P2 := hid (P0.out.ext hQ)
      have Qw := hid (Q0.out.trans (hQ.mono (by have := Q0.out.size; omega)))
      clear hQ hall
      by_cases hlt : i < l.length
      · obtain ⟨z, hs⟩ := R1.out.at hQ'.out hlt
        have hs' := hid hs
        have hfold := hid (foldl_take hlt hall'.out)
        have P3 := hid (P2.out.alloc (.cells (ruleArr l[i] z) 56))
        have B3 := hid (Blk.new wr (ruleArr l[i] z) 56)
        have hx3 := hid (hs.box.ext (balloc wr (.cells (ruleArr l[i] z) 56)))
        have hfew := hid hs.few
        have Q3 := hid (bthen hQ'.out (balloc wr (.cells (ruleArr l[i] z) 56)))
        obtain ⟨zp, zc, hzv⟩ := hs.box.shape
        clear hs
        generalize l[i] = r at *
        subst hzv
        have hh := hid (containsf_any hx3.out hfew.out P3.out)
        unfold hasFV at hh
        have r5 := B3.out.cell 5 (v := .slice zp r.boxes.length zc) rfl
        go_wp2_with (first | (refine wpList_load_at rfl 56 (.tmp 13) rfl 14 rfl g (off + i * 7) (ruleArr r (.slice zp r.boxes.length zc)) (hs'.out.at_) rfl Tryz.underlying56 rfl (by kernel_rfl) ?_) | (refine wpList_store_new rfl 56 (.tmp 8) (.tmp 14) rfl rfl wr 56 _ (ruleArr r (.slice zp r.boxes.length zc)) rfl rfl rfl (by kernel_rfl) rfl (hs'.out.one) ?_))
        refine hh.out.mono ?_
        rintro e w2 ⟨rfl, hb2⟩
        have Q4 := hid (bthen Q3.out hb2)
        have B4 := hid (B3.out.ext hb2)
        clear hb2 r5
        cases hf : Ru.hasB r.boxes x y with
        | false =>
          have hst := hid (zs_no (p := (m, k)) hf)
          rw [hst.out] at hfold
          clear hf
          go_wp2_with fail
          go_roundw
          case rel => exact ⟨i + 1, m, k, rfl, rfl, by go_num, by omega, Q4.out, hfold.out⟩
          case measure => simp [intOf]; omega
        | true =>
          have hst := hid (zs_yes (p := (m, k)) hf)
          rw [hst.out] at hfold
          obtain ⟨x0, x1, x2, x3, x4, x5, x6, xf, xz⟩ := (show Blk w2 wr.heap.size (ruleArr r (.slice zp r.boxes.length zc)) 56 from B4.out).seven
          clear hf
          by_cases h4 : r.kind = 4
          · rw [if_pos h4] at hfold
            have k4 : (r.kind == 4) = true := beq_iff_eq.2 h4
            clear h4
            go_wp2_with fail
            all_goals
              go_roundw
              case rel => exact ⟨i + 1, _, k, rfl, rfl, by go_num, by omega, Q4.out, by rw [hfold.out]; first | done | (ext <;> simp only <;> omega)⟩
              case measure => simp [intOf]; omega
          · rw [if_neg h4] at hfold
            have k4 : (r.kind == 4) = false := beq_eq_false_iff_ne.2 h4
            clear h4
            go_wp2_with fail
            all_goals
              go_roundw
              case rel => exact ⟨i + 1, m, _, rfl, rfl, by go_num, by omega, Q4.out, by rw [hfold.out]; first | done | (ext <;> simp only <;> omega)⟩
              case measure => simp [intOf]; omega
      · obtain rfl : i = l.length := by omega
        have hf := hid (show min m k = Gr.zoomG l x y by
          have h := hall'.out
          rw [List.take_of_length_le (Nat.le_refl _)] at h
          unfold Gr.zoomG
          rw [h])
        go_wp2_with fail
        all_goals
          go_ret
          exact ⟨ret_int (by rw [← hf.out]; first | done | omega), by rw [hpb'.out]; exact Qw.out⟩

end Go.Proofs.YteddkgpnklfppaaGreatDoor

namespace Go.Proofs.YteddkgpnklfppaaGreatDoor
open Go.RowKit Go.Sort

theorem Touch.of_grown {w w' : World} {b : Nat} (h : w.grownBy w' (some b)) : Touch b w w' := ⟨h.os, h.tape, h.output, h.size, fun k hk hn => h.block k hk (by simpa using hn)⟩
theorem below_of_grown {w w' : World} (h : w.grownBy w' none) : Below w.heap.size w w' := ⟨h.os, h.tape, h.output, h.size, fun i hi => h.block i hi (by simp)⟩
theorem boxesCells_one (l : List Po.Box) : ∀ u ∈ boxesCells l, u.oneCell' = true := by
  intro u hu
  obtain ⟨b, _, hb⟩ := List.mem_flatMap.1 hu
  exact boxCells_one b u hb
theorem boxesCells_len (l : List Po.Box) : (boxesCells l).length = l.length * 4 := by
  induction l with
  | nil => rfl
  | cons b l ih =>
    have e : boxesCells (b :: l) = boxCells b ++ boxesCells l := rfl
    rw [e, List.length_append, ih, List.length_cons]
    show 4 + l.length * 4 = _
    omega
theorem addr_add (g off j : Nat) : (⟨g, off, none⟩ : Addr).add j = ⟨g, off + j, none⟩ := by unfold Addr.add; split <;> simp_all
/-- the cells of a row that lies in memory -/
theorem Row.news {w : World} {g off n cap size : Nat} {xs : List Value} (h : Row w (.slice (some ⟨g, off, none⟩) n cap) n size xs) : ∀ j u, xs[j]? = some u → w.cell? ((⟨g, off, none⟩ : Addr).add j) = some u := by
  rcases h.2 with ⟨hv, _⟩ | ⟨g', off', cap', hv, _, _, hc⟩
  · cases hv
  · cases hv
    intro j u hj
    rw [addr_add]
    exact hc j u hj
end Go.Proofs.YteddkgpnklfppaaGreatDoor

namespace Go.Proofs
open Go.Shelf Go.Sort Go.RowKit Go.Lib
def Tryz.lays189_ren : Go.Shelf.Ren := ⟨fun | 189 => 108 | 125 => 121 | 257 => 120 | 128 => 135 | 129 => 136 | 294 => 126 | 295 => 127 | 296 => 128 | 297 => 129 | 298 => 130 | 299 => 131 | 216 => 132 | 300 => 133 | 301 => 134 | 328 => 142 | 329 => 143 | 330 => 144 | 331 => 145 | 332 => 146 | 215 => 147 | 343 => 152 | n => n, fun | 28 => 141 | 3 => 3 | 46 => 173 | 0 => 0 | 51 => 187 | 53 => 69 | 4 => 4 | 183 => 181 | 182 => 180 | 131 => 162 | 5 => 5 | 9 => 9 | 218 => 194 | 222 => 198 | 228 => 204 | 229 => 149 | n => n, fun | n => n⟩
theorem Tryz.lays189 : Go.Proofs.Lays.n189 Tryz.prog Tryz.lays189_ren := {
  mixed := by kernel_rfl
  f125 := Tryz.func121.trans (congrArg some (by kernel_rfl))
  f128 := Tryz.func135.trans (congrArg some (by kernel_rfl))
  f129 := Tryz.func136.trans (congrArg some (by kernel_rfl))
  f189 := Tryz.func108.trans (congrArg some (by kernel_rfl))
  f215 := Tryz.func147.trans (congrArg some (by kernel_rfl))
  f216 := Tryz.func132.trans (congrArg some (by kernel_rfl))
  f257 := Tryz.func120.trans (congrArg some (by kernel_rfl))
  f294 := Tryz.func126.trans (congrArg some (by kernel_rfl))
  f295 := Tryz.func127.trans (congrArg some (by kernel_rfl))
  f296 := Tryz.func128.trans (congrArg some (by kernel_rfl))
  f297 := Tryz.func129.trans (congrArg some (by kernel_rfl))
  f298 := Tryz.func130.trans (congrArg some (by kernel_rfl))
  f299 := Tryz.func131.trans (congrArg some (by kernel_rfl))
  f300 := Tryz.func133.trans (congrArg some (by kernel_rfl))
  f301 := Tryz.func134.trans (congrArg some (by kernel_rfl))
  f328 := Tryz.func142.trans (congrArg some (by kernel_rfl))
  f329 := Tryz.func143.trans (congrArg some (by kernel_rfl))
  f330 := Tryz.func144.trans (congrArg some (by kernel_rfl))
  f331 := Tryz.func145.trans (congrArg some (by kernel_rfl))
  f332 := Tryz.func146.trans (congrArg some (by kernel_rfl))
  f343 := Tryz.func152.trans (congrArg some (by kernel_rfl))
  t0 := Tryz.underlying0
  a0 := Tryz.isAgg0
  z0 := Tryz.sizeOf0
  v0 := Tryz.zeroValue0
  t3 := Tryz.underlying3
  a3 := Tryz.isAgg3
  z3 := Tryz.sizeOf3
  v3 := Tryz.zeroValue3
  t4 := Tryz.underlying4
  a4 := Tryz.isAgg4
  z4 := Tryz.sizeOf4
  v4 := Tryz.zeroValue4
  t5 := Tryz.underlying5
  a5 := Tryz.isAgg5
  z5 := Tryz.sizeOf5
  v5 := Tryz.zeroValue5
  t9 := Tryz.underlying9
  a9 := Tryz.isAgg9
  z9 := Tryz.sizeOf9
  v9 := Tryz.zeroValue9
  t28 := Tryz.underlying141
  a28 := Tryz.isAgg141
  z28 := Tryz.sizeOf141
  v28 := Tryz.zeroValue141
  t46 := Tryz.underlying173
  a46 := Tryz.isAgg173
  z46 := Tryz.sizeOf173
  v46 := Tryz.zeroValue173
  t51 := Tryz.underlying187
  a51 := Tryz.isAgg187
  z51 := Tryz.sizeOf187
  v51 := Tryz.zeroValue187
  t53 := Tryz.underlying69
  a53 := Tryz.isAgg69
  z53 := Tryz.sizeOf69
  v53 := Tryz.zeroValue69
  t131 := Tryz.underlying162
  a131 := Tryz.isAgg162
  z131 := Tryz.sizeOf162
  v131 := Tryz.zeroValue162
  t182 := Tryz.underlying180
  a182 := Tryz.isAgg180
  z182 := Tryz.sizeOf180
  v182 := Tryz.zeroValue180
  t183 := Tryz.underlying181
  a183 := Tryz.isAgg181
  z183 := Tryz.sizeOf181
  v183 := Tryz.zeroValue181
  t218 := Tryz.underlying194
  a218 := Tryz.isAgg194
  z218 := Tryz.sizeOf194
  v218 := Tryz.zeroValue194
  t222 := Tryz.underlying198
  a222 := Tryz.isAgg198
  z222 := Tryz.sizeOf198
  v222 := Tryz.zeroValue198
  t228 := Tryz.underlying204
  a228 := Tryz.isAgg204
  z228 := Tryz.sizeOf204
  v228 := Tryz.zeroValue204
  t229 := Tryz.underlying149
  a229 := Tryz.isAgg149
  z229 := Tryz.sizeOf149
  v229 := Tryz.zeroValue149 }
open Go.Sort Go.RowKit in
theorem Tryz.slices_Sort_int (blk off cap : Nat) (zs : List Int) (w : World) (hH : Holds (Value.int .i64) w blk off zs.toArray) (hblk : blk < w.heap.size) (hsz : zs.length < 4611686018427387904) :
    Calls Tryz.prog 108 #[.slice (some ⟨blk, off, none⟩) zs.length cap] w fun e w' =>
      e = .returned (.tuple #[]) ∧ ∃ n os, w' = grow (putRow (Value.int .i64) (Sort.ahead w n) blk off (zs.mergeSort fun x y => decide (x ≤ y)).toArray) os := Any.slices_Sort_int Tryz.lays189 blk off cap zs w hH hblk hsz
def Tryz.laysNm220_ren : Go.Shelf.Ren := ⟨fun | 20 => 109 | n => n, fun | 22 => 141 | 3 => 3 | 4 => 4 | 0 => 0 | n => n, fun | n => n⟩
theorem Tryz.laysNm220 : Go.Proofs.Lays2.n20 Tryz.prog Tryz.laysNm220_ren := {
  mixed := by kernel_rfl
  f20 := Tryz.func109.trans (congrArg some (by kernel_rfl))
  t0 := Tryz.underlying0
  a0 := Tryz.isAgg0
  z0 := Tryz.sizeOf0
  v0 := Tryz.zeroValue0
  t3 := Tryz.underlying3
  a3 := Tryz.isAgg3
  z3 := Tryz.sizeOf3
  v3 := Tryz.zeroValue3
  t4 := Tryz.underlying4
  a4 := Tryz.isAgg4
  z4 := Tryz.sizeOf4
  v4 := Tryz.zeroValue4
  t22 := Tryz.underlying141
  a22 := Tryz.isAgg141
  z22 := Tryz.sizeOf141
  v22 := Tryz.zeroValue141
  i3 := by kernel_rfl }
open Go.RowKit Go.Lib Go.Sort in
theorem Tryz.slices_Compact_int_arr (blk off cap : Nat) (d : Array Int) (w : World) (hH : Holds encI w blk off d) (hsz : d.size ≤ 9223372036854775807) (hcap : d.size ≤ cap) :
    Calls Tryz.prog 109 #[.slice (some ⟨blk, off, none⟩) d.size cap] w fun e w' => e = .returned (.slice (some ⟨blk, off, none⟩) (compactUpTo d d.size).length cap) ∧ ∃ q, w' = putRow encI (Sort.ahead w q) blk off (compactUpTo d d.size ++ List.replicate (d.size - (compactUpTo d d.size).length) 0).toArray := Any.slices_Compact_int_arr Tryz.laysNm220 blk off cap d w hH hsz hcap
open Go.RowKit Go.Lib Go.Sort in
theorem Tryz.slices_Compact_int (blk off cap : Nat) (zs : List Int) (w : World) (hH : Holds (Value.int .i64) w blk off zs.toArray) (hsz : zs.length ≤ 9223372036854775807) (hcap : zs.length ≤ cap) :
    Calls Tryz.prog 109 #[.slice (some ⟨blk, off, none⟩) zs.length cap] w fun e w' => e = .returned (.slice (some ⟨blk, off, none⟩) (Lib.compact zs).length cap) ∧ ∃ q, w' = putRow (Value.int .i64) (Sort.ahead w q) blk off (Lib.compact zs ++ List.replicate (zs.length - (Lib.compact zs).length) 0).toArray := Any.slices_Compact_int Tryz.laysNm220 blk off cap zs w hH hsz hcap
open Go.RowKit Go.Lib Go.Sort in
theorem Tryz.slices_Compact_int_empty (a : Option Addr) (cap : Nat) (w : World) :
    Calls Tryz.prog 109 #[.slice a 0 cap] w fun e w' => e = .returned (.slice a 0 cap) ∧ w' = w := Any.slices_Compact_int_empty Tryz.laysNm220 a cap w
open Go.RowKit Go.Sort in
theorem Tryz.slices_Sort_int_none (p : Option Addr) (cap : Nat) (w : World) :
    Calls Tryz.prog 108 #[.slice p 0 cap] w fun e w' => e = .returned (.tuple #[]) ∧ w' = w := Any.slices_Sort_int_none Tryz.lays189 p cap w
end Go.Proofs
namespace Go.Proofs.YteddkgpnklfppaaGreatDoor
open Go.RowKit Go.Sort

/-- numbers as they lie in memory -/
def intsC (xs : List Int) : List Value := xs.map (Value.int .i64)
theorem intsC_snoc (xs : List Int) (x : Int) : intsC (xs ++ [x]) = intsC xs ++ [.int .i64 x] := by unfold intsC; simp
theorem intsC_app (xs ys : List Int) : intsC (xs ++ ys) = intsC xs ++ intsC ys := by unfold intsC; simp
theorem holds_row {w : World} {blk off cap : Nat} {d : Array Int} {k : Nat} {xs : List Int} (h : Go.Sort.Holds (Value.int .i64) w blk off d) (hlt : blk < w.heap.size) (hk : xs.length = k) (hcap : k ≤ cap) (hx : ∀ j, j < k → d[j]? = xs[j]?) (hd : k ≤ d.size) : Row w (.slice (some ⟨blk, off, none⟩) k cap) k 1 (intsC xs) := by
  refine ⟨by unfold intsC; simp [hk], .inr ⟨blk, off, cap, rfl, hcap, hlt, fun j u hj => ?_⟩⟩
  unfold intsC at hj
  rw [List.getElem?_map] at hj
  have hjl : j < xs.length := by
    by_cases hj' : j < xs.length
    · exact hj'
    · rw [List.getElem?_eq_none (by omega)] at hj; cases hj
  rw [List.getElem?_eq_getElem hjl] at hj
  simp only [Option.map_some, Option.some.injEq] at hj
  have h1 := (h j (by omega)).1
  have h2 := hx j (by omega)
  rw [List.getElem?_eq_getElem hjl] at h2
  rw [h1, ← hj, getElem!_def, h2]
/-- a slice of the call's own that holds numbers: sorted, and what is twice struck -/
theorem sortc_any {w : World} {base : Nat} {v : Value} {zs : List Int} (h : w.ownsRow base 3 1 v zs.length (intsC zs)) (hn : zs.length ≤ 1000000) :
    Calls Tryz.prog 108 #[v] w fun e w' => e = .returned (.tuple #[]) ∧ w'.ownsRow base 3 1 v zs.length (intsC (zs.mergeSort fun x y => decide (x ≤ y))) ∧ (base ≤ w.heap.size → Below base w w') := by
  rcases h.2 with ⟨rfl, h0⟩ | ⟨g, cap, cur, rfl, hbase, hb, h1, h2, h3, h4⟩
  · rw [h0]
    refine (Tryz.slices_Sort_int_none none 0 w).mono fun e w' ⟨he, hw⟩ => ?_
    subst hw
    have hz : zs = [] := List.eq_nil_of_length_eq_zero h0
    subst hz
    exact ⟨he, by simpa [intsC] using h, fun _ => Below.refl _ _⟩
  · have hH : Go.Sort.Holds (Value.int .i64) w g 0 zs.toArray := holds_of_blockI hb (by simpa [intsC] using h4)
    refine (Tryz.slices_Sort_int g 0 cap zs w hH (lt_of_block hb) (by omega)).mono fun e w' ⟨he, n, os, hw⟩ => ?_
    subst hw
    refine ⟨he, ownsRow_sortedI (by simp) hbase hb h1 h2 h3, fun hle => ?_⟩
    have hg := grownBy_sortedI (w := w) (g := g) (n := n) (os := os) (zs.mergeSort fun x y => decide (x ≤ y)).toArray
    exact (Below.refl _ _).grown hg hle (fun k hk => by cases hk; exact hbase)
theorem compactc_any {w : World} {base : Nat} {v : Value} {zs : List Int} (h : w.ownsRow base 3 1 v zs.length (intsC zs)) (hn : zs.length ≤ 1000000) :
    Calls Tryz.prog 109 #[v] w fun e w' => (∃ v', e = .returned v' ∧ Row w' v' (Lib.compact zs).length 1 (intsC (Lib.compact zs)) ∧ ∀ q, v'.ownBlock = some q → base ≤ q) ∧ (base ≤ w.heap.size → Below base w w') := by
  rcases h.2 with ⟨rfl, h0⟩ | ⟨g, cap, cur, rfl, hbase, hb, h1, h2, h3, h4⟩
  · refine (Tryz.slices_Compact_int_empty none 0 w).mono fun e w' ⟨he, hw⟩ => ?_
    subst hw
    have hz : zs = [] := List.eq_nil_of_length_eq_zero h0
    subst hz
    exact ⟨⟨_, he, Row.nil _ _, fun q hq => by simp [Value.ownBlock] at hq⟩, fun _ => Below.refl _ _⟩
  · have hH : Go.Sort.Holds (Value.int .i64) w g 0 zs.toArray := holds_of_blockI hb (by simpa [intsC] using h4)
    refine (Tryz.slices_Compact_int g 0 cap zs w hH (by omega) h1).mono fun e w' ⟨he, q, hw⟩ => ?_
    subst hw
    have hle : (Lib.compact zs).length ≤ zs.length := by
      unfold Lib.compact Lib.compactUpTo
      rw [List.length_map]
      exact Nat.le_trans (List.length_filter_le _ _) (by simp)
    have hsz : ((Lib.compact zs ++ List.replicate (zs.length - (Lib.compact zs).length) 0).toArray).size = zs.toArray.size := by
      simp; omega
    have hgr := grownBy_sortedI (w := w) (g := g) (n := q) (os := #[]) (Lib.compact zs ++ List.replicate (zs.length - (Lib.compact zs).length) 0).toArray
    rw [grow_empty] at hgr
    refine ⟨⟨_, he, holds_row (holds_putRow _ _ _ _ _ _ (holds_ahead _ w q _ _ _ hH) hsz) (Nat.lt_of_lt_of_le (lt_of_block hb) hgr.size) rfl (by omega) (fun j hj => ?_) (by rw [hsz]; simpa using hle), fun p hp => by cases hp; exact hbase⟩, fun hle2 => ?_⟩
    · rw [List.getElem?_toArray, List.getElem?_append_left hj]
    · exact (Below.refl _ _).grown hgr hle2 (fun k hk => by cases hk; exact hbase)

end Go.Proofs.YteddkgpnklfppaaGreatDoor
