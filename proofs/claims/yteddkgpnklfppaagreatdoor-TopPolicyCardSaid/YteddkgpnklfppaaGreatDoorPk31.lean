/-
  The walk of TopPolicy where the text has rules, the rectangle with the point (printed by gentpol.py).
-/
import Derived.Test.YteddkgpnklfppaaGreatDoorPk29
import Derived.Deep.RegionHeld3

namespace Go.Proofs.YteddkgpnklfppaaGreatDoor
open Go.RowKit Go.Sort Go.Maps

set_option maxRecDepth 100000 in
set_option maxHeartbeats 16000000 in
theorem tpolicy_tl {s t : ByteArray} {w : World} {ds : List Po.Decl} {rs : List Ru.Rule} (a b c x y x0 y0 x1 y1 z o : Int) (hl : rs.length ≤ 32) (hF : Few rs) (hok : Ru.rulesR rs = true)
    (hz1 : zoomT rs a b c x y = z) (hz2 : Ru.zoomV rs a b c x y = z) (hbx : Ru.boxHas ⟨x0, y0, x1, y1⟩ x y = true) (ho : ofT rs a b c ⟨x0, y0, x1, y1⟩ = o) (hoz : o ≤ z) 
    (hrd : ∀ w1 : World, Calls Tryz.prog 4 #[.string s] w1 fun e w' => (∃ v, e = .returned (.tuple #[v, .agg #[.int .i64 0, .int .i64 0, .int .i64 0]]) ∧ (∀ w'', Above w1.heap.size w' w'' → RSl w'' v rs)) ∧ Below w1.heap.size w1 w')
    (hpa : ∀ w1 : World, Calls Tryz.prog 11 #[.string s] w1 fun e w' => (∃ v, e = .returned (.tuple #[v, .agg #[.int .i64 0, .int .i64 0, .int .i64 0]]) ∧ DSl w' v ds) ∧ Below w1.heap.size w1 w')
    (hpr : ∀ (w1 : World) (v : Value), Below w.heap.size w w1 → DSl w1 v ds → Calls Tryz.prog 12 #[v] w1 fun e w' => e = .returned (.string t) ∧ Below w1.heap.size w1 w')
    (hrt : ∀ w1 : World, Calls Tryz.prog 4 #[.string t] w1 fun e w' => e = .returned (.tuple #[.slice none 0 0, .agg #[.int .i64 2, .int .i64 1, .int .i64 1]]) ∧ Below w1.heap.size w1 w') :
    Calls Tryz.prog 3 #[.string s, .agg #[.int .i64 a, .int .i64 b, .int .i64 c], .agg #[.int .i64 x, .int .i64 y], .agg #[.int .i64 x0, .int .i64 y0, .int .i64 x1, .int .i64 y1]] w fun e w' => e = .returned (.bool true) ∧ Below w.heap.size w w' := by
  have a1 := balloc w (.cells #[.int .i64 a, .int .i64 b, .int .i64 c] 23)
  have a2 := balloc (w.alloc (.cells #[.int .i64 a, .int .i64 b, .int .i64 c] 23)) (.cells #[.int .i64 x, .int .i64 y] 25)
  have a3 := balloc ((w.alloc (.cells #[.int .i64 a, .int .i64 b, .int .i64 c] 23)).alloc (.cells #[.int .i64 x, .int .i64 y] 25)) (.cells #[.int .i64 x0, .int .i64 y0, .int .i64 x1, .int .i64 y1] 27)
  have Q0 := hid (bthen (bthen a1 a2) a3)
  have A0 := hid (show Args3 _ w.heap.size a b c x y x0 y0 x1 y1 from
    ⟨((Blk.new w #[.int .i64 a, .int .i64 b, .int .i64 c] 23).ext a2).ext a3,
      (Blk.newAt (w := w.alloc (.cells #[.int .i64 a, .int .i64 b, .int .i64 c] 23)) (k := w.heap.size + 1) (by simp) #[.int .i64 x, .int .i64 y] 25).ext a3,
      Blk.newAt (w := (w.alloc (.cells #[.int .i64 a, .int .i64 b, .int .i64 c] 23)).alloc (.cells #[.int .i64 x, .int .i64 y] 25)) (k := w.heap.size + 1 + 1) (by simp) #[.int .i64 x0, .int .i64 y0, .int .i64 x1, .int .i64 y1] 27⟩)
  have hl' := hid hl
  have hF' := hid hF
  have hok' := hid hok
  have Z1 := hid hz1
  have hzm : Hid (∀ (w1 : World) (v : Value), RSl w1 v rs → Calls Tryz.prog 8 #[v, .int .i64 a, .int .i64 b, .int .i64 c, .agg #[.int .i64 x, .int .i64 y]] w1 fun e w' => e = .returned (.int .i64 z) ∧ Below w1.heap.size w1 w') := hid (fun w1 v h => by
    have h2 := zoom_any a b c x y h (by omega)
    rw [hz2] at h2
    exact h2)
  have hbh : Hid (∀ w1 : World, Calls Tryz.prog 9 #[.agg #[.int .i64 x0, .int .i64 y0, .int .i64 x1, .int .i64 y1], .agg #[.int .i64 x, .int .i64 y]] w1 fun e w' => e = .returned (.bool true) ∧ Below w1.heap.size w1 w') := hid (fun w1 => by
    have h2 := has_any ⟨x0, y0, x1, y1⟩ x y w1
    rw [hbx] at h2
    exact h2)
  have htz : Hid (∀ (w1 : World) (lo tb mb n : Nat), Tab w1 lo tb mb rs n → n ≤ 1000 → Calls Tryz.prog 7 #[.pointer (some ⟨tb, 0, none⟩), .int .i64 a, .int .i64 b, .int .i64 c, .agg #[.int .i64 x, .int .i64 y]] w1 (ZoomPost w1 lo tb mb rs n z)) := hid (fun w1 lo tb mb n h hn => by
    have h2 := tzoom_any h hn a b c x y
    rw [hz1] at h2
    exact h2)
  have hto : Hid (∀ (w1 : World) (lo tb mb n : Nat), Tab w1 lo tb mb rs n → n ≤ 1000 → Calls Tryz.prog 10 #[.pointer (some ⟨tb, 0, none⟩), .int .i64 a, .int .i64 b, .int .i64 c, .agg #[.int .i64 x0, .int .i64 y0, .int .i64 x1, .int .i64 y1]] w1 (ZoomPost w1 lo tb mb rs n o)) := hid (fun w1 lo tb mb n h hn => by
    have h2 := tof_any h hn a b c ⟨x0, y0, x1, y1⟩
    rw [ho] at h2
    exact h2)
  have hoz' : ¬ (z < o) := by omega
  have hrd' := hid hrd
  have hpa' := hid hpa
  have hpr' := hid hpr
  have hrt' := hid hrt
  have hln := hid (patches_len hF a b c)
  have hl2 := hid (show (patchesT rs a b c).length ≤ 7000000 by unfold patchesT; split; exact hln.out; simp)
  unfold ZoomPost at *
  clear a1 a2 a3 hl hF hok hz1 hz2 hbx hrd hpa hpr hrt hln ho hoz 
  go_enter Tryz.func3, Tryz.ntmps3
  go_wp2_with fail
  refine (hrd'.out _).mono ?_
  rintro e w1 ⟨⟨v, rfl, hrs⟩, hb1⟩
  have a4 := balloc w1 (.cells #[.int .i64 0, .int .i64 0, .int .i64 0] 33)
  have R1 := hid (hrs _ (Above.below a4))
  have Q1 := hid (bthen (bthen Q0.out hb1) a4)
  have A1 := hid ((A0.out.ext hb1).ext a4)
  have F1 := hid (Blk.new w1 #[.int .i64 0, .int .i64 0, .int .i64 0] 33)
  obtain ⟨vp, vc, hvv⟩ : ∃ p c, v = .slice p rs.length c := by
    rcases R1.out with ⟨rfl, rfl⟩ | ⟨g, off, cap, rfl, _⟩
    · exact ⟨_, _, rfl⟩
    · exact ⟨_, _, rfl⟩
  subst hvv
  have hvw := hid (show w.heap.size + 1 + 1 < (w1.alloc (.cells #[.int .i64 0, .int .i64 0, .int .i64 0] 33)).heap.size from A1.out.r.lt)
  clear a4 hb1 hrs A0 Q0 hrd'
  go_wp2_with fail
  generalize w1.alloc (.cells #[.int .i64 0, .int .i64 0, .int .i64 0] 33) = wf at *
  refine (new_any R1.out hl'.out hF'.out hok'.out).mono ?_
  rintro e w2 ⟨⟨tb, mb, rfl, hT⟩, hb2⟩
  have T2 := hid hT
  have hmf := hT.low.2
  have QF := hid hb2
  have A2 := hid (A1.out.ext hb2)
  have hmv : w.heap.size + 1 + 1 < mb := Nat.lt_of_lt_of_le hvw.out hmf
  have hmw : w.heap.size ≤ mb := by omega
  have hwf := Q1.out.size
  have QW := hid (fun (w' : World) (h : Below wf.heap.size wf w') => (show Below w.heap.size w w' from Q1.out.trans (h.mono hwf)))
  clear hT hb2 A1 F1
  generalize hvb : w.heap.size = vb at *
  have hvb' := hid hvb
  clear hvb
  go_upto_region 5 with (fail)
  have T2d := hid (T2.out.ext ((Below.refl w2.heap.size w2).drew))
  have QFd := hid (QF.out.drew)
  have A2d := hid (A2.out.ext ((Below.refl w2.heap.size w2).drew))
  have F2 : w2.cell? ⟨vb, 0, none⟩ = some (.int .i64 a) ∧ w2.cell? ⟨vb, 1, none⟩ = some (.int .i64 b) ∧ w2.cell? ⟨vb, 2, none⟩ = some (.int .i64 c) ∧ w2.cell? ⟨vb + 1, 0, none⟩ = some (.int .i64 x) ∧ w2.cell? ⟨vb + 1, 1, none⟩ = some (.int .i64 y) := ⟨A2.out.v.cell 0 rfl, A2.out.v.cell 1 rfl, A2.out.v.cell 2 rfl, A2.out.p.cell 0 rfl, A2.out.p.cell 1 rfl⟩
  have F2d : w2.drew.cell? ⟨vb, 0, none⟩ = some (.int .i64 a) ∧ w2.drew.cell? ⟨vb, 1, none⟩ = some (.int .i64 b) ∧ w2.drew.cell? ⟨vb, 2, none⟩ = some (.int .i64 c) ∧ w2.drew.cell? ⟨vb + 1, 0, none⟩ = some (.int .i64 x) ∧ w2.drew.cell? ⟨vb + 1, 1, none⟩ = some (.int .i64 y) := F2
  clear T2 QF A2
  go_region_held3 (fun w' => w'.cell? ⟨vb, 0, none⟩ = some (.int .i64 a) ∧ w'.cell? ⟨vb, 1, none⟩ = some (.int .i64 b) ∧ w'.cell? ⟨vb, 2, none⟩ = some (.int .i64 c) ∧ w'.cell? ⟨vb + 1, 0, none⟩ = some (.int .i64 x) ∧ w'.cell? ⟨vb + 1, 1, none⟩ = some (.int .i64 y)) (first | with_reducible assumption | go_keep) (first
    | ((go_at_call 7
        with_reducible refine (htz.out w2.drew wf.heap.size tb mb 0 T2d.out (by decide)).mono ?_
        rintro en w5 ⟨rfl, hT5, ht5⟩
        have T5 := hid hT5
        have QF5 := hid (QFd.out.trans (ht5.to_below QFd.out.size hmf))
        have A5 := hid (A2d.out.touch ht5 hmv)
        have R5 := hid (R1.out.ext QF5.out)
        have F5 : w5.cell? ⟨vb, 0, none⟩ = some (.int .i64 a) ∧ w5.cell? ⟨vb, 1, none⟩ = some (.int .i64 b) ∧ w5.cell? ⟨vb, 2, none⟩ = some (.int .i64 c) ∧ w5.cell? ⟨vb + 1, 0, none⟩ = some (.int .i64 x) ∧ w5.cell? ⟨vb + 1, 1, none⟩ = some (.int .i64 y) := ⟨A5.out.v.cell 0 rfl, A5.out.v.cell 1 rfl, A5.out.v.cell 2 rfl, A5.out.p.cell 0 rfl, A5.out.p.cell 1 rfl⟩
        clear hT5 ht5 F2 F2d T2d QFd A2d))
    | ((go_at_call 8
        with_reducible refine (hzm.out w5 _ R5.out).mono ?_
        rintro en w6 ⟨rfl, hb6⟩
        have T6 := hid (T5.out.ext hb6)
        have QF6 := hid (bthen QF5.out hb6)
        have A6 := hid (A5.out.ext hb6)
        have F6 : w6.cell? ⟨vb, 0, none⟩ = some (.int .i64 a) ∧ w6.cell? ⟨vb, 1, none⟩ = some (.int .i64 b) ∧ w6.cell? ⟨vb, 2, none⟩ = some (.int .i64 c) ∧ w6.cell? ⟨vb + 1, 0, none⟩ = some (.int .i64 x) ∧ w6.cell? ⟨vb + 1, 1, none⟩ = some (.int .i64 y) := ⟨A6.out.v.cell 0 rfl, A6.out.v.cell 1 rfl, A6.out.v.cell 2 rfl, A6.out.p.cell 0 rfl, A6.out.p.cell 1 rfl⟩
        clear hb6 F5 T5 QF5 A5 R5)))
  clear F6
  go_upto_region 7 with (fail)

  have T6d := hid (T6.out.ext ((Below.refl w6.heap.size w6).drew))
  have QFe := hid (QF6.out.drew)
  have A6d := hid (A6.out.ext ((Below.refl w6.heap.size w6).drew))
  have F7 : w6.cell? ⟨vb, 0, none⟩ = some (.int .i64 a) ∧ w6.cell? ⟨vb, 1, none⟩ = some (.int .i64 b) ∧ w6.cell? ⟨vb, 2, none⟩ = some (.int .i64 c) ∧ w6.cell? ⟨vb + 1, 0, none⟩ = some (.int .i64 x) ∧ w6.cell? ⟨vb + 1, 1, none⟩ = some (.int .i64 y) ∧ w6.cell? ⟨vb + 1 + 1, 0, none⟩ = some (.int .i64 x0) ∧ w6.cell? ⟨vb + 1 + 1, 1, none⟩ = some (.int .i64 y0) ∧ w6.cell? ⟨vb + 1 + 1, 2, none⟩ = some (.int .i64 x1) ∧ w6.cell? ⟨vb + 1 + 1, 3, none⟩ = some (.int .i64 y1) := ⟨A6.out.v.cell 0 rfl, A6.out.v.cell 1 rfl, A6.out.v.cell 2 rfl, A6.out.p.cell 0 rfl, A6.out.p.cell 1 rfl, A6.out.r.cell 0 rfl, A6.out.r.cell 1 rfl, A6.out.r.cell 2 rfl, A6.out.r.cell 3 rfl⟩
  have F7d : w6.drew.cell? ⟨vb, 0, none⟩ = some (.int .i64 a) ∧ w6.drew.cell? ⟨vb, 1, none⟩ = some (.int .i64 b) ∧ w6.drew.cell? ⟨vb, 2, none⟩ = some (.int .i64 c) ∧ w6.drew.cell? ⟨vb + 1, 0, none⟩ = some (.int .i64 x) ∧ w6.drew.cell? ⟨vb + 1, 1, none⟩ = some (.int .i64 y) ∧ w6.drew.cell? ⟨vb + 1 + 1, 0, none⟩ = some (.int .i64 x0) ∧ w6.drew.cell? ⟨vb + 1 + 1, 1, none⟩ = some (.int .i64 y0) ∧ w6.drew.cell? ⟨vb + 1 + 1, 2, none⟩ = some (.int .i64 x1) ∧ w6.drew.cell? ⟨vb + 1 + 1, 3, none⟩ = some (.int .i64 y1) := F7
  clear T6 QF6 A6
  go_region_held3 (fun w' => w'.cell? ⟨vb, 0, none⟩ = some (.int .i64 a) ∧ w'.cell? ⟨vb, 1, none⟩ = some (.int .i64 b) ∧ w'.cell? ⟨vb, 2, none⟩ = some (.int .i64 c) ∧ w'.cell? ⟨vb + 1, 0, none⟩ = some (.int .i64 x) ∧ w'.cell? ⟨vb + 1, 1, none⟩ = some (.int .i64 y) ∧ w'.cell? ⟨vb + 1 + 1, 0, none⟩ = some (.int .i64 x0) ∧ w'.cell? ⟨vb + 1 + 1, 1, none⟩ = some (.int .i64 y0) ∧ w'.cell? ⟨vb + 1 + 1, 2, none⟩ = some (.int .i64 x1) ∧ w'.cell? ⟨vb + 1 + 1, 3, none⟩ = some (.int .i64 y1)) (first | with_reducible assumption | go_keep) (first
    | ((go_at_call 9
        with_reducible refine (hbh.out w6.drew).mono ?_
        rintro en w7 ⟨rfl, hb7⟩
        have T7 := hid (T6d.out.ext hb7)
        have QF7 := hid (bthen QFe.out hb7)
        have A7 := hid (A6d.out.ext hb7)
        have F8 : w7.cell? ⟨vb, 0, none⟩ = some (.int .i64 a) ∧ w7.cell? ⟨vb, 1, none⟩ = some (.int .i64 b) ∧ w7.cell? ⟨vb, 2, none⟩ = some (.int .i64 c) ∧ w7.cell? ⟨vb + 1, 0, none⟩ = some (.int .i64 x) ∧ w7.cell? ⟨vb + 1, 1, none⟩ = some (.int .i64 y) ∧ w7.cell? ⟨vb + 1 + 1, 0, none⟩ = some (.int .i64 x0) ∧ w7.cell? ⟨vb + 1 + 1, 1, none⟩ = some (.int .i64 y0) ∧ w7.cell? ⟨vb + 1 + 1, 2, none⟩ = some (.int .i64 x1) ∧ w7.cell? ⟨vb + 1 + 1, 3, none⟩ = some (.int .i64 y1) := ⟨A7.out.v.cell 0 rfl, A7.out.v.cell 1 rfl, A7.out.v.cell 2 rfl, A7.out.p.cell 0 rfl, A7.out.p.cell 1 rfl, A7.out.r.cell 0 rfl, A7.out.r.cell 1 rfl, A7.out.r.cell 2 rfl, A7.out.r.cell 3 rfl⟩
        clear hb7 F7 F7d T6d QFe A6d))
    | ((go_at_call 10
        with_reducible refine (hto.out w7 wf.heap.size tb mb 1 T7.out (by decide)).mono ?_
        rintro en w8 ⟨rfl, hT8, ht8⟩
        have T8 := hid hT8
        have QF8 := hid (QF7.out.trans (ht8.to_below QF7.out.size hmf))
        have A8 := hid (A7.out.touch ht8 hmv)
        have F9 : w8.cell? ⟨vb, 0, none⟩ = some (.int .i64 a) ∧ w8.cell? ⟨vb, 1, none⟩ = some (.int .i64 b) ∧ w8.cell? ⟨vb, 2, none⟩ = some (.int .i64 c) ∧ w8.cell? ⟨vb + 1, 0, none⟩ = some (.int .i64 x) ∧ w8.cell? ⟨vb + 1, 1, none⟩ = some (.int .i64 y) ∧ w8.cell? ⟨vb + 1 + 1, 0, none⟩ = some (.int .i64 x0) ∧ w8.cell? ⟨vb + 1 + 1, 1, none⟩ = some (.int .i64 y0) ∧ w8.cell? ⟨vb + 1 + 1, 2, none⟩ = some (.int .i64 x1) ∧ w8.cell? ⟨vb + 1 + 1, 3, none⟩ = some (.int .i64 y1) := ⟨A8.out.v.cell 0 rfl, A8.out.v.cell 1 rfl, A8.out.v.cell 2 rfl, A8.out.p.cell 0 rfl, A8.out.p.cell 1 rfl, A8.out.r.cell 0 rfl, A8.out.r.cell 1 rfl, A8.out.r.cell 2 rfl, A8.out.r.cell 3 rfl⟩
        clear hT8 ht8 F8 T7 QF7 A7))
    | ((go_at_call 7
        with_reducible refine (htz.out w8 wf.heap.size tb mb 2 T8.out (by decide)).mono ?_
        rintro en w9 ⟨rfl, hT9, ht9⟩
        have T9 := hid hT9
        have QF9 := hid (QF8.out.trans (ht9.to_below QF8.out.size hmf))
        have A9 := hid (A8.out.touch ht9 hmv)
        have F10 : w9.cell? ⟨vb, 0, none⟩ = some (.int .i64 a) ∧ w9.cell? ⟨vb, 1, none⟩ = some (.int .i64 b) ∧ w9.cell? ⟨vb, 2, none⟩ = some (.int .i64 c) ∧ w9.cell? ⟨vb + 1, 0, none⟩ = some (.int .i64 x) ∧ w9.cell? ⟨vb + 1, 1, none⟩ = some (.int .i64 y) ∧ w9.cell? ⟨vb + 1 + 1, 0, none⟩ = some (.int .i64 x0) ∧ w9.cell? ⟨vb + 1 + 1, 1, none⟩ = some (.int .i64 y0) ∧ w9.cell? ⟨vb + 1 + 1, 2, none⟩ = some (.int .i64 x1) ∧ w9.cell? ⟨vb + 1 + 1, 3, none⟩ = some (.int .i64 y1) := ⟨A9.out.v.cell 0 rfl, A9.out.v.cell 1 rfl, A9.out.v.cell 2 rfl, A9.out.p.cell 0 rfl, A9.out.p.cell 1 rfl, A9.out.r.cell 0 rfl, A9.out.r.cell 1 rfl, A9.out.r.cell 2 rfl, A9.out.r.cell 3 rfl⟩
        clear hT9 ht9 F9 T8 QF8 A8)))
  clear F10
  go_wp2_with fail
  refine (hpa'.out _).mono ?_
  rintro e wa ⟨⟨dv, rfl, hds⟩, hba⟩
  have a5 := balloc wa (.cells #[.int .i64 0, .int .i64 0, .int .i64 0] 33)
  have Ta := hid ((T9.out.ext hba).ext a5)
  have QFa := hid (bthen (bthen QF9.out hba) a5)
  have Aa := hid ((A9.out.ext hba).ext a5)
  have Da := hid (hds.ext a5)
  have Fa := hid (Blk.new wa #[.int .i64 0, .int .i64 0, .int .i64 0] 33)
  obtain ⟨dp, dc, rfl⟩ := hds.shape
  clear a5 hba hds T9 QF9 A9 hpa'
  go_wp2_with fail
  generalize wa.alloc (.cells #[.int .i64 0, .int .i64 0, .int .i64 0] 33) = wb at *
  generalize wa.heap.size = fa at *
  refine (hpr'.out wb _ (QW.out wb QFa.out) Da.out).mono ?_
  rintro e wc ⟨rfl, hbc⟩
  have Tc := hid (Ta.out.ext hbc)
  have QFc := hid (bthen QFa.out hbc)
  have Ac := hid (Aa.out.ext hbc)
  have Fc := hid (Fa.out.ext hbc)
  clear hbc Ta QFa Aa Fa Da hpr'
  go_wp2_with fail
  refine (hrt'.out _).mono ?_
  rintro e wd ⟨rfl, hbd⟩
  have a6 := balloc wd (.cells #[.int .i64 2, .int .i64 1, .int .i64 1] 33)
  have QFd := hid (bthen (bthen QFc.out hbd) a6)
  have Fd := hid ((Fc.out.ext hbd).ext a6)
  have Fe := hid (Blk.new wd #[.int .i64 2, .int .i64 1, .int .i64 1] 33)
  have g1 := Fd.out.cell 0 (v := .int .i64 0) rfl
  have g2 := Fe.out.cell 0 (v := .int .i64 2) rfl
  clear a6 hbd Tc QFc Ac Fc
  go_wp2_with fail
  refine (allowed_any _).mono ?_
  rintro e we ⟨rfl, hbe⟩
  have QFe2 := hid (bthen QFd.out hbe)
  clear hbe g1 g2
  go_wp2_with fail
  go_ret
  exact ⟨rfl, by rw [hvb'.out]; exact QW.out _ QFe2.out⟩

set_option maxRecDepth 100000 in
set_option maxHeartbeats 16000000 in
theorem tpolicy_ts {s t : ByteArray} {w : World} {ds : List Po.Decl} {rs : List Ru.Rule} (a b c x y x0 y0 x1 y1 z o : Int) (hl : rs.length ≤ 32) (hF : Few rs) (hok : Ru.rulesR rs = true)
    (hz1 : zoomT rs a b c x y = z) (hz2 : Ru.zoomV rs a b c x y = z) (hbx : Ru.boxHas ⟨x0, y0, x1, y1⟩ x y = true) (ho : ofT rs a b c ⟨x0, y0, x1, y1⟩ = o) (hoz : o ≤ z) 
    (hrd : ∀ w1 : World, Calls Tryz.prog 4 #[.string s] w1 fun e w' => (∃ v, e = .returned (.tuple #[v, .agg #[.int .i64 0, .int .i64 0, .int .i64 0]]) ∧ (∀ w'', Above w1.heap.size w' w'' → RSl w'' v rs)) ∧ Below w1.heap.size w1 w')
    (hpa : ∀ w1 : World, Calls Tryz.prog 11 #[.string s] w1 fun e w' => (∃ v, e = .returned (.tuple #[v, .agg #[.int .i64 0, .int .i64 0, .int .i64 0]]) ∧ DSl w' v ds) ∧ Below w1.heap.size w1 w')
    (hpr : ∀ (w1 : World) (v : Value), Below w.heap.size w w1 → DSl w1 v ds → Calls Tryz.prog 12 #[v] w1 fun e w' => e = .returned (.string t) ∧ Below w1.heap.size w1 w')
    (hrt : ∀ w1 : World, Calls Tryz.prog 4 #[.string t] w1 fun e w' => (∃ v, e = .returned (.tuple #[v, .agg #[.int .i64 0, .int .i64 0, .int .i64 0]]) ∧ (∀ w'', Above w1.heap.size w' w'' → RSl w'' v rs)) ∧ Below w1.heap.size w1 w') :
    Calls Tryz.prog 3 #[.string s, .agg #[.int .i64 a, .int .i64 b, .int .i64 c], .agg #[.int .i64 x, .int .i64 y], .agg #[.int .i64 x0, .int .i64 y0, .int .i64 x1, .int .i64 y1]] w fun e w' => e = .returned (.bool true) ∧ Below w.heap.size w w' := by
  have a1 := balloc w (.cells #[.int .i64 a, .int .i64 b, .int .i64 c] 23)
  have a2 := balloc (w.alloc (.cells #[.int .i64 a, .int .i64 b, .int .i64 c] 23)) (.cells #[.int .i64 x, .int .i64 y] 25)
  have a3 := balloc ((w.alloc (.cells #[.int .i64 a, .int .i64 b, .int .i64 c] 23)).alloc (.cells #[.int .i64 x, .int .i64 y] 25)) (.cells #[.int .i64 x0, .int .i64 y0, .int .i64 x1, .int .i64 y1] 27)
  have Q0 := hid (bthen (bthen a1 a2) a3)
  have A0 := hid (show Args3 _ w.heap.size a b c x y x0 y0 x1 y1 from
    ⟨((Blk.new w #[.int .i64 a, .int .i64 b, .int .i64 c] 23).ext a2).ext a3,
      (Blk.newAt (w := w.alloc (.cells #[.int .i64 a, .int .i64 b, .int .i64 c] 23)) (k := w.heap.size + 1) (by simp) #[.int .i64 x, .int .i64 y] 25).ext a3,
      Blk.newAt (w := (w.alloc (.cells #[.int .i64 a, .int .i64 b, .int .i64 c] 23)).alloc (.cells #[.int .i64 x, .int .i64 y] 25)) (k := w.heap.size + 1 + 1) (by simp) #[.int .i64 x0, .int .i64 y0, .int .i64 x1, .int .i64 y1] 27⟩)
  have hl' := hid hl
  have hF' := hid hF
  have hok' := hid hok
  have Z1 := hid hz1
  have hzm : Hid (∀ (w1 : World) (v : Value), RSl w1 v rs → Calls Tryz.prog 8 #[v, .int .i64 a, .int .i64 b, .int .i64 c, .agg #[.int .i64 x, .int .i64 y]] w1 fun e w' => e = .returned (.int .i64 z) ∧ Below w1.heap.size w1 w') := hid (fun w1 v h => by
    have h2 := zoom_any a b c x y h (by omega)
    rw [hz2] at h2
    exact h2)
  have hbh : Hid (∀ w1 : World, Calls Tryz.prog 9 #[.agg #[.int .i64 x0, .int .i64 y0, .int .i64 x1, .int .i64 y1], .agg #[.int .i64 x, .int .i64 y]] w1 fun e w' => e = .returned (.bool true) ∧ Below w1.heap.size w1 w') := hid (fun w1 => by
    have h2 := has_any ⟨x0, y0, x1, y1⟩ x y w1
    rw [hbx] at h2
    exact h2)
  have htz : Hid (∀ (w1 : World) (lo tb mb n : Nat), Tab w1 lo tb mb rs n → n ≤ 1000 → Calls Tryz.prog 7 #[.pointer (some ⟨tb, 0, none⟩), .int .i64 a, .int .i64 b, .int .i64 c, .agg #[.int .i64 x, .int .i64 y]] w1 (ZoomPost w1 lo tb mb rs n z)) := hid (fun w1 lo tb mb n h hn => by
    have h2 := tzoom_any h hn a b c x y
    rw [hz1] at h2
    exact h2)
  have hto : Hid (∀ (w1 : World) (lo tb mb n : Nat), Tab w1 lo tb mb rs n → n ≤ 1000 → Calls Tryz.prog 10 #[.pointer (some ⟨tb, 0, none⟩), .int .i64 a, .int .i64 b, .int .i64 c, .agg #[.int .i64 x0, .int .i64 y0, .int .i64 x1, .int .i64 y1]] w1 (ZoomPost w1 lo tb mb rs n o)) := hid (fun w1 lo tb mb n h hn => by
    have h2 := tof_any h hn a b c ⟨x0, y0, x1, y1⟩
    rw [ho] at h2
    exact h2)
  have hoz' : ¬ (z < o) := by omega
  have hrd' := hid hrd
  have hpa' := hid hpa
  have hpr' := hid hpr
  have hrt' := hid hrt
  have hln := hid (patches_len hF a b c)
  have hl2 := hid (show (patchesT rs a b c).length ≤ 7000000 by unfold patchesT; split; exact hln.out; simp)
  unfold ZoomPost at *
  clear a1 a2 a3 hl hF hok hz1 hz2 hbx hrd hpa hpr hrt hln ho hoz 
  go_enter Tryz.func3, Tryz.ntmps3
  go_wp2_with fail
  refine (hrd'.out _).mono ?_
  rintro e w1 ⟨⟨v, rfl, hrs⟩, hb1⟩
  have a4 := balloc w1 (.cells #[.int .i64 0, .int .i64 0, .int .i64 0] 33)
  have R1 := hid (hrs _ (Above.below a4))
  have Q1 := hid (bthen (bthen Q0.out hb1) a4)
  have A1 := hid ((A0.out.ext hb1).ext a4)
  have F1 := hid (Blk.new w1 #[.int .i64 0, .int .i64 0, .int .i64 0] 33)
  obtain ⟨vp, vc, hvv⟩ : ∃ p c, v = .slice p rs.length c := by
    rcases R1.out with ⟨rfl, rfl⟩ | ⟨g, off, cap, rfl, _⟩
    · exact ⟨_, _, rfl⟩
    · exact ⟨_, _, rfl⟩
  subst hvv
  have hvw := hid (show w.heap.size + 1 + 1 < (w1.alloc (.cells #[.int .i64 0, .int .i64 0, .int .i64 0] 33)).heap.size from A1.out.r.lt)
  clear a4 hb1 hrs A0 Q0 hrd'
  go_wp2_with fail
  generalize w1.alloc (.cells #[.int .i64 0, .int .i64 0, .int .i64 0] 33) = wf at *
  refine (new_any R1.out hl'.out hF'.out hok'.out).mono ?_
  rintro e w2 ⟨⟨tb, mb, rfl, hT⟩, hb2⟩
  have T2 := hid hT
  have hmf := hT.low.2
  have QF := hid hb2
  have A2 := hid (A1.out.ext hb2)
  have hmv : w.heap.size + 1 + 1 < mb := Nat.lt_of_lt_of_le hvw.out hmf
  have hmw : w.heap.size ≤ mb := by omega
  have hwf := Q1.out.size
  have QW := hid (fun (w' : World) (h : Below wf.heap.size wf w') => (show Below w.heap.size w w' from Q1.out.trans (h.mono hwf)))
  clear hT hb2 A1 F1
  generalize hvb : w.heap.size = vb at *
  have hvb' := hid hvb
  clear hvb
  go_upto_region 5 with (fail)
  have T2d := hid (T2.out.ext ((Below.refl w2.heap.size w2).drew))
  have QFd := hid (QF.out.drew)
  have A2d := hid (A2.out.ext ((Below.refl w2.heap.size w2).drew))
  have F2 : w2.cell? ⟨vb, 0, none⟩ = some (.int .i64 a) ∧ w2.cell? ⟨vb, 1, none⟩ = some (.int .i64 b) ∧ w2.cell? ⟨vb, 2, none⟩ = some (.int .i64 c) ∧ w2.cell? ⟨vb + 1, 0, none⟩ = some (.int .i64 x) ∧ w2.cell? ⟨vb + 1, 1, none⟩ = some (.int .i64 y) := ⟨A2.out.v.cell 0 rfl, A2.out.v.cell 1 rfl, A2.out.v.cell 2 rfl, A2.out.p.cell 0 rfl, A2.out.p.cell 1 rfl⟩
  have F2d : w2.drew.cell? ⟨vb, 0, none⟩ = some (.int .i64 a) ∧ w2.drew.cell? ⟨vb, 1, none⟩ = some (.int .i64 b) ∧ w2.drew.cell? ⟨vb, 2, none⟩ = some (.int .i64 c) ∧ w2.drew.cell? ⟨vb + 1, 0, none⟩ = some (.int .i64 x) ∧ w2.drew.cell? ⟨vb + 1, 1, none⟩ = some (.int .i64 y) := F2
  clear T2 QF A2
  go_region_held3 (fun w' => w'.cell? ⟨vb, 0, none⟩ = some (.int .i64 a) ∧ w'.cell? ⟨vb, 1, none⟩ = some (.int .i64 b) ∧ w'.cell? ⟨vb, 2, none⟩ = some (.int .i64 c) ∧ w'.cell? ⟨vb + 1, 0, none⟩ = some (.int .i64 x) ∧ w'.cell? ⟨vb + 1, 1, none⟩ = some (.int .i64 y)) (first | with_reducible assumption | go_keep) (first
    | ((go_at_call 7
        with_reducible refine (htz.out w2.drew wf.heap.size tb mb 0 T2d.out (by decide)).mono ?_
        rintro en w5 ⟨rfl, hT5, ht5⟩
        have T5 := hid hT5
        have QF5 := hid (QFd.out.trans (ht5.to_below QFd.out.size hmf))
        have A5 := hid (A2d.out.touch ht5 hmv)
        have R5 := hid (R1.out.ext QF5.out)
        have F5 : w5.cell? ⟨vb, 0, none⟩ = some (.int .i64 a) ∧ w5.cell? ⟨vb, 1, none⟩ = some (.int .i64 b) ∧ w5.cell? ⟨vb, 2, none⟩ = some (.int .i64 c) ∧ w5.cell? ⟨vb + 1, 0, none⟩ = some (.int .i64 x) ∧ w5.cell? ⟨vb + 1, 1, none⟩ = some (.int .i64 y) := ⟨A5.out.v.cell 0 rfl, A5.out.v.cell 1 rfl, A5.out.v.cell 2 rfl, A5.out.p.cell 0 rfl, A5.out.p.cell 1 rfl⟩
        clear hT5 ht5 F2 F2d T2d QFd A2d))
    | ((go_at_call 8
        with_reducible refine (hzm.out w5 _ R5.out).mono ?_
        rintro en w6 ⟨rfl, hb6⟩
        have T6 := hid (T5.out.ext hb6)
        have QF6 := hid (bthen QF5.out hb6)
        have A6 := hid (A5.out.ext hb6)
        have F6 : w6.cell? ⟨vb, 0, none⟩ = some (.int .i64 a) ∧ w6.cell? ⟨vb, 1, none⟩ = some (.int .i64 b) ∧ w6.cell? ⟨vb, 2, none⟩ = some (.int .i64 c) ∧ w6.cell? ⟨vb + 1, 0, none⟩ = some (.int .i64 x) ∧ w6.cell? ⟨vb + 1, 1, none⟩ = some (.int .i64 y) := ⟨A6.out.v.cell 0 rfl, A6.out.v.cell 1 rfl, A6.out.v.cell 2 rfl, A6.out.p.cell 0 rfl, A6.out.p.cell 1 rfl⟩
        clear hb6 F5 T5 QF5 A5 R5)))
  clear F6
  go_upto_region 7 with (fail)

  have T6d := hid (T6.out.ext ((Below.refl w6.heap.size w6).drew))
  have QFe := hid (QF6.out.drew)
  have A6d := hid (A6.out.ext ((Below.refl w6.heap.size w6).drew))
  have F7 : w6.cell? ⟨vb, 0, none⟩ = some (.int .i64 a) ∧ w6.cell? ⟨vb, 1, none⟩ = some (.int .i64 b) ∧ w6.cell? ⟨vb, 2, none⟩ = some (.int .i64 c) ∧ w6.cell? ⟨vb + 1, 0, none⟩ = some (.int .i64 x) ∧ w6.cell? ⟨vb + 1, 1, none⟩ = some (.int .i64 y) ∧ w6.cell? ⟨vb + 1 + 1, 0, none⟩ = some (.int .i64 x0) ∧ w6.cell? ⟨vb + 1 + 1, 1, none⟩ = some (.int .i64 y0) ∧ w6.cell? ⟨vb + 1 + 1, 2, none⟩ = some (.int .i64 x1) ∧ w6.cell? ⟨vb + 1 + 1, 3, none⟩ = some (.int .i64 y1) := ⟨A6.out.v.cell 0 rfl, A6.out.v.cell 1 rfl, A6.out.v.cell 2 rfl, A6.out.p.cell 0 rfl, A6.out.p.cell 1 rfl, A6.out.r.cell 0 rfl, A6.out.r.cell 1 rfl, A6.out.r.cell 2 rfl, A6.out.r.cell 3 rfl⟩
  have F7d : w6.drew.cell? ⟨vb, 0, none⟩ = some (.int .i64 a) ∧ w6.drew.cell? ⟨vb, 1, none⟩ = some (.int .i64 b) ∧ w6.drew.cell? ⟨vb, 2, none⟩ = some (.int .i64 c) ∧ w6.drew.cell? ⟨vb + 1, 0, none⟩ = some (.int .i64 x) ∧ w6.drew.cell? ⟨vb + 1, 1, none⟩ = some (.int .i64 y) ∧ w6.drew.cell? ⟨vb + 1 + 1, 0, none⟩ = some (.int .i64 x0) ∧ w6.drew.cell? ⟨vb + 1 + 1, 1, none⟩ = some (.int .i64 y0) ∧ w6.drew.cell? ⟨vb + 1 + 1, 2, none⟩ = some (.int .i64 x1) ∧ w6.drew.cell? ⟨vb + 1 + 1, 3, none⟩ = some (.int .i64 y1) := F7
  clear T6 QF6 A6
  go_region_held3 (fun w' => w'.cell? ⟨vb, 0, none⟩ = some (.int .i64 a) ∧ w'.cell? ⟨vb, 1, none⟩ = some (.int .i64 b) ∧ w'.cell? ⟨vb, 2, none⟩ = some (.int .i64 c) ∧ w'.cell? ⟨vb + 1, 0, none⟩ = some (.int .i64 x) ∧ w'.cell? ⟨vb + 1, 1, none⟩ = some (.int .i64 y) ∧ w'.cell? ⟨vb + 1 + 1, 0, none⟩ = some (.int .i64 x0) ∧ w'.cell? ⟨vb + 1 + 1, 1, none⟩ = some (.int .i64 y0) ∧ w'.cell? ⟨vb + 1 + 1, 2, none⟩ = some (.int .i64 x1) ∧ w'.cell? ⟨vb + 1 + 1, 3, none⟩ = some (.int .i64 y1)) (first | with_reducible assumption | go_keep) (first
    | ((go_at_call 9
        with_reducible refine (hbh.out w6.drew).mono ?_
        rintro en w7 ⟨rfl, hb7⟩
        have T7 := hid (T6d.out.ext hb7)
        have QF7 := hid (bthen QFe.out hb7)
        have A7 := hid (A6d.out.ext hb7)
        have F8 : w7.cell? ⟨vb, 0, none⟩ = some (.int .i64 a) ∧ w7.cell? ⟨vb, 1, none⟩ = some (.int .i64 b) ∧ w7.cell? ⟨vb, 2, none⟩ = some (.int .i64 c) ∧ w7.cell? ⟨vb + 1, 0, none⟩ = some (.int .i64 x) ∧ w7.cell? ⟨vb + 1, 1, none⟩ = some (.int .i64 y) ∧ w7.cell? ⟨vb + 1 + 1, 0, none⟩ = some (.int .i64 x0) ∧ w7.cell? ⟨vb + 1 + 1, 1, none⟩ = some (.int .i64 y0) ∧ w7.cell? ⟨vb + 1 + 1, 2, none⟩ = some (.int .i64 x1) ∧ w7.cell? ⟨vb + 1 + 1, 3, none⟩ = some (.int .i64 y1) := ⟨A7.out.v.cell 0 rfl, A7.out.v.cell 1 rfl, A7.out.v.cell 2 rfl, A7.out.p.cell 0 rfl, A7.out.p.cell 1 rfl, A7.out.r.cell 0 rfl, A7.out.r.cell 1 rfl, A7.out.r.cell 2 rfl, A7.out.r.cell 3 rfl⟩
        clear hb7 F7 F7d T6d QFe A6d))
    | ((go_at_call 10
        with_reducible refine (hto.out w7 wf.heap.size tb mb 1 T7.out (by decide)).mono ?_
        rintro en w8 ⟨rfl, hT8, ht8⟩
        have T8 := hid hT8
        have QF8 := hid (QF7.out.trans (ht8.to_below QF7.out.size hmf))
        have A8 := hid (A7.out.touch ht8 hmv)
        have F9 : w8.cell? ⟨vb, 0, none⟩ = some (.int .i64 a) ∧ w8.cell? ⟨vb, 1, none⟩ = some (.int .i64 b) ∧ w8.cell? ⟨vb, 2, none⟩ = some (.int .i64 c) ∧ w8.cell? ⟨vb + 1, 0, none⟩ = some (.int .i64 x) ∧ w8.cell? ⟨vb + 1, 1, none⟩ = some (.int .i64 y) ∧ w8.cell? ⟨vb + 1 + 1, 0, none⟩ = some (.int .i64 x0) ∧ w8.cell? ⟨vb + 1 + 1, 1, none⟩ = some (.int .i64 y0) ∧ w8.cell? ⟨vb + 1 + 1, 2, none⟩ = some (.int .i64 x1) ∧ w8.cell? ⟨vb + 1 + 1, 3, none⟩ = some (.int .i64 y1) := ⟨A8.out.v.cell 0 rfl, A8.out.v.cell 1 rfl, A8.out.v.cell 2 rfl, A8.out.p.cell 0 rfl, A8.out.p.cell 1 rfl, A8.out.r.cell 0 rfl, A8.out.r.cell 1 rfl, A8.out.r.cell 2 rfl, A8.out.r.cell 3 rfl⟩
        clear hT8 ht8 F8 T7 QF7 A7))
    | ((go_at_call 7
        with_reducible refine (htz.out w8 wf.heap.size tb mb 2 T8.out (by decide)).mono ?_
        rintro en w9 ⟨rfl, hT9, ht9⟩
        have T9 := hid hT9
        have QF9 := hid (QF8.out.trans (ht9.to_below QF8.out.size hmf))
        have A9 := hid (A8.out.touch ht9 hmv)
        have F10 : w9.cell? ⟨vb, 0, none⟩ = some (.int .i64 a) ∧ w9.cell? ⟨vb, 1, none⟩ = some (.int .i64 b) ∧ w9.cell? ⟨vb, 2, none⟩ = some (.int .i64 c) ∧ w9.cell? ⟨vb + 1, 0, none⟩ = some (.int .i64 x) ∧ w9.cell? ⟨vb + 1, 1, none⟩ = some (.int .i64 y) ∧ w9.cell? ⟨vb + 1 + 1, 0, none⟩ = some (.int .i64 x0) ∧ w9.cell? ⟨vb + 1 + 1, 1, none⟩ = some (.int .i64 y0) ∧ w9.cell? ⟨vb + 1 + 1, 2, none⟩ = some (.int .i64 x1) ∧ w9.cell? ⟨vb + 1 + 1, 3, none⟩ = some (.int .i64 y1) := ⟨A9.out.v.cell 0 rfl, A9.out.v.cell 1 rfl, A9.out.v.cell 2 rfl, A9.out.p.cell 0 rfl, A9.out.p.cell 1 rfl, A9.out.r.cell 0 rfl, A9.out.r.cell 1 rfl, A9.out.r.cell 2 rfl, A9.out.r.cell 3 rfl⟩
        clear hT9 ht9 F9 T8 QF8 A8)))
  clear F10
  go_wp2_with fail
  refine (hpa'.out _).mono ?_
  rintro e wa ⟨⟨dv, rfl, hds⟩, hba⟩
  have a5 := balloc wa (.cells #[.int .i64 0, .int .i64 0, .int .i64 0] 33)
  have Ta := hid ((T9.out.ext hba).ext a5)
  have QFa := hid (bthen (bthen QF9.out hba) a5)
  have Aa := hid ((A9.out.ext hba).ext a5)
  have Da := hid (hds.ext a5)
  have Fa := hid (Blk.new wa #[.int .i64 0, .int .i64 0, .int .i64 0] 33)
  obtain ⟨dp, dc, rfl⟩ := hds.shape
  clear a5 hba hds T9 QF9 A9 hpa'
  go_wp2_with fail
  generalize wa.alloc (.cells #[.int .i64 0, .int .i64 0, .int .i64 0] 33) = wb at *
  generalize wa.heap.size = fa at *
  refine (hpr'.out wb _ (QW.out wb QFa.out) Da.out).mono ?_
  rintro e wc ⟨rfl, hbc⟩
  have Tc := hid (Ta.out.ext hbc)
  have QFc := hid (bthen QFa.out hbc)
  have Ac := hid (Aa.out.ext hbc)
  have Fc := hid (Fa.out.ext hbc)
  clear hbc Ta QFa Aa Fa Da hpr'
  go_wp2_with fail
  refine (hrt'.out _).mono ?_
  rintro e wd ⟨⟨mv, rfl, hms⟩, hbd⟩
  have a6 := balloc wd (.cells #[.int .i64 0, .int .i64 0, .int .i64 0] 33)
  have R6 := hid (hms _ (Above.below a6))
  have Td := hid ((Tc.out.ext hbd).ext a6)
  have QFd := hid (bthen (bthen QFc.out hbd) a6)
  have Ad := hid ((Ac.out.ext hbd).ext a6)
  have Fd := hid ((Fc.out.ext hbd).ext a6)
  have Fe := hid (Blk.new wd #[.int .i64 0, .int .i64 0, .int .i64 0] 33)
  obtain ⟨mp, mc, hmv2⟩ : ∃ p c, mv = .slice p rs.length c := by
    rcases R6.out with ⟨rfl, rfl⟩ | ⟨g, off, cap, rfl, _⟩
    · exact ⟨_, _, rfl⟩
    · exact ⟨_, _, rfl⟩
  subst hmv2
  have g1 := Fd.out.cell 0 (v := .int .i64 0) rfl
  have g2 := Fe.out.cell 0 (v := .int .i64 0) rfl
  clear a6 hbd hms Tc QFc Ac Fc
  go_wp2_with fail
  clear g1 g2 Fd Fe
  generalize wd.alloc (.cells #[.int .i64 0, .int .i64 0, .int .i64 0] 33) = we at *
  refine (new_any R6.out hl'.out hF'.out hok'.out).mono ?_
  rintro e wg ⟨⟨ub, nb, rfl, hU⟩, hbg⟩
  have Ug := hid hU
  have hnf := hU.low.2
  have hml : mb < we.heap.size := Td.out.lt
  have Tg := hid (Td.out.ext hbg)
  have QFg := hid (bthen QFd.out hbg)
  have Ag := hid (Ad.out.ext hbg)
  have hnl := hU.lt
  have hml2 := Tg.out.lt
  have hwe := QFd.out.size
  clear hU hbg Td QFd Ad R6
  go_upto_region 14 with (fail)
  have Tgd := hid (Tg.out.ext ((Below.refl wg.heap.size wg).drew))
  have Ugd := hid (Ug.out.ext ((Below.refl wg.heap.size wg).drew))
  have QFh := hid (QFg.out.drew)
  have Agd := hid (Ag.out.ext ((Below.refl wg.heap.size wg).drew))
  have G0 : wg.cell? ⟨vb, 0, none⟩ = some (.int .i64 a) ∧ wg.cell? ⟨vb, 1, none⟩ = some (.int .i64 b) ∧ wg.cell? ⟨vb, 2, none⟩ = some (.int .i64 c) := ⟨Ag.out.v.cell 0 rfl, Ag.out.v.cell 1 rfl, Ag.out.v.cell 2 rfl⟩
  have G1 : wg.drew.cell? ⟨vb, 0, none⟩ = some (.int .i64 a) ∧ wg.drew.cell? ⟨vb, 1, none⟩ = some (.int .i64 b) ∧ wg.drew.cell? ⟨vb, 2, none⟩ = some (.int .i64 c) := G0
  have hsd : wg.drew.heap.size = wg.heap.size := rfl
  clear Tg Ug QFg Ag
  go_region_held3 (fun w' => w'.cell? ⟨vb, 0, none⟩ = some (.int .i64 a) ∧ w'.cell? ⟨vb, 1, none⟩ = some (.int .i64 b) ∧ w'.cell? ⟨vb, 2, none⟩ = some (.int .i64 c)) (first | with_reducible assumption | go_keep) (first
    | ((go_at_call 14
        with_reducible refine (tpatches_any Tgd.out (by decide) a b c).mono ?_
        rintro en wh ⟨⟨p1, rfl, hp1, hq1⟩, hTh, hth⟩
        have Uh := hid (Ugd.out.other hth hml)
        have QFi := hid (QFh.out.trans (hth.to_below QFh.out.size hmf))
        have Ah := hid (Agd.out.touch hth hmv)
        have P1 := hid hp1
        have N1 := hid (fun (e : p1.ownBlock = some nb) => (show False by have := hq1 nb e; rw [hsd] at this; omega))
        obtain ⟨pp1, pc1, rfl⟩ := row_shape hp1
        have G2 : wh.cell? ⟨vb, 0, none⟩ = some (.int .i64 a) ∧ wh.cell? ⟨vb, 1, none⟩ = some (.int .i64 b) ∧ wh.cell? ⟨vb, 2, none⟩ = some (.int .i64 c) := ⟨Ah.out.v.cell 0 rfl, Ah.out.v.cell 1 rfl, Ah.out.v.cell 2 rfl⟩
        clear hp1 hq1 hTh hth G0 G1 Tgd Ugd QFh Agd))
    | ((go_at_call 14
        with_reducible refine (tpatches_any Uh.out (by decide) a b c).mono ?_
        rintro en wi ⟨⟨p2, rfl, hp2, hq2⟩, hTi, hti⟩
        have QFj := hid (QFi.out.trans (hti.to_below QFi.out.size (by omega)))
        have Ai := hid (Ah.out.touch hti (by omega))
        have P1i := hid (P1.out.touch hti (fun e => N1.out e))
        have P2 := hid hp2
        obtain ⟨pp2, pc2, rfl⟩ := row_shape hp2
        have G3 : wi.cell? ⟨vb, 0, none⟩ = some (.int .i64 a) ∧ wi.cell? ⟨vb, 1, none⟩ = some (.int .i64 b) ∧ wi.cell? ⟨vb, 2, none⟩ = some (.int .i64 c) := ⟨Ai.out.v.cell 0 rfl, Ai.out.v.cell 1 rfl, Ai.out.v.cell 2 rfl⟩
        clear hp2 hq2 hTi hti G2 Uh QFi Ah P1 N1))
    | ((go_at_call 13
        with_reducible refine (psame_any P1i.out P2.out hl2.out).mono ?_
        rintro en wj ⟨rfl, hbj⟩
        have QFk := hid (bthen QFj.out hbj)
        have Aj := hid (Ai.out.ext hbj)
        have G4 : wj.cell? ⟨vb, 0, none⟩ = some (.int .i64 a) ∧ wj.cell? ⟨vb, 1, none⟩ = some (.int .i64 b) ∧ wj.cell? ⟨vb, 2, none⟩ = some (.int .i64 c) := ⟨Aj.out.v.cell 0 rfl, Aj.out.v.cell 1 rfl, Aj.out.v.cell 2 rfl⟩
        clear hbj G3 QFj Ai P1i P2))
    | ((go_at_call 5
        with_reducible refine (allowed_any wj).mono ?_
        rintro en wk ⟨rfl, hbk⟩
        have QFl := hid (bthen QFk.out hbk)
        have Ak := hid (Aj.out.ext hbk)
        have G5 : wk.cell? ⟨vb, 0, none⟩ = some (.int .i64 a) ∧ wk.cell? ⟨vb, 1, none⟩ = some (.int .i64 b) ∧ wk.cell? ⟨vb, 2, none⟩ = some (.int .i64 c) := ⟨Ak.out.v.cell 0 rfl, Ak.out.v.cell 1 rfl, Ak.out.v.cell 2 rfl⟩
        clear hbk G4 QFk Aj)))
  clear G5
  go_wp2_with fail
  go_ret
  exact ⟨rfl, by rw [hvb'.out]; exact QW.out _ QFl.out⟩

end Go.Proofs.YteddkgpnklfppaaGreatDoor
