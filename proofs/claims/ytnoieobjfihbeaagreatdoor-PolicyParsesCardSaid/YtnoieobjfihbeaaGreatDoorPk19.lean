/-
  The walks of geom and rules: small functions, by value.
  The walks of rules: boxes, right, Right, For, has.
  The walks of rules: Right, For, has, Zoom, Cloaks.
  The walks of rules: has, Zoom, Cloaks.
  Maps of whatever elements: what a map's block holds, key by key, as the values themselves.
-/
import Derived.Test.YtnoieobjfihbeaaGreatDoorPk10
import Derived.Test.YtnoieobjfihbeaaGreatDoorPk05
import Derived.Test.YtnoieobjfihbeaaGreatDoorPk11
import Derived.Test.YtnoieobjfihbeaaGreatDoorPk01
import Derived.Maps.OwnSet

namespace Go.Proofs.YtnoieobjfihbeaaGreatDoor
open Go.RowKit Go.Sort

def ptV (x y : Int) : Value := .agg #[.int .i64 x, .int .i64 y]

theorem fits_any (x y : Int) (w : World) : Calls Tryz.prog 115 #[ptV x y] w fun e w' => e = .returned (.bool (Ru.fits x y)) ∧ Below w.heap.size w w' := by
  unfold ptV
  go_enter Tryz.func115, Tryz.ntmps115
  go_wp2
  all_goals
    go_ret
    exact ⟨ret_bool (by unfold Ru.fits Ru.inside; first | (simp_all; done) | (simp_all; omega)), balloc _ _⟩
theorem low_any (b : Po.Box) (w : World) : Calls Tryz.prog 128 #[pboxV b] w fun e w' => e = .returned (ptV b.x0 b.y0) ∧ Below w.heap.size w w' := by
  obtain ⟨x0, y0, x1, y1⟩ := b
  unfold ptV pboxV
  go_enter Tryz.func128, Tryz.ntmps128
  go_wp2
  exact bodyPost_ret (v := .agg #[.int .i64 x0, .int .i64 y0]) (by simp [results, Tryz.results128, go_sem]) rfl ⟨rfl, bthen (balloc w _) (balloc _ _)⟩
theorem high_any (b : Po.Box) (w : World) : Calls Tryz.prog 129 #[pboxV b] w fun e w' => e = .returned (ptV b.x1 b.y1) ∧ Below w.heap.size w w' := by
  obtain ⟨x0, y0, x1, y1⟩ := b
  unfold ptV pboxV
  go_enter Tryz.func129, Tryz.ntmps129
  go_wp2
  exact bodyPost_ret (v := .agg #[.int .i64 x1, .int .i64 y1]) (by simp [results, Tryz.results129, go_sem]) rfl ⟨rfl, bthen (balloc w _) (balloc _ _)⟩
theorem boxhas_any (b : Po.Box) (x y : Int) (w : World) : Calls Tryz.prog 116 #[pboxV b, ptV x y] w fun e w' => e = .returned (.bool (decide (b.x0 ≤ x) && decide (x ≤ b.x1) && decide (b.y0 ≤ y) && decide (y ≤ b.y1))) ∧ Below w.heap.size w w' := by
  obtain ⟨x0, y0, x1, y1⟩ := b
  unfold ptV pboxV
  go_enter Tryz.func116, Tryz.ntmps116
  go_wp2
  all_goals
    go_ret
    exact ⟨ret_bool (by first | (simp_all; done) | (simp_all; omega)), bthen (balloc w _) (balloc _ _)⟩
theorem both_any (b : Po.Box) (w : World) : Calls Tryz.prog 122 #[pboxV b, .func (.func 115) #[] #[]] w fun e w' => e = .returned (.bool (Ru.fits b.x0 b.y0 && Ru.fits b.x1 b.y1)) ∧ Below w.heap.size w w' := by
  have hen : ∀ (args : Array Value) (w : World), Sem.run Tryz.prog (callFunc 115 args) w = .ok (.enter 115 args) w := fun _ _ => by kernel_rfl
  have hl := hid (low_any b)
  have hh := hid (high_any b)
  have hf1 := hid (fits_any b.x0 b.y0)
  have hf2 := hid (fits_any b.x1 b.y1)
  have B0 := hid (Blk.new w #[.int .i64 b.x0, .int .i64 b.y0, .int .i64 b.x1, .int .i64 b.y1] 149)
  have Q0 := hid (balloc w (.cells #[.int .i64 b.x0, .int .i64 b.y0, .int .i64 b.x1, .int .i64 b.y1] 149))
  obtain ⟨x0, y0, x1, y1⟩ := b
  simp only at hl hh hf1 hf2 B0 Q0
  unfold pboxV at *
  go_enter Tryz.func122, Tryz.ntmps122
  go_wp2_with fail
  refine (hl.out _).mono ?_
  rintro e w1 ⟨rfl, hb1⟩
  have B1 := hid (B0.out.ext hb1)
  have Q1 := hid (bthen Q0.out hb1)
  go_wp2_with fail
  refine (hf1.out _).mono ?_
  rintro e w2 ⟨rfl, hb2⟩
  have B2 := hid (B1.out.ext hb2)
  have Q2 := hid (bthen Q1.out hb2)
  obtain ⟨c0, c1, c2, c3, cf, cz⟩ := B2.out.four
  cases h1 : Ru.fits x0 y0 with
  | false =>
    go_wp2_with fail
    go_ret
    exact ⟨ret_bool (by rw [h1]; rfl), Q2.out⟩
  | true =>
    go_wp2_with fail
    refine (hh.out _).mono ?_
    rintro e w3 ⟨rfl, hb3⟩
    have Q3 := hid (bthen Q2.out hb3)
    go_wp2_with fail
    refine (hf2.out _).mono ?_
    rintro e w4 ⟨rfl, hb4⟩
    go_wp2_with fail
    go_ret
    exact ⟨ret_bool (by rw [h1]; rfl), bthen Q3.out hb4⟩
theorem boxright_any (b : Po.Box) (w : World) : Calls Tryz.prog 114 #[pboxV b] w fun e w' => e = .returned (.bool (Ru.boxR b)) ∧ Below w.heap.size w w' := by
  have hb := hid (both_any b)
  have B0 := hid (Blk.new w #[.int .i64 b.x0, .int .i64 b.y0, .int .i64 b.x1, .int .i64 b.y1] 107)
  have Q0 := hid (balloc w (.cells #[.int .i64 b.x0, .int .i64 b.y0, .int .i64 b.x1, .int .i64 b.y1] 107))
  unfold Ru.boxR
  obtain ⟨x0, y0, x1, y1⟩ := b
  simp only at hb B0 Q0 ⊢
  unfold pboxV at *
  simp only at hb
  go_enter Tryz.func114, Tryz.ntmps114
  go_wp2_with fail
  refine (hb.out _).mono ?_
  rintro e w1 ⟨rfl, hb1⟩
  have B1 := hid (B0.out.ext hb1)
  have Q1 := hid (bthen Q0.out hb1)
  obtain ⟨c0, c1, c2, c3, cf, cz⟩ := B1.out.four
  generalize hff : (Ru.fits x0 y0 && Ru.fits x1 y1) = f at *
  have hff' := hid hff
  clear hb B0 Q0 B1 hb1 hff
  go_wp2_with fail
  all_goals
    go_ret
    refine ⟨ret_bool ?_, Q1.out⟩
    clear c0 c1 c2 c3 cf cz Q1
    rw [hff'.out]
    first | (simp_all; done) | (simp_all; omega)
theorem has_any (b : Po.Box) (x y : Int) (w : World) : Calls Tryz.prog 100 #[pboxV b, ptV x y] w fun e w' => e = .returned (.bool (Ru.boxHas b x y)) ∧ Below w.heap.size w w' := by
  have hb := hid (boxright_any b)
  have hf := hid (fits_any x y)
  have hh := hid (boxhas_any b x y)
  have B0 := hid ((Blk.new w #[.int .i64 b.x0, .int .i64 b.y0, .int .i64 b.x1, .int .i64 b.y1] 107).alloc (.cells #[.int .i64 x, .int .i64 y] 77))
  have P0 := hid (Blk.newAt (w := w.alloc (.cells #[.int .i64 b.x0, .int .i64 b.y0, .int .i64 b.x1, .int .i64 b.y1] 107)) (k := w.heap.size + 1) (by simp) #[.int .i64 x, .int .i64 y] 77)
  have Q0 := hid (bthen (balloc w (.cells #[.int .i64 b.x0, .int .i64 b.y0, .int .i64 b.x1, .int .i64 b.y1] 107)) (balloc _ (.cells #[.int .i64 x, .int .i64 y] 77)))
  unfold Ru.boxHas
  generalize hr : Ru.boxR b = r at *
  generalize hft : Ru.fits x y = f at *
  obtain ⟨x0, y0, x1, y1⟩ := b
  simp only at hb hh B0 P0 Q0 ⊢
  generalize hc : (decide (x0 ≤ x) && decide (x ≤ x1) && decide (y0 ≤ y) && decide (y ≤ y1)) = c at *
  clear hr hft hc
  unfold pboxV ptV at *
  simp only at hb hh hf
  go_enter Tryz.func100, Tryz.ntmps100
  go_wp2_with fail
  refine (hb.out _).mono ?_
  rintro e w1 ⟨rfl, hb1⟩
  have B1 := hid (B0.out.ext hb1)
  have P1 := hid (P0.out.ext hb1)
  have Q1 := hid (bthen Q0.out hb1)
  obtain ⟨p0, p1, pf, pz⟩ := P1.out.two
  cases r with
  | false =>
    go_wp2_with fail
    go_ret
    exact ⟨rfl, Q1.out⟩
  | true =>
    go_wp2_with fail
    refine (hf.out _).mono ?_
    rintro e w2 ⟨rfl, hb2⟩
    have B2 := hid (B1.out.ext hb2)
    have P2 := hid (P1.out.ext hb2)
    have Q2 := hid (bthen Q1.out hb2)
    clear p0 p1 pf pz
    obtain ⟨p0, p1, pf, pz⟩ := P2.out.two
    obtain ⟨c0, c1, c2, c3, cf, cz⟩ := B2.out.four
    cases f with
    | false =>
      go_wp2_with fail
      go_ret
      exact ⟨rfl, Q2.out⟩
    | true =>
      go_wp2_with fail
      refine (hh.out _).mono ?_
      rintro e w3 ⟨rfl, hb3⟩
      go_wp2_with fail
      go_ret
      exact ⟨rfl, bthen Q2.out hb3⟩
theorem grid_any (w : World) : Calls Tryz.prog 123 #[] w fun e w' => e = .returned (pboxV Ru.grid) ∧ Below w.heap.size w w' := by
  go_enter Tryz.func123, Tryz.ntmps123
  go_wp2
  exact bodyPost_ret (v := pboxV Ru.grid) (by simp [results, Tryz.results123, go_sem, pboxV, Ru.grid]) rfl ⟨rfl, balloc w _⟩
theorem small_any (n m : Int) (w : World) : Calls Tryz.prog 112 #[.int .i64 n, .int .i64 m] w fun e w' => e = .returned (.bool (Ru.small n m)) ∧ w = w' := by
  go_enter Tryz.func112, Tryz.ntmps112
  go_wp2
  all_goals
    go_ret
    exact ⟨ret_bool (by unfold Ru.small; first | (simp_all; done) | (simp_all; omega)), rfl⟩
theorem numbers3_any (a b c : Int) (w : World) : Calls Tryz.prog 98 #[.int .i64 a, .int .i64 b, .int .i64 c] w fun e w' => e = .returned (.bool (Ru.numbers3 a b c)) ∧ w = w' := by
  go_enter Tryz.func98, Tryz.ntmps98
  go_wp2_with (go_at_call 112; refine (small_any _ _ _).mono ?_; rintro e w' ⟨rfl, rfl⟩)
  all_goals
    go_ret
    exact ⟨ret_bool (by unfold Ru.numbers3; simp_all), rfl⟩
theorem in_any (s n : Int) (w : World) (hs : 0 ≤ s) (hs2 : s ≤ 255) (hn : 0 ≤ n) (hn2 : n ≤ 7) : Calls Tryz.prog 99 #[.int .i64 s, .int .i64 n] w fun e w' => e = .returned (.bool (Ru.inSum s n)) ∧ w = w' := by
  have hb : ∀ n : Fin 8, ∀ s : Fin 256, (bits BinOp.and IntKind.i64 ((s.val : Int) / 2 ^ ((n.val : Int)).toNat) 1 == 1) = Ru.inSum s.val n.val := by decide +kernel
  have hb2 := hid (hb ⟨n.toNat, by omega⟩ ⟨s.toNat, by omega⟩)
  clear hb
  go_enter Tryz.func99, Tryz.ntmps99
  go_wp2
  go_ret
  refine ⟨ret_bool ?_, rfl⟩
  have h := hb2.out
  simp only [show ((s.toNat : Nat) : Int) = s from by omega, show ((n.toNat : Nat) : Int) = n from by omega] at h
  exact h

end Go.Proofs.YtnoieobjfihbeaaGreatDoor

namespace Go.Proofs.YtnoieobjfihbeaaGreatDoor
open Go.RowKit Go.Sort

set_option maxHeartbeats 1000000 in
theorem boxes_any {w : World} {v : Value} {l : List Po.Box} (h : BRow w v l) (hn : l.length ≤ 140737488355328) :
    Calls Tryz.prog 113 #[v] w fun e w' => e = .returned (.bool (Ru.boxesR l)) ∧ Below w.heap.size w w' := by
  rcases brow_of h with ⟨p0, c0, rfl, rfl⟩ | ⟨g, off, cap, rfl, hr⟩
  · clear h
    go_enter Tryz.func113, Tryz.ntmps113
    go_wp2_with fail
    go_loop [7] (fun u => u = .int .i64 0) (fun _ => 0)
    case atStart => rfl
    case round =>
      subst hrel
      go_wp2_with fail
      go_ret
      exact ⟨rfl, Below.refl _ _⟩
  · have hr' := hid hr
    clear h hr
    go_enter Tryz.func113, Tryz.ntmps113
    go_wp2_with fail
    go_loopw [7] (fun u wr => ∃ i : Nat, u = .int .i64 i ∧ i ≤ l.length ∧ Below w.heap.size w wr ∧ (l.take i).all Ru.boxR = true) (fun u _ => l.length - (intOf u).toNat)
    case atStart => exact ⟨0, rfl, Nat.zero_le _, Below.refl _ _, rfl⟩
    case round =>
      obtain ⟨i, rfl, hle, hQ, hall⟩ := hrel
      have hQ' := hid hQ
      have hall' := hid hall
      clear hQ hall
      by_cases hlt : i < l.length
      · have hs := hid ((hr'.out.ext hQ'.out).get i hlt)
        have hyes := hid (fun h => all_take hlt hall'.out h)
        have hno := hid (fun h => all_no (p := Ru.boxR) hlt h)
        have hb : Hid (∀ w, Calls Tryz.prog 114 #[.agg (boxArr l[i])] w fun e w' => e = .returned (.bool (Ru.boxR l[i])) ∧ Below w.heap.size w w') := hid (boxright_any l[i])
        generalize l[i] = x at *
        go_wp2_with (first | (refine wpList_load_at rfl 107 (.tmp 9) rfl 10 rfl g (off + i * 4) (boxArr x) (hs.out) rfl Tryz.underlying107 rfl (by kernel_rfl) ?_) | (refine wpList_store_new rfl 107 (.tmp 4) (.tmp 10) rfl rfl wr 107 _ (boxArr x) rfl rfl rfl (by kernel_rfl) rfl (boxArr_one x) ?_) | (refine wpList_load_blk rfl 107 (.tmp 4) rfl 11 rfl wr.heap.size 107 (boxArr x) (Blk.new wr _ _) rfl Tryz.underlying107 rfl (by kernel_rfl) ?_))
        refine (hb.out _).mono ?_
        rintro e w1 ⟨rfl, hb1⟩
        have Q1 := hid (bthen hQ'.out (bthen (balloc wr _) hb1))
        generalize Ru.boxR x = r at *
        cases r with
        | true =>
          have hy := hid (hyes.out rfl)
          go_wp2_with fail
          go_roundw
          case rel => exact ⟨i + 1, by go_num, by omega, Q1.out, hy.out⟩
          case measure => simp [intOf]; omega
        | false =>
          have hy := hid (hno.out rfl)
          go_wp2_with fail
          go_ret
          exact ⟨ret_bool hy.out.symm, Q1.out⟩
      · obtain rfl : i = l.length := by omega
        have hf := hid (show Ru.boxesR l = true by have h := hall'.out; rw [List.take_of_length_le (Nat.le_refl _)] at h; exact h)
        go_wp2_with fail
        go_ret
        exact ⟨ret_bool hf.out.symm, hQ'.out⟩

theorem Blk.seven {w : World} {b : Nat} {a0 a1 a2 a3 a4 a5 a6 : Value} {t : TypeId} (h : Blk w b #[a0, a1, a2, a3, a4, a5, a6] t) : w.cell? ⟨b, 0, none⟩ = some a0 ∧ w.cell? ⟨b, 1, none⟩ = some a1 ∧ w.cell? ⟨b, 2, none⟩ = some a2 ∧ w.cell? ⟨b, 3, none⟩ = some a3 ∧ w.cell? ⟨b, 4, none⟩ = some a4 ∧ w.cell? ⟨b, 5, none⟩ = some a5 ∧ w.cell? ⟨b, 6, none⟩ = some a6 ∧ (∀ o, w.frozen? ⟨b, o, none⟩ = false) ∧ b < w.heap.size :=
  ⟨h.cell 0 rfl, h.cell 1 rfl, h.cell 2 rfl, h.cell 3 rfl, h.cell 4 rfl, h.cell 5 rfl, h.cell 6 rfl, h.free, h.lt⟩
def ruleArr (r : Ru.Rule) (v : Value) : Array Value := #[.int .i64 r.kind, .int .i64 r.roles, .int .i64 r.lo, .int .i64 r.hi, .int .i64 r.labels, v, .int .i64 r.zoom]

set_option maxHeartbeats 2000000 in
theorem right_any {w : World} {v : Value} (r : Ru.Rule) (h : BRow w v r.boxes) (hn : r.boxes.length ≤ 140737488355328) :
    Calls Tryz.prog 97 #[.agg (ruleArr r v)] w fun e w' => e = .returned (.bool (Ru.ruleR r)) ∧ Below w.heap.size w w' := by
  obtain ⟨p, c, rfl⟩ := h.shape
  have hz := balloc w (.cells (ruleArr r (.slice p r.boxes.length c)) 74)
  have Q0 := hid hz
  have hbx := hid (boxes_any (h.ext hz) hn)
  have B0 := hid (Blk.new w (ruleArr r (.slice p r.boxes.length c)) 74)
  clear h hz
  unfold ruleArr at *
  by_cases h6 : r.kind = 6
  · have e := hid (show Ru.ruleR r = _ from by unfold Ru.ruleR; rw [if_pos h6])
    obtain ⟨kind, roles, lo, hi, labels, boxes, zoom⟩ := r
    simp only at h6 e hn hbx Q0 B0
    subst h6
    go_enter Tryz.func97, Tryz.ntmps97
    go_wp2_with (go_at_call 112; refine (small_any _ _ _).mono ?_; rintro e w' ⟨rfl, rfl⟩)
    all_goals
      go_ret
      rw [e.out]
      refine ⟨ret_bool ?_, balloc w _⟩
      clear hbx Q0 e hn B0
      simp_all
  · by_cases h4 : r.kind = 4 ∨ r.kind = 5
    · have e := hid (show Ru.ruleR r = _ from by unfold Ru.ruleR; rw [if_neg h6, if_pos h4])
      obtain ⟨kind, roles, lo, hi, labels, boxes, zoom⟩ := r
      simp only at h6 h4 e hn hbx Q0 B0
      have k6 : ((kind : Int) == 6) = false := beq_eq_false_iff_ne.2 h6
      clear h6
      rcases h4 with rfl | rfl
      all_goals
        go_enter Tryz.func97, Tryz.ntmps97
        go_wp2_with (first | (go_at_call 112; refine (small_any _ _ _).mono ?_; rintro e w' ⟨rfl, rfl⟩) | (go_at_call 113; refine hbx.out.mono ?_; rintro en w1 ⟨rfl, hb1⟩; have Q1 := hid (bthen Q0.out hb1); obtain ⟨x0, x1, x2, x3, x4, x5, x6, xf, xz⟩ := (B0.out.ext hb1).seven; clear hb1))
        all_goals
          go_ret
          rw [e.out]
          refine ⟨ret_bool ?_, by first | exact balloc w _ | exact Q1.out⟩
          clear hbx Q0 e hn B0
          try clear Q1 x0 x1 x2 x3 x4 x5 x6 xf xz
          first | (simp_all; done) | (simp_all; omega)
    · have e := hid (show Ru.ruleR r = false from by unfold Ru.ruleR; rw [if_neg h6, if_neg h4])
      have k6 : ((r.kind : Int) == 6) = false := beq_eq_false_iff_ne.2 h6
      have k4 : ((r.kind : Int) == 4) = false := beq_eq_false_iff_ne.2 (by omega)
      have k5 : ((r.kind : Int) == 5) = false := beq_eq_false_iff_ne.2 (by omega)
      clear h6 h4
      go_enter Tryz.func97, Tryz.ntmps97
      go_wp2_with fail
      go_ret
      exact ⟨ret_bool e.out.symm, Q0.out⟩

end Go.Proofs.YtnoieobjfihbeaaGreatDoor

namespace Go.Proofs.YtnoieobjfihbeaaGreatDoor
open Go.RowKit Go.Sort

/-- a row of rules in memory -/
structure RRow (w : World) (g off cap : Nat) (rs : List Ru.Rule) : Prop where
  cap : rs.length ≤ cap
  lt : g < w.heap.size
  get : ∀ (i : Nat) (hi : i < rs.length), ∃ x, w.rangeAt g (off + i * 7) (ruleArr rs[i] x).toList ∧ BRow w x rs[i].boxes ∧ rs[i].boxes.length ≤ 140737488355328
theorem RRow.ext {w w' : World} {g off cap : Nat} {rs : List Ru.Rule} (h : RRow w g off cap rs) (hb : Below w.heap.size w w') : RRow w' g off cap rs :=
  ⟨h.cap, Nat.lt_of_lt_of_le h.lt hb.size, fun i hi => by
    obtain ⟨x, h1, h2, h3⟩ := h.get i hi
    exact ⟨x, fun j u hu => (hb.cell (p := ⟨g, off + i * 7 + j, none⟩) h.lt).trans (h1 j u hu), h2.ext hb, h3⟩⟩
/-- a slice that reads as rules -/
def RSl (w : World) (v : Value) (rs : List Ru.Rule) : Prop := (v = .slice none 0 0 ∧ rs = []) ∨ ∃ g off cap, v = .slice (some ⟨g, off, none⟩) rs.length cap ∧ RRow w g off cap rs
theorem RSl.ext {w w' : World} {v : Value} {rs : List Ru.Rule} (h : RSl w v rs) (hb : Below w.heap.size w w') : RSl w' v rs := h.imp id fun ⟨g, off, cap, hv, hr⟩ => ⟨g, off, cap, hv, hr.ext hb⟩
theorem ruleArr_one (r : Ru.Rule) {v : Value} (hv : v.oneCell' = true) : (ruleArr r v).all (·.oneCell') = true := by
  unfold ruleArr
  rw [← Array.all_toList]
  simp only [List.all_cons, List.all_nil, hv]
  rfl
theorem row_one {w : World} {v : Value} {n size : Nat} {xs : List Value} (h : Row w v n size xs) : v.oneCell' = true := by
  obtain ⟨p, c, rfl⟩ := row_shape h; rfl
/-- what the walk wants of rule number i -/
structure RAt (w : World) (g o : Nat) (r : Ru.Rule) (x : Value) : Prop where
  at_ : w.rangeAt g o (ruleArr r x).toList
  box : BRow w x r.boxes
  few : r.boxes.length ≤ 140737488355328
  one : (ruleArr r x).all (·.oneCell') = true
theorem RRow.at {w w' : World} {g off cap : Nat} {rs : List Ru.Rule} (h : RRow w g off cap rs) (hb : Below w.heap.size w w') {i : Nat} (hi : i < rs.length) : ∃ x, RAt w' g (off + i * 7) rs[i] x := by
  obtain ⟨x, h1, h2, h3⟩ := (h.ext hb).get i hi
  exact ⟨x, h1, h2, h3, ruleArr_one _ h2.one⟩

set_option maxHeartbeats 1000000 in
theorem rright_any {w : World} {v : Value} {l : List Ru.Rule} (h : RSl w v l) (hn : l.length ≤ 140737488355328) :
    Calls Tryz.prog 61 #[v] w fun e w' => e = .returned (.bool (Ru.rulesR l)) ∧ Below w.heap.size w w' := by
  rcases h with ⟨rfl, rfl⟩ | ⟨g, off, cap, rfl, hr⟩
  · go_enter Tryz.func61, Tryz.ntmps61
    go_wp2_with fail
    go_loop [7] (fun u => u = .int .i64 0) (fun _ => 0)
    case atStart => rfl
    case round =>
      subst hrel
      go_wp2_with fail
      go_ret
      exact ⟨rfl, Below.refl _ _⟩
  · have hr' := hid hr
    clear hr
    go_enter Tryz.func61, Tryz.ntmps61
    go_wp2_with fail
    go_loopw [7] (fun u wr => ∃ i : Nat, u = .int .i64 i ∧ i ≤ l.length ∧ Below w.heap.size w wr ∧ (l.take i).all Ru.ruleR = true) (fun u _ => l.length - (intOf u).toNat)
    case atStart => exact ⟨0, rfl, Nat.zero_le _, Below.refl _ _, rfl⟩
    case round =>
      obtain ⟨i, rfl, hle, hQ, hall⟩ := hrel
      have hQ' := hid hQ
      have hall' := hid hall
      clear hQ hall
      by_cases hlt : i < l.length
      · obtain ⟨x, hs⟩ := hr'.out.at hQ'.out hlt
        have hs' := hid hs
        have hyes := hid (fun h => all_take hlt hall'.out h)
        have hno := hid (fun h => all_no (p := Ru.ruleR) hlt h)
        have hb := hid (right_any l[i] (hs.box.ext (balloc wr (.cells (ruleArr l[i] x) 74))) hs.few)
        clear hs
        generalize l[i] = r at *
        go_wp2_with (first | (refine wpList_load_at rfl 74 (.tmp 9) rfl 10 rfl g (off + i * 7) (ruleArr r x) (hs'.out.at_) rfl Tryz.underlying74 rfl (by kernel_rfl) ?_) | (refine wpList_store_new rfl 74 (.tmp 4) (.tmp 10) rfl rfl wr 74 _ (ruleArr r x) rfl rfl rfl (by kernel_rfl) rfl (hs'.out.one) ?_) | (refine wpList_load_blk rfl 74 (.tmp 4) rfl 11 rfl wr.heap.size 74 (ruleArr r x) (Blk.new wr _ _) rfl Tryz.underlying74 rfl (by kernel_rfl) ?_))
        refine hb.out.mono ?_
        rintro e w1 ⟨rfl, hb1⟩
        have Q1 := hid (bthen hQ'.out (bthen (balloc wr _) hb1))
        generalize Ru.ruleR r = rr at *
        cases rr with
        | true =>
          have hy := hid (hyes.out rfl)
          go_wp2_with fail
          go_roundw
          case rel => exact ⟨i + 1, by go_num, by omega, Q1.out, hy.out⟩
          case measure => simp [intOf]; omega
        | false =>
          have hy := hid (hno.out rfl)
          go_wp2_with fail
          go_ret
          exact ⟨ret_bool hy.out.symm, Q1.out⟩
      · obtain rfl : i = l.length := by omega
        have hf := hid (show Ru.rulesR l = true by have h := hall'.out; rw [List.take_of_length_le (Nat.le_refl _)] at h; exact h)
        go_wp2_with fail
        go_ret
        exact ⟨ret_bool hf.out.symm, hQ'.out⟩

theorem ruleR_bounds {r : Ru.Rule} (h : Ru.ruleR r = true) : 0 ≤ r.roles ∧ r.roles ≤ 255 ∧ (r.kind ≠ 6 → 0 ≤ r.labels ∧ r.labels ≤ 255) := by
  have hk := Ru.ruleR_kind h
  unfold Ru.ruleR Ru.small at h
  by_cases h6 : r.kind = 6
  · rw [if_pos h6] at h
    simp only [Bool.and_eq_true, decide_eq_true_eq] at h
    exact ⟨h.1.1.1.1.1.1, h.1.1.1.1.1.2, fun h7 => absurd h6 h7⟩
  · rw [if_neg h6, if_pos (by omega)] at h
    simp only [Bool.and_eq_true, decide_eq_true_eq] at h
    exact ⟨h.1.1.1.1.1.1.1, h.1.1.1.1.1.1.2, fun _ => ⟨h.1.1.2.1, h.1.1.2.2⟩⟩
theorem small_iff {n m : Int} : Ru.small n m = true ↔ 0 ≤ n ∧ n ≤ m := by unfold Ru.small; simp
theorem numbers3_iff {a b c : Int} : Ru.numbers3 a b c = true ↔ (0 ≤ a ∧ a ≤ 7) ∧ (0 ≤ b ∧ b ≤ 7) ∧ (0 ≤ c ∧ c ≤ 7) := by
  unfold Ru.numbers3; simp only [Bool.and_eq_true, small_iff]; exact ⟨fun h => ⟨h.1.1, h.1.2, h.2⟩, fun h => ⟨⟨h.1, h.2.1⟩, h.2.2⟩⟩

set_option maxHeartbeats 2000000 in
theorem for_any {w : World} {v : Value} (r : Ru.Rule) (role tier label : Int) (h : BRow w v r.boxes) (hn : r.boxes.length ≤ 140737488355328) :
    Calls Tryz.prog 62 #[.agg (ruleArr r v), .int .i64 role, .int .i64 tier, .int .i64 label] w fun e w' => e = .returned (.bool (Ru.forR r role tier label)) ∧ Below w.heap.size w w' := by
  have hz := balloc w (.cells (ruleArr r v) 74)
  have Q0 := hid hz
  have hrt := hid (right_any r (h.ext hz) hn)
  have B0 := hid (Blk.new w (ruleArr r v) 74)
  clear hz h
  have hbox : Hid (Sem.run Tryz.prog (Instr.box 74 (.agg (ruleArr r v))) w = .ok (.pointer (some ⟨w.heap.size, 0, none⟩)) (w.alloc (.cells (ruleArr r v) 74))) := hid (by unfold ruleArr; kernel_rfl)
  cases h1 : Ru.ruleR r with
  | false =>
    have e := hid (show Ru.forR r role tier label = false by unfold Ru.forR; rw [h1]; rfl)
    rw [h1] at hrt
    clear h1
    unfold ruleArr at *
    go_enter Tryz.func62, Tryz.ntmps62
    go_wp2_with fail
    refine hrt.out.mono ?_
    rintro en w1 ⟨rfl, hb1⟩
    go_wp2_with fail
    go_ret
    exact ⟨ret_bool e.out.symm, bthen Q0.out hb1⟩
  | true =>
    obtain ⟨b1, b2, b3⟩ := ruleR_bounds h1
    have e0 := hid h1
    rw [h1] at hrt
    clear h1
    unfold ruleArr at *
    go_enter Tryz.func62, Tryz.ntmps62
    go_wp2_with fail
    refine hrt.out.mono ?_
    rintro en w1 ⟨rfl, hb1⟩
    obtain ⟨x0, x1, x2, x3, x4, x5, x6, xf, xz⟩ := (B0.out.ext hb1).seven
    have Q1 := hid (bthen Q0.out hb1)
    clear hb1
    by_cases h6 : r.kind = 6
    · have k6 : (r.kind != 6) = false := by rw [h6]; rfl
      have e := hid (show Ru.forR r role tier label = false by unfold Ru.forR; rw [k6]; simp)
      clear h6
      go_wp2_with fail
      go_ret
      exact ⟨ret_bool e.out.symm, Q1.out⟩
    · have k6 : (r.kind != 6) = true := by rw [bne_iff_ne]; exact h6
      obtain ⟨b4, b5⟩ := b3 h6
      cases h3 : Ru.numbers3 role tier label with
      | false =>
        have e := hid (show Ru.forR r role tier label = false by unfold Ru.forR; rw [h3]; simp)
        have h3' := hid h3
        clear h6 h3
        go_wp2_with fail
        refine (numbers3_any _ _ _ _).mono ?_
        rintro en w2 ⟨rfl, rfl⟩
        rw [h3'.out]
        go_wp2_with fail
        go_ret
        exact ⟨ret_bool e.out.symm, Q1.out⟩
      | true =>
        obtain ⟨⟨n1, n2⟩, ⟨n3, n4⟩, ⟨n5, n6⟩⟩ := numbers3_iff.1 h3
        have e := hid (show Ru.forR r role tier label = (Ru.inSum r.roles role && decide (r.lo ≤ tier) && decide (tier ≤ r.hi) && Ru.inSum r.labels label) by unfold Ru.forR; rw [e0.out, k6, h3]; simp only [Bool.true_and])
        have h3' := hid h3
        clear h6 h3
        go_wp2_with fail
        refine (numbers3_any _ _ _ _).mono ?_
        rintro en w2 ⟨rfl, rfl⟩
        rw [h3'.out]
        go_wp2_with fail
        refine (in_any _ _ _ b1 b2 n1 n2).mono ?_
        rintro en w2 ⟨rfl, rfl⟩
        cases hi : Ru.inSum r.roles role with
        | false =>
          rw [hi] at e
          clear hi
          go_wp2_with fail
          go_ret
          exact ⟨ret_bool e.out.symm, Q1.out⟩
        | true =>
          rw [hi] at e
          clear hi
          by_cases t1 : r.lo ≤ tier
          · have t1' : decide (r.lo ≤ tier) = true := by simpa using t1
            rw [t1'] at e
            by_cases t2 : tier ≤ r.hi
            · have t2' : decide (tier ≤ r.hi) = true := by simpa using t2
              rw [t2'] at e
              go_wp2_with fail
              refine (in_any _ _ _ b4 b5 n5 n6).mono ?_
              rintro en w2 ⟨rfl, rfl⟩
              go_wp2_with fail
              go_ret
              exact ⟨ret_bool (by rw [e.out]; rfl), Q1.out⟩
            · have t2' : decide (tier ≤ r.hi) = false := by simpa using t2
              rw [t2'] at e
              go_wp2_with fail
              go_ret
              exact ⟨ret_bool (by rw [e.out]; rfl), Q1.out⟩
          · have t1' : decide (r.lo ≤ tier) = false := by simpa using t1
            rw [t1'] at e
            go_wp2_with fail
            go_ret
            exact ⟨ret_bool (by rw [e.out]; rfl), Q1.out⟩

end Go.Proofs.YtnoieobjfihbeaaGreatDoor

namespace Go.Proofs.YtnoieobjfihbeaaGreatDoor
open Go.RowKit Go.Sort

set_option maxHeartbeats 1000000 in
theorem rhas_any {w : World} {v : Value} {l : List Po.Box} (x y : Int) (h : BRow w v l) (hn : l.length ≤ 140737488355328) :
    Calls Tryz.prog 63 #[v, ptV x y] w fun e w' => e = .returned (.bool (Ru.hasB l x y)) ∧ Below w.heap.size w w' := by
  have hz := balloc w (.cells #[.int .i64 x, .int .i64 y] 77)
  have Q0 := hid hz
  have P0 := hid (Blk.new w #[.int .i64 x, .int .i64 y] 77)
  rcases brow_of (h.ext hz) with ⟨p0, c0, rfl, rfl⟩ | ⟨g, off, cap, rfl, hr⟩
  · clear h hz
    unfold ptV
    go_enter Tryz.func63, Tryz.ntmps63
    go_wp2_with fail
    go_loop [9] (fun u => u = .int .i64 0) (fun _ => 0)
    case atStart => rfl
    case round =>
      subst hrel
      go_wp2_with fail
      go_ret
      exact ⟨rfl, Q0.out⟩
  · have hr' := hid hr
    clear h hr hz
    unfold ptV
    go_enter Tryz.func63, Tryz.ntmps63
    go_wp2_with fail
    go_loopw [9] (fun u wr => ∃ i : Nat, u = .int .i64 i ∧ i ≤ l.length ∧ Below (w.heap.size + 1) (w.alloc (.cells #[.int .i64 x, .int .i64 y] 77)) wr ∧ (l.take i).any (fun b => Ru.boxHas b x y) = false) (fun u _ => l.length - (intOf u).toNat)
    case atStart => exact ⟨0, rfl, Nat.zero_le _, Below.refl _ _, rfl⟩
    case round =>
      obtain ⟨i, rfl, hle, hQ, hall⟩ := hrel
      have hQa : Below (w.alloc (.cells #[.int .i64 x, .int .i64 y] 77)).heap.size (w.alloc (.cells #[.int .i64 x, .int .i64 y] 77)) wr := by rw [World.size_alloc]; exact hQ
      have hQ' := hid hQa
      have hall' := hid hall
      have P1 := hid (P0.out.ext hQa)
      have Qw := hid (bthen Q0.out hQa)
      clear hQ hall hQa
      by_cases hlt : i < l.length
      · have hs := hid ((hr'.out.ext hQ'.out).get i hlt)
        have hyes := hid (fun h => any_yes (p := fun b => Ru.boxHas b x y) hlt h)
        have hno := hid (fun h => any_take hlt hall'.out h)
        have hb : Hid (∀ w, Calls Tryz.prog 100 #[.agg (boxArr l[i]), .agg #[.int .i64 x, .int .i64 y]] w fun e w' => e = .returned (.bool (Ru.boxHas l[i] x y)) ∧ Below w.heap.size w w') := hid (has_any l[i] x y)
        generalize l[i] = b at *
        have P2 := hid (P1.out.alloc (.cells (boxArr b) 107))
        have hne : w.heap.size ≠ wr.heap.size := by have := P1.out.lt; omega
        go_wp2_with (first | (refine wpList_load_at rfl 107 (.tmp 11) rfl 12 rfl g (off + i * 4) (boxArr b) (hs.out) rfl Tryz.underlying107 rfl (by kernel_rfl) ?_) | (refine wpList_store_new rfl 107 (.tmp 6) (.tmp 12) rfl rfl wr 107 _ (boxArr b) rfl rfl rfl (by kernel_rfl) rfl (boxArr_one b) ?_) | (refine wpList_load_blk rfl 107 (.tmp 6) rfl 13 rfl wr.heap.size 107 (boxArr b) (Blk.new wr _ _) rfl Tryz.underlying107 rfl (by kernel_rfl) ?_) | (refine wpList_load_blk rfl 77 (.tmp 3) rfl 14 rfl w.heap.size 77 (#[.int .i64 x, .int .i64 y]) (P2.out) rfl Tryz.underlying77 rfl (by kernel_rfl) ?_))
        refine (hb.out _).mono ?_
        rintro e w1 ⟨rfl, hb1⟩
        have Q1 := hid (bthen hQ'.out (bthen (balloc wr _) hb1))
        have Q2 := hid (bthen Qw.out (bthen (balloc wr _) hb1))
        simp only [World.size_alloc] at Q1
        generalize Ru.boxHas b x y = r at *
        cases r with
        | false =>
          have hy := hid (hno.out rfl)
          go_wp2_with fail
          go_roundw
          case rel => exact ⟨i + 1, by go_num, by omega, Q1.out, hy.out⟩
          case measure => simp [intOf]; omega
        | true =>
          have hy := hid (hyes.out rfl)
          go_wp2_with fail
          go_ret
          exact ⟨ret_bool hy.out.symm, Q2.out⟩
      · obtain rfl : i = l.length := by omega
        have hf := hid (show Ru.hasB l x y = false by have h := hall'.out; rw [List.take_of_length_le (Nat.le_refl _)] at h; exact h)
        go_wp2_with fail
        go_ret
        exact ⟨ret_bool hf.out.symm, Qw.out⟩

theorem foldl_take {α β : Type} {f : β → α → β} {l : List α} {i : Nat} {b c : β} (hi : i < l.length) (h : (l.take i).foldl f b = c) : (l.take (i + 1)).foldl f b = f c l[i] := by
  rw [List.take_succ_eq_append_getElem hi, List.foldl_append, h]; rfl
theorem zoom_yes {r : Ru.Rule} {role tier label x y : Int} {p : Int × Int} (h : Ru.forR r role tier label = true) (h2 : Ru.hasB r.boxes x y = true) : Ru.zoomStep role tier label x y p r = if r.kind = 4 then (max p.1 r.zoom, p.2) else (p.1, min p.2 r.zoom) := by
  unfold Ru.zoomStep; rw [h, h2]; rfl
theorem zoom_no {r : Ru.Rule} {role tier label x y : Int} {p : Int × Int} (h : Ru.forR r role tier label = false ∨ Ru.hasB r.boxes x y = false) : Ru.zoomStep role tier label x y p r = p := by
  unfold Ru.zoomStep
  rw [if_neg]
  rcases h with h | h <;> simp [h]

set_option maxRecDepth 100000 in
set_option maxHeartbeats 2000000 in
theorem zoom_any {w : World} {v : Value} {l : List Ru.Rule} (role tier label x y : Int) (h : RSl w v l) (hn : l.length ≤ 140737488355328) :
    Calls Tryz.prog 26 #[v, .int .i64 role, .int .i64 tier, .int .i64 label, ptV x y] w fun e w' => e = .returned (.int .i64 (Ru.zoomV l role tier label x y)) ∧ Below w.heap.size w w' := by
  have hz := balloc w (.cells #[.int .i64 x, .int .i64 y] 77)
  have Q0 := hid hz
  have P0 := hid (Blk.new w #[.int .i64 x, .int .i64 y] 77)
  have h0 := hid (h.ext hz)
  have hrt := hid (rright_any (h.ext hz) hn)
  clear h hz
  cases hrr : Ru.rulesR l with
  | false =>
    have e := hid (show Ru.zoomV l role tier label x y = 0 by unfold Ru.zoomV; rw [hrr]; rfl)
    rw [hrr] at hrt
    clear hrr
    unfold ptV
    go_enter Tryz.func26, Tryz.ntmps26
    go_wp2_with fail
    refine hrt.out.mono ?_
    rintro en w1 ⟨rfl, hb1⟩
    go_wp2_with fail
    go_ret
    exact ⟨ret_int e.out.symm, bthen Q0.out hb1⟩
  | true =>
    have e := hid (show Ru.zoomV l role tier label x y = min (l.foldl (Ru.zoomStep role tier label x y) (0, 16)).1 (l.foldl (Ru.zoomStep role tier label x y) (0, 16)).2 by unfold Ru.zoomV; rw [hrr]; rfl)
    rw [hrr] at hrt
    clear hrr
    unfold ptV
    rcases h0.out with ⟨rfl, rfl⟩ | ⟨g, off, cap, rfl, hr⟩
    · go_enter Tryz.func26, Tryz.ntmps26
      go_wp2_with fail
      refine hrt.out.mono ?_
      rintro en w1 ⟨rfl, hb1⟩
      go_wp2_with fail
      go_loop [11, 12, 20] (fun a c u => a = .int .i64 0 ∧ c = .int .i64 16 ∧ u = .int .i64 0) (fun _ _ _ => 0)
      case atStart => exact ⟨rfl, rfl, rfl⟩
      case round =>
        obtain ⟨rfl, rfl, rfl⟩ := hrel
        go_wp2_with fail
        go_ret
        exact ⟨ret_int e.out.symm, bthen Q0.out hb1⟩
    · have hr' := hid hr
      clear hr h0
      go_enter Tryz.func26, Tryz.ntmps26
      go_wp2_with fail
      refine hrt.out.mono ?_
      rintro en w1 ⟨rfl, hb1⟩
      have Q1 := hid (bthen Q0.out hb1)
      have P1 := hid (P0.out.ext hb1)
      have R1 := hid (hr'.out.ext hb1)
      have hs1 := P1.out.lt
      clear hb1 hr'
      go_wp2_with fail
      go_loopw [11, 12, 20] (fun a c u wr => ∃ (i : Nat) (m k : Int), a = .int .i64 m ∧ c = .int .i64 k ∧ u = .int .i64 i ∧ i ≤ l.length ∧ Below w1.heap.size w1 wr ∧ (l.take i).foldl (Ru.zoomStep role tier label x y) (0, 16) = (m, k)) (fun _ _ u _ => l.length - (intOf u).toNat)
      case atStart => exact ⟨0, 0, 16, rfl, rfl, rfl, Nat.zero_le _, Below.refl _ _, rfl⟩
      case round =>
        obtain ⟨i, m, k, rfl, rfl, rfl, hle, hQ, hall⟩ := hrel
        have hQ' := hid hQ
        have hall' := hid hall
        have P2 := hid (P1.out.ext hQ)
        have Qw := hid (bthen Q1.out hQ)
        clear hQ hall
        by_cases hlt : i < l.length
        · obtain ⟨z, hs⟩ := R1.out.at hQ'.out hlt
          have hs' := hid hs
          have hfold := hid (foldl_take hlt hall'.out)
          have P3 := hid (P2.out.alloc (.cells (ruleArr l[i] z) 74))
          have B3 := hid (Blk.new wr (ruleArr l[i] z) 74)
          have hx3 := hid (hs.box.ext (balloc wr (.cells (ruleArr l[i] z) 74)))
          have hb := hid (for_any l[i] role tier label (hs.box.ext (balloc wr (.cells (ruleArr l[i] z) 74))) hs.few)
          have hfew := hid hs.few
          clear hs
          generalize l[i] = r at *
          have hne : w.heap.size ≠ wr.heap.size := by have := P2.out.lt; omega
          go_wp2_with (first | (refine wpList_load_at rfl 74 (.tmp 22) rfl 23 rfl g (off + i * 7) (ruleArr r z) (hs'.out.at_) rfl Tryz.underlying74 rfl (by kernel_rfl) ?_) | (refine wpList_store_new rfl 74 (.tmp 14) (.tmp 23) rfl rfl wr 74 _ (ruleArr r z) rfl rfl rfl (by kernel_rfl) rfl (hs'.out.one) ?_) | (refine wpList_load_blk rfl 74 (.tmp 14) rfl 24 rfl wr.heap.size 74 (ruleArr r z) (Blk.new wr _ _) rfl Tryz.underlying74 rfl (by kernel_rfl) ?_))
          refine hb.out.mono ?_
          rintro e w2 ⟨rfl, hb2⟩
          have Q2 := hid (bthen hQ'.out (bthen (balloc wr _) hb2))
          cases hf : Ru.forR r role tier label with
          | false =>
            have hst := hid (zoom_no (x := x) (y := y) (p := (m, k)) (.inl hf))
            rw [hst.out] at hfold
            clear hf
            go_wp2_with fail
            go_roundw
            case rel => exact ⟨i + 1, m, k, rfl, rfl, by go_num, by omega, Q2.out, hfold.out⟩
            case measure => simp [intOf]; omega
          | true =>
            have hyes := hid (fun h => zoom_yes (x := x) (y := y) (p := (m, k)) hf h)
            have hno := hid (fun h => zoom_no (x := x) (y := y) (p := (m, k)) (r := r) (role := role) (tier := tier) (label := label) (.inr h))
            have P4 := hid (P3.out.ext hb2)
            have hx4 := hid (hx3.out.ext hb2)
            obtain ⟨x0, x1, x2, x3, x4, x5, x6, xf, xz⟩ := (show Blk w2 wr.heap.size (ruleArr r z) 74 from B3.out.ext hb2).seven
            have hh := hid (rhas_any x y hx4.out hfew.out)
            have hz5 := hid hx4.out.shape
            obtain ⟨p0, p1, pf, pz⟩ := P4.out.two
            obtain ⟨zp, zc, rfl⟩ := hz5.out
            clear hf
            go_wp2_with fail
            refine hh.out.mono ?_
            rintro e w3 ⟨rfl, hb3⟩
            have Q3 := hid (bthen Q2.out hb3)
            clear x0 x1 x2 x3 x4 x5 x6 xf xz p0 p1 pf pz
            cases hh5 : Ru.hasB r.boxes x y with
            | false =>
              have hst := hid (hno.out hh5)
              rw [hst.out] at hfold
              clear hh5
              go_wp2_with fail
              go_roundw
              case rel => exact ⟨i + 1, m, k, rfl, rfl, by go_num, by omega, Q3.out, hfold.out⟩
              case measure => simp [intOf]; omega
            | true =>
              have hst := hid (hyes.out hh5)
              rw [hst.out] at hfold
              obtain ⟨x0, x1, x2, x3, x4, x5, x6, xf, xz⟩ := (show Blk w3 wr.heap.size (ruleArr r (.slice zp r.boxes.length zc)) 74 from (B3.out.ext hb2).ext hb3).seven
              clear hh5
              by_cases h4 : r.kind = 4
              · rw [if_pos h4] at hfold
                have k4 : (r.kind == 4) = true := beq_iff_eq.2 h4
                clear h4
                go_wp2_with fail
                all_goals
                  go_roundw
                  case rel => exact ⟨i + 1, _, k, rfl, rfl, by go_num, by omega, Q3.out, by rw [hfold.out]; first | done | (ext <;> simp only <;> omega)⟩
                  case measure => simp [intOf]; omega
              · rw [if_neg h4] at hfold
                have k4 : (r.kind == 4) = false := beq_eq_false_iff_ne.2 h4
                clear h4
                go_wp2_with fail
                all_goals
                  go_roundw
                  case rel => exact ⟨i + 1, m, _, rfl, rfl, by go_num, by omega, Q3.out, by rw [hfold.out]; first | done | (ext <;> simp only <;> omega)⟩
                  case measure => simp [intOf]; omega
        · obtain rfl : i = l.length := by omega
          have hf := hid (show min m k = Ru.zoomV l role tier label x y by
            have h := hall'.out
            rw [List.take_of_length_le (Nat.le_refl _)] at h
            rw [e.out, h])
          go_wp2_with fail
          all_goals
            go_ret
            exact ⟨ret_int (by rw [← hf.out]; first | done | omega), Qw.out⟩

end Go.Proofs.YtnoieobjfihbeaaGreatDoor

namespace Go.Proofs.YtnoieobjfihbeaaGreatDoor
open Go.RowKit Go.Sort Go.Maps

def heldR (v : Value) : Option (DataW Value × List MemPlace) := some (.held v, [])

/-- block b is a map with at most n entries; f says what stands at which key -/
def KMap (P : Program) (K : TypeId) (w : World) (b n : Nat) (f : Lit → Option Value) : Prop :=
  ∃ D : DataW Value, w.ownsMap P K heldR b n D ∧ ∀ l, WideAt.IsKeyLit l → Maps.has D l = (f l).isSome ∧ ∀ z, D.atKey l z = ((f l).map DataW.held).getD z

variable {P : Program} {K : TypeId} {w : World} {b n : Nat} {f : Lit → Option Value}
theorem KMap.made (w : World) (P : Program) (K : TypeId) : KMap P K (w.alloc (.map #[] 0)) w.heap.size 0 (fun _ => none) :=
  ⟨.map [], World.ownsMap_made w P K heldR, fun _ _ => ⟨rfl, fun _ => rfl⟩⟩
theorem KMap.madeAt {k : Nat} (hk : k = w.heap.size) (P : Program) (K : TypeId) : KMap P K (w.alloc (.map #[] 0)) k 0 (fun _ => none) := hk ▸ KMap.made w P K
theorem KMap.lt (h : KMap P K w b n f) : b < w.heap.size := by obtain ⟨D, h1, _⟩ := h; exact h1.lt
theorem KMap.mono (h : KMap P K w b n f) {n' : Nat} (hn : n ≤ n') : KMap P K w b n' f := by obtain ⟨D, h1, h2⟩ := h; exact ⟨D, h1.mono hn, h2⟩
theorem KMap.congr {f' : Lit → Option Value} (h : KMap P K w b n f) (hf : ∀ l, WideAt.IsKeyLit l → f' l = f l) : KMap P K w b n f' := by
  obtain ⟨D, h1, h2⟩ := h; exact ⟨D, h1, fun l hl => by rw [hf l hl]; exact h2 l hl⟩
theorem KMap.block {w' : World} (h : KMap P K w b n f) (hb : w'.heap[b]? = w.heap[b]?) : KMap P K w' b n f := by
  obtain ⟨D, ⟨es, clock, h1, h2⟩, h3⟩ := h
  exact ⟨D, ⟨es, clock, hb.trans h1, h2⟩, h3⟩
theorem KMap.ext {w' : World} (h : KMap P K w b n f) (hb : Below w.heap.size w w') : KMap P K w' b n f := h.block (hb.block b h.lt)
theorem KMap.touch {w' : World} {k : Nat} (h : KMap P K w b n f) (ht : Touch k w w') (hn : b ≠ k) : KMap P K w' b n f := h.block (ht.block b h.lt hn)
theorem KMap.grown {w' : World} {row : Option Nat} (h : KMap P K w b n f) (hg : w.grownBy w' row) (hne : some b ≠ row) : KMap P K w' b n f := h.block (hg.block b h.lt hne)
theorem KMap.drewN (h : KMap P K w b n f) (j : Nat) : KMap P K (w.drewN j) b n f := h.block rfl
theorem KMap.look {t e : TypeId} (h : KMap P K w b n f) (Kd : Keyed P K) (ht : P.underlying t = some (.map K e)) {z : Value} (hz : (zeroValue e).run P w = .ok z w) {key : Value} {kl : Lit} (hkey : keyOf P K key = some kl) (hl : WideAt.IsKeyLit kl) :
    (Instr.lookup t (.map (some b)) key true).run P w = .ok (.tuple #[(f kl).getD z, .bool (f kl).isSome]) w := by
  obtain ⟨D, h1, h2⟩ := h
  obtain ⟨v, ps, hrun, hv⟩ := h1.look_ok Kd ht hz (zd := .held z) (zp := []) rfl hkey
  rw [hrun]
  obtain ⟨a1, a2⟩ := h2 kl hl
  rw [a2] at hv
  rw [a1]
  unfold heldR at hv
  cases hf : f kl with
  | none => rw [hf] at hv; simp at hv; simp [hv.1]
  | some u => rw [hf] at hv; simp at hv; simp [hv.1]
theorem KMap.look1 {t e : TypeId} (h : KMap P K w b n f) (Kd : Keyed P K) (ht : P.underlying t = some (.map K e)) {z : Value} (hz : (zeroValue e).run P w = .ok z w) {key : Value} {kl : Lit} (hkey : keyOf P K key = some kl) (hl : WideAt.IsKeyLit kl) :
    (Instr.lookup t (.map (some b)) key false).run P w = .ok ((f kl).getD z) w := by
  obtain ⟨D, h1, h2⟩ := h
  obtain ⟨v, ps, hrun, hv⟩ := h1.lookup Kd ht hz (zd := .held z) (zp := []) rfl hkey
  rw [hrun]
  obtain ⟨a1, a2⟩ := h2 kl hl
  rw [a2] at hv
  unfold heldR at hv
  cases hf : f kl with
  | none => rw [hf] at hv; simp at hv; simp [hv.1]
  | some u => rw [hf] at hv; simp at hv; simp [hv.1]
theorem KMap.put {t e : TypeId} (h : KMap P K w b n f) (Kd : Keyed P K) (ht : P.underlying t = some (.map K e)) (hn : n < maxLen) {key val : Value} {kl : Lit} (hkey : keyOf P K key = some kl) (hl : WideAt.IsKeyLit kl) :
    ∃ w', (Instr.mapUpdate t (.map (some b)) key val).run P w = .ok () w' ∧ (∀ f' : Lit → Option Value, f' kl = some val → (∀ l, WideAt.IsKeyLit l → l ≠ kl → f' l = f l) → KMap P K w' b (n + 1) f') ∧ w.grownBy w' (some b) := by
  obtain ⟨D, h1, h2⟩ := h
  have hi := h1.isMap
  obtain ⟨w', hrun, r1, r2⟩ := h1.update Kd ht hn hkey (d := .held val) (ps := []) (val := val) rfl
  refine ⟨w', hrun, fun f' hf1 hf2 => ⟨_, r1, fun l hk => ?_⟩, r2⟩
  by_cases he : l = kl
  · subst he
    rw [hf1]
    exact ⟨has_put_same hi hl _, fun z => by rw [atKey_put_same hi hl]; rfl⟩
  · rw [hf2 l hk he]
    exact ⟨by rw [has_put_other he]; exact (h2 l hk).1, fun z => by rw [atKey_put_other he]; exact (h2 l hk).2 z⟩
/-- the law at the operation -/
theorem wpList_put {ops : Array Oper} {rest : List Oper} {o : Oper} {a : Act} {Q : Exit → Act → World → Prop} (hg : o.guard = none) (m x v : Operand) (t : TypeId) (hop : o.op = Op.mapUpdate t m x v ∨ o.op = Op.insert t m x v) (hd : o.dst = none)
    (e : TypeId) (Kd : Keyed P K) (ht : P.underlying t = some (.map K e)) (hm : a.eval m = .map (some b)) (h : KMap P K w b n f) (hn : n < maxLen) (key val : Value) (kl : Lit) (hx : a.eval x = key) (hv : a.eval v = val) (hkey : keyOf P K key = some kl) (hl : WideAt.IsKeyLit kl)
    (hK : ∀ w', (∀ f' : Lit → Option Value, f' kl = some val → (∀ l, WideAt.IsKeyLit l → l ≠ kl → f' l = f l) → KMap P K w' b (n + 1) f') → w.grownBy w' (some b) → wpList P ops Q rest a w') :
    wpList P ops Q (o :: rest) a w := by
  refine wpList_plain hg fun K' hK' => ?_
  obtain ⟨w', hrun, r1, r2⟩ := h.put Kd ht hn (val := val) hkey hl
  unfold Oper.wp
  have he : (execOp a.eval o).run P w = .ok .skip w' := by
    rcases hop with hop | hop <;> simp [execOp, hop, hm, hx, hv, hrun, Result.andThen]
  rw [he, Oper.upon_skip, hd]
  exact hK' _ _ (hK w' r1 r2)
theorem isKey_string (l : List UInt8) : WideAt.IsKeyLit (.string l) := trivial
theorem isKey_int (q : IntKind) (x : Int) : WideAt.IsKeyLit (.int q x) := trivial

end Go.Proofs.YtnoieobjfihbeaaGreatDoor
