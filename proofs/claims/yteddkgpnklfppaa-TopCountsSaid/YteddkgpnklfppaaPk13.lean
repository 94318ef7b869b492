/-
  The walk of TopCounts (printed by gentad.py).
-/
import Derived.Test.YteddkgpnklfppaaPk12

namespace Go.Proofs.Yteddkgpnklfppaa
open Go.RowKit Go.Sort Go.Maps

/-- points in memory -/
def PtRow (w : World) (v : Value) (l : List (Int × Int)) : Prop := ∃ p c, v = .slice p l.length c ∧ (0 < l.length → ∃ g off, p = some ⟨g, off, none⟩ ∧ g < w.heap.size ∧ ∀ i (h : i < l.length), w.cell? ⟨g, off + i * 2, none⟩ = some (.int .i64 l[i].1) ∧ w.cell? ⟨g, off + i * 2 + 1, none⟩ = some (.int .i64 l[i].2))
theorem cell_keep {S : Nat → Prop} {w w' : World} (hk : Keep S w w') {g o : Nat} {u : Value} (h : w.cell? ⟨g, o, none⟩ = some u) (hs : ¬ S g) : w'.cell? ⟨g, o, none⟩ = some u :=
  (World.cell?_of_block (w := w) (a := ⟨g, o, none⟩) (hk.block g (World.block_lt_of_cell? _ _ h) hs)).trans h
/-- what the loop knows of the records -/
structure RInv (A : List Tc.Rec) (i : Nat) : Prop where
  fit : ∀ r ∈ A, r.fit
  len : A.length ≤ i
  ids : ∀ r ∈ A, 0 ≤ r.id ∧ r.id < i
  dist : A.Pairwise fun x y => x.id ≠ y.id
theorem RInv.next {A : List Tc.Rec} {i : Nat} (h : RInv A i) : RInv A (i + 1) :=
  ⟨h.fit, Nat.le_succ_of_le h.len, fun r hr => ⟨(h.ids r hr).1, by have := (h.ids r hr).2; omega⟩, h.dist⟩
theorem RInv.snoc {A : List Tc.Rec} {i : Nat} (h : RInv A i) {r : Tc.Rec} (hr : r.fit) (hi : r.id = i) : RInv (A ++ [r]) (i + 1) := by
  refine ⟨fun x hx => ?_, by rw [List.length_append]; have := h.len; simp; omega, fun x hx => ?_, ?_⟩
  · rcases List.mem_append.1 hx with hx | hx
    · exact h.fit x hx
    · obtain rfl := List.mem_singleton.1 hx; exact hr
  · rcases List.mem_append.1 hx with hx | hx
    · have := h.ids x hx; omega
    · obtain rfl := List.mem_singleton.1 hx; omega
  · rw [List.pairwise_append]
    refine ⟨h.dist, List.pairwise_singleton _ _, fun x hx y hy => ?_⟩
    obtain rfl := List.mem_singleton.1 hy
    have := (h.ids x hx).2
    omega
theorem fits_rec {x z i : Int} (h : Ru.fits x z = true) : (⟨i, x, z, 0⟩ : Tc.Rec).fit := by
  unfold Ru.fits Ru.inside at h
  simp only [Bool.and_eq_true, decide_eq_true_eq] at h
  unfold Tc.Rec.fit
  simp only
  omega
set_option maxRecDepth 100000 in
set_option maxHeartbeats 16000000 in
theorem counts_walk {w : World} {v : Value} {l : List (Int × Int)} {cl cx cy px py K a : Int} (h : PtRow w v l) :
    Calls Try.prog 3 #[v, cellV cl cx cy, pointV px py, profV K a] w fun e w' => e = .returned (.bool true) ∧ Below w.heap.size w w' := by
  obtain ⟨vp, vc, rfl, hrow⟩ := h
  have hRW := hid hrow
  have z1 := balloc w (.cells #[.int .i64 cl, .int .i64 cx, .int .i64 cy] 24)
  have z2 := balloc (w.alloc (.cells #[.int .i64 cl, .int .i64 cx, .int .i64 cy] 24)) (.cells #[.int .i64 px, .int .i64 py] 26)
  have z3 := balloc ((w.alloc (.cells #[.int .i64 cl, .int .i64 cx, .int .i64 cy] 24)).alloc (.cells #[.int .i64 px, .int .i64 py] 26)) (.cells #[.int .i64 K, .int .u64 a] 29)
  have Q0 := hid (bthen (bthen z1 z2) z3)
  have E0 := hid (((Blk.new w #[.int .i64 cl, .int .i64 cx, .int .i64 cy] 24).ext z2).ext z3)
  have F0 := hid ((Blk.newAt (w := (w.alloc (.cells #[.int .i64 cl, .int .i64 cx, .int .i64 cy] 24))) (k := w.heap.size + 1) (by simp) #[.int .i64 px, .int .i64 py] 26).ext z3)
  have G0 := hid (Blk.newAt (w := ((w.alloc (.cells #[.int .i64 cl, .int .i64 cx, .int .i64 cy] 24)).alloc (.cells #[.int .i64 px, .int .i64 py] 26))) (k := w.heap.size + 1 + 1) (by simp) #[.int .i64 K, .int .u64 a] 29)
  have hct := hid (fun w1 => tcounted_any w1)
  have hnew : Hid (∀ w, Calls Try.prog 5 #[.int .i64 2] w fun e w' => NewPost w 2 e w' ∧ Below w.heap.size w w') := hid (fun w => tqnew_any (b := 2) (by decide) (by decide) w)
  clear hrow z1 z2 z3
  unfold profV pointV cellV at *
  go_enter Try.func3, Try.ntmps3
  go_upto_region 1 with (fail)
  generalize (((w.alloc (.cells #[.int .i64 cl, .int .i64 cx, .int .i64 cy] 24)).alloc (.cells #[.int .i64 px, .int .i64 py] 26)).alloc (.cells #[.int .i64 K, .int .u64 a] 29)) = w0 at *
  go_wp2_with fail
  refine (tpnew_any w0).mono ?_
  rintro e w1 ⟨rfl, hP, hb1⟩
  have P1 := hid hP
  have E1 := hid (E0.out.ext hb1)
  have F1 := hid (F0.out.ext hb1)
  have G1 := hid (G0.out.ext hb1)
  have Q1 := hid (bthen Q0.out hb1)
  have hy : w.heap.size + 1 + 1 < w0.heap.size := G0.out.lt
  clear hP hb1 E0 F0 G0 Q0
  generalize w0.heap.size = yb at *
  go_wp2_with fail
  refine (hnew.out w1).mono ?_
  rintro e w2 ⟨⟨t, m, O, rfl, hm, hT⟩, hb2⟩
  have P2 := hid (P1.out.ext hb2)
  have T2 := hid hT
  have E2 := hid (E1.out.ext hb2)
  have F2 := hid (F1.out.ext hb2)
  have G2 := hid (G1.out.ext hb2)
  have Q2 := hid (bthen Q1.out hb2)
  have hfar : yb + 17 < m := Nat.lt_of_lt_of_le P1.out.lt hm
  clear hb2 hT P1 E1 F1 G1 Q1 hnew
  by_cases hL : 60 < l.length
  · have hL' : (60 : Int) < l.length := by omega
    clear hL
    go_wp2_with fail
    refine (hct.out _).mono ?_
    rintro e w3 ⟨rfl, hb3⟩
    have Q3 := hid (bthen Q2.out hb3)
    clear hb3
    go_wp2_with fail
    go_ret
    exact ⟨rfl, Q3.out⟩
  · have hd1 : decide ((60 : Int) < l.length) = false := decide_eq_false (by omega)
    have hl60 : l.length ≤ 60 := by omega
    clear hL
    go_wp2_with fail
    go_loopw [12] (fun u12 wr => ∃ (i : Nat) (N : List Tc.Node) (A : List Tc.Rec) (O : Nat → Prop), u12 = .int .i64 i ∧ i ≤ l.length ∧ Two wr yb t m 2 N A O ∧ RInv A i ∧ Blk wr w.heap.size #[.int .i64 cl, .int .i64 cx, .int .i64 cy] 24 ∧ Blk wr (w.heap.size + 1) #[.int .i64 px, .int .i64 py] 26 ∧ Blk wr (w.heap.size + 1 + 1) #[.int .i64 K, .int .u64 a] 29 ∧ Below w.heap.size w wr) (fun u12 _ => l.length - (intOf u12).toNat)
    case atStart => exact ⟨0, _, [], O, rfl, Nat.zero_le _, ⟨P2.out, T2.out, hfar⟩, ⟨(fun r hr => by cases hr), Nat.le_refl _, (fun r hr => by cases hr), List.Pairwise.nil⟩, E2.out, F2.out, G2.out, Q2.out⟩
    case round =>
      obtain ⟨i, N, A, O, rfl, hi, hTw, hI, hE, hF, hG, hQ⟩ := hrel
      have P3 := hid hTw.py
      have T3 := hid hTw.tr
      have I3 := hid hI
      have E3 := hid hE
      have F3 := hid hF
      have G3 := hid hG
      have Q3 := hid hQ
      clear hTw hI hE hF hG hQ P2 T2 E2 F2 G2 Q2
      by_cases hlt : i < l.length
      · obtain ⟨g, off, rfl, hg, hcs⟩ := hRW.out (by omega)
        obtain ⟨x, z, hxz⟩ : ∃ x z, l[i] = (x, z) := ⟨_, _, rfl⟩
        have hc := hcs i hlt
        rw [hxz] at hc
        simp only at hc
        have k0 : wr.cell? ⟨g, off + i * 2, none⟩ = some (.int .i64 x) := (Q3.out.cell (p := ⟨g, off + i * 2, none⟩) hg).trans hc.1
        have k1 : wr.cell? ⟨g, off + i * 2 + 1, none⟩ = some (.int .i64 z) := (Q3.out.cell (p := ⟨g, off + i * 2 + 1, none⟩) hg).trans hc.2
        have H0 : wr.cell? ⟨g, off + i * 2, none⟩ = some (.int .i64 x) ∧ wr.cell? ⟨g, off + i * 2 + 1, none⟩ = some (.int .i64 z) := ⟨k0, k1⟩
        have H1 : wr.drew.cell? ⟨g, off + i * 2, none⟩ = some (.int .i64 x) ∧ wr.drew.cell? ⟨g, off + i * 2 + 1, none⟩ = some (.int .i64 z) := ⟨k0, k1⟩
        have hi0 : (0 : Int) ≤ i := by omega
        have hiI : (i : Int) < l.length := by omega
        have hwi : IntKind.i64.wrap (i : Int) = i := IntWalk.i64_in _ (by omega)
        have P4 := hid (show Py wr.drew yb A from P3.out.ext (Below.refl _ _).drew)
        have T4 := hid (show TrW wr.drew t m 2 N A O from T3.out.ext (Below.refl _ _).drew)
        have E4 := hid (Blk.drew E3.out)
        have F4 := hid (Blk.drew F3.out)
        have G4 := hid (Blk.drew G3.out)
        have Q4 := hid Q3.out.drew
        have hws := hid (show w.heap.size ≤ wr.heap.size from Q3.out.size)
        clear hc hxz hcs k0 k1 P3 T3 E3 F3 G3 Q3
        cases hfx : Ru.fits x z with
        | true =>
          have hfit : (⟨i, x, z, 0⟩ : Tc.Rec).fit := fits_rec hfx
          have hadd := hid (tadd_yes P4.out hfit (by have := I3.out.len; omega))
          unfold pointV at hadd
          simp only at hadd
          have I4 := hid (I3.out.snoc hfit rfl)
          have hfit' := hid hfit
          clear hfx hfit
          go_upto_region 8 with (fail)
          go_region_held3 (fun w' => w'.cell? ⟨g, off + i * 2, none⟩ = some (.int .i64 x) ∧ w'.cell? ⟨g, off + i * 2 + 1, none⟩ = some (.int .i64 z)) (first | with_reducible assumption | go_keep) (first
            | ((go_at_call 7
                with_reducible refine hadd.out.mono ?_
                rintro en w6 ⟨rfl, hP, hK⟩
                have P6 := hid hP
                have T6 := hid (T4.out.other hfar hK)
                have E6 := hid (Blk.keep E4.out hK (fun e => by have := e.1; omega))
                have F6 := hid (Blk.keep F4.out hK (fun e => by have := e.1; omega))
                have G6 := hid (Blk.keep G4.out hK (fun e => by have := e.1; omega))
                have Q6 := hid (Q4.out.trans (hK.below Q4.out.size (fun k hk => by have := hk.1; omega)))
                have H6 : w6.cell? ⟨g, off + i * 2, none⟩ = some (.int .i64 x) ∧ w6.cell? ⟨g, off + i * 2 + 1, none⟩ = some (.int .i64 z) := ⟨cell_keep hK H1.1 (fun e => by have := e.1; omega), cell_keep hK H1.2 (fun e => by have := e.1; omega)⟩
                have hins := hid (tins_yes T6.out hfit'.out (show (0 : Int) ≤ (i : Int) by omega) (show (i : Int) ≤ 1000 by omega) (fun r hr => by have := (I3.out.ids r hr).2; exact fun e => by simp only at e; omega) (by have := I3.out.len; omega))
                unfold recArr at hins
                simp only at hins
                clear hP hK H1 H0))
            | ((go_at_call 8
                with_reducible refine hins.out.mono ?_
                rintro en w7 ⟨rfl, O7, hT, hO, hK⟩
                have hord := T6.out.ord
                have hbd := T6.out.mem.bd
                have hno : ∀ k, k ≤ yb → ¬ TwS t m O k := fun k hk e => by
                  rcases e with rfl | rfl | e
                  · omega
                  · omega
                  · have := (hbd _ e).1
                    omega
                have P7 := hid (P6.out.other T6.out hfar hK)
                have T7 := hid hT
                have E7 := hid (Blk.keep E6.out hK (hno _ (by omega)))
                have F7 := hid (Blk.keep F6.out hK (hno _ (by omega)))
                have G7 := hid (Blk.keep G6.out hK (hno _ (by omega)))
                have Q7 := hid (Q6.out.trans (hK.below Q6.out.size (fun k hk => by
                  rcases Nat.lt_or_ge k w.heap.size with h | h
                  · exact absurd hk (hno k (by omega))
                  · exact h)))
                have H7 : w7.cell? ⟨g, off + i * 2, none⟩ = some (.int .i64 x) ∧ w7.cell? ⟨g, off + i * 2 + 1, none⟩ = some (.int .i64 z) := ⟨cell_keep hK H6.1 (hno _ (by omega)), cell_keep hK H6.2 (hno _ (by omega))⟩
                clear hT hO hK H6 hno hbd hord)))
          go_wp2_with fail
          go_roundw
          case rel => exact ⟨i + 1, _, _, O7, by go_num, by omega, ⟨P7.out, T7.out, hfar⟩, I4.out, E7.out, F7.out, G7.out, Q7.out⟩
          case measure => simp [intOf]; omega
        | false =>
          have hadd := hid (tadd_no P4.out hfx)
          unfold pointV at hadd
          have hfx' := hid hfx
          clear hfx
          go_upto_region 8 with (fail)
          go_region_held3 (fun w' => w'.cell? ⟨g, off + i * 2, none⟩ = some (.int .i64 x) ∧ w'.cell? ⟨g, off + i * 2 + 1, none⟩ = some (.int .i64 z)) (first | with_reducible assumption | go_keep) (first
            | ((go_at_call 7
                with_reducible refine hadd.out.mono ?_
                rintro en w6 ⟨rfl, hb⟩
                have P6 := hid (P4.out.ext hb)
                have T6 := hid (T4.out.ext hb)
                have E6 := hid (E4.out.ext hb)
                have F6 := hid (F4.out.ext hb)
                have G6 := hid (G4.out.ext hb)
                have Q6 := hid (bthen Q4.out hb)
                have H6 : w6.cell? ⟨g, off + i * 2, none⟩ = some (.int .i64 x) ∧ w6.cell? ⟨g, off + i * 2 + 1, none⟩ = some (.int .i64 z) := ⟨(hb.cell (p := ⟨g, off + i * 2, none⟩) (World.block_lt_of_cell? _ _ H1.1)).trans H1.1, (hb.cell (p := ⟨g, off + i * 2 + 1, none⟩) (World.block_lt_of_cell? _ _ H1.2)).trans H1.2⟩
                have hins := hid (tins_no T6.out (r := ⟨i, x, z, 0⟩) hfx'.out)
                unfold recArr at hins
                simp only at hins
                clear hb H1 H0))
            | ((go_at_call 8
                with_reducible refine hins.out.mono ?_
                rintro en w7 ⟨rfl, hb⟩
                have P7 := hid (P6.out.ext hb)
                have T7 := hid (T6.out.ext hb)
                have E7 := hid (E6.out.ext hb)
                have F7 := hid (F6.out.ext hb)
                have G7 := hid (G6.out.ext hb)
                have Q7 := hid (bthen Q6.out hb)
                have H7 : w7.cell? ⟨g, off + i * 2, none⟩ = some (.int .i64 x) ∧ w7.cell? ⟨g, off + i * 2 + 1, none⟩ = some (.int .i64 z) := ⟨(hb.cell (p := ⟨g, off + i * 2, none⟩) (World.block_lt_of_cell? _ _ H6.1)).trans H6.1, (hb.cell (p := ⟨g, off + i * 2 + 1, none⟩) (World.block_lt_of_cell? _ _ H6.2)).trans H6.2⟩
                clear hb H6)))
          go_wp2_with fail
          go_roundw
          case rel => exact ⟨i + 1, _, _, O, by go_num, by omega, ⟨P7.out, T7.out, hfar⟩, I3.out.next, E7.out, F7.out, G7.out, Q7.out⟩
          case measure => simp [intOf]; omega
      · have hiE : ¬ ((i : Int) < l.length) := by omega
        have hIl := hid (show A.length ≤ 60 by have := I3.out.len; omega)
        have hI4 := hid I3.out
        have hbx : Hid (∃ (bx : Po.Box) (ok : Bool), Hid (∀ w1, Calls Try.prog 9 #[.agg #[.int .i64 cl, .int .i64 cx, .int .i64 cy]] w1 fun e w' => e = .returned (.tuple #[.agg #[.int .i64 bx.x0, .int .i64 bx.y0, .int .i64 bx.x1, .int .i64 bx.y1], .bool ok]) ∧ Below w1.heap.size w1 w') ∧ (ok = true → ∃ n : Nat, Hid (∀ w1, Py w1 yb A → Calls Try.prog 10 #[.pointer (some ⟨yb, 0, none⟩), .agg #[.int .i64 cl, .int .i64 cx, .int .i64 cy]] w1 fun e w' => e = .returned (.int .i64 n) ∧ Below w1.heap.size w1 w') ∧ Hid (∀ w1, TrW w1 t m 2 N A O → Calls Try.prog 11 #[.pointer (some ⟨t, 0, none⟩), .agg #[.int .i64 bx.x0, .int .i64 bx.y0, .int .i64 bx.x1, .int .i64 bx.y1]] w1 fun e w' => e = .returned (.int .i64 n) ∧ Below w1.heap.size w1 w'))) := by
          refine hid ?_
          cases hcr : cellR cl cx cy with
          | false => exact ⟨⟨0, 0, 0, 0⟩, false, hid (fun w1 => tbox_no hcr w1), fun e => by cases e⟩
          | true =>
            obtain ⟨k, rfl, hk, h1, h2, h3, h4⟩ : ∃ k : Nat, cl = k ∧ k ≤ 16 ∧ 0 ≤ cx ∧ cx < 2 ^ k ∧ 0 ≤ cy ∧ cy < 2 ^ k := by
              unfold cellR at hcr
              simp only [Bool.and_eq_true, decide_eq_true_eq] at hcr
              obtain ⟨⟨⟨⟨⟨q1, q2⟩, q3⟩, q4⟩, q5⟩, q6⟩ := hcr
              exact ⟨cl.toNat, by omega, by omega, q3, q5, q4, q6⟩
            refine ⟨boxOf k cx cy, true, hid (fun w1 => tbox_yes hk h1 h2 h3 h4 w1), fun _ => ⟨cntB A (boxOf k cx cy), hid (fun w1 hP => ?_), hid (fun w1 hT => ?_)⟩⟩
            · have h := tcount_yes hP hk h1 h2 h3 h4
              rw [cnt_box hI4.out.fit hk h1 h2 h3 h4] at h
              exact h
            · exact tqcount_yes hT (by have := hIl.out; omega) (boxOf_right hk h1 h2 h3 h4)
        obtain ⟨bx, ok, hbox, hboth⟩ := hbx.out
        have hbo := hid hboth
        have hlenA := hid (show A.length ≤ 500 by have := hIl.out; omega)
        clear hbx hboth hi
        obtain ⟨x0, x1, x2, xf, xz⟩ := E3.out.three
        go_wp2_with fail
        refine (hbox.out _).mono ?_
        rintro e w4 ⟨rfl, hb4⟩
        have z5 := balloc w4 (.cells #[.int .i64 bx.x0, .int .i64 bx.y0, .int .i64 bx.x1, .int .i64 bx.y1] 42)
        have P5 := hid ((P3.out.ext hb4).ext z5)
        have T5 := hid ((T3.out.ext hb4).ext z5)
        have E5 := hid ((E3.out.ext hb4).ext z5)
        have F5 := hid ((F3.out.ext hb4).ext z5)
        have G5 := hid ((G3.out.ext hb4).ext z5)
        have Q5 := hid (bthen (bthen Q3.out hb4) z5)
        have R5 := hid (Blk.new w4 #[.int .i64 bx.x0, .int .i64 bx.y0, .int .i64 bx.x1, .int .i64 bx.y1] 42)
        clear z5 hb4 x0 x1 x2 xf xz P3 T3 E3 F3 G3 Q3 I3
        go_upto_region 11 with (first | (refine wpList_store_new rfl 42 (.tmp 13) (.tmp 68) rfl rfl w4 42 _ (#[.int .i64 bx.x0, .int .i64 bx.y0, .int .i64 bx.x1, .int .i64 bx.y1]) rfl rfl rfl (by kernel_rfl) rfl (rfl) ?_))
        generalize w4.alloc (.cells #[.int .i64 bx.x0, .int .i64 bx.y0, .int .i64 bx.x1, .int .i64 bx.y1] 42) = w5 at *
        generalize w4.heap.size = p13 at *
        go_cut [86] (fun s86 wx => s86 = .bool false ∧ Below w5.heap.size w5 wx)
        case first =>
          have hne : ((A.length : Int) != A.length) = false := by simp
          have cT : ∀ d os, Calls Try.prog 12 #[.pointer (some ⟨yb, 0, none⟩)] (grow (redrawn w5 d) os) fun e w'' => e = .returned (.int .i64 A.length) ∧ ∃ p : Regrown, w'' = grow (redrawn w5 p.d) p.os := fun d os => Calls.regrown_of (ttotal_any (P5.out.ext (below_regrown _ _ _)))
          have cL : ∀ d os, Calls Try.prog 13 #[.pointer (some ⟨t, 0, none⟩)] (grow (redrawn w5 d) os) fun e w'' => e = .returned (.int .i64 A.length) ∧ ∃ p : Regrown, w'' = grow (redrawn w5 p.d) p.os := fun d os => Calls.regrown_of ((tlen_any (T5.out.ext (below_regrown _ _ _)) hI4.out.dist).mono fun e w' ⟨h1, h2⟩ => ⟨h1, h2 ▸ Below.refl _ _⟩)
          cases ok with
          | false =>
            refine wp_region_quiet_below (by kernel_rfl) (by kernel_rfl) ?_
            quiet_step (fail)
            quiet_step (fail)
            quiet_step (fail)
            quiet_step (fail)
            quiet_step (fail)
            quiet_step (fail)
            quiet_step (fail)
            quiet_step (fail)
            quiet_step (fail)
            quiet_step (fail)
            quiet_step (fail)
            quiet_step (fail)
            quiet_step (exact cT _ _)
            quiet_step (fail)
            quiet_step (exact cL _ _)
            quiet_step (fail)
            quiet_step (fail)
            refine wpQuiet_nil ?_
            intro _ hw'
            obtain ⟨pp, hw''⟩ := hw'
            subst hw''
            go_wp2_with fail
            go_meet
            case rel => exact ⟨rfl, below_regrown w5 pp.d pp.os⟩
          | true =>
            obtain ⟨n, hc1, hc2⟩ := hbo.out rfl
            have hnn : ((n : Int) != n) = false := by simp
            have e0 := cell_regrown (E5.out.cell 0 (v := .int .i64 cl) rfl)
            have e1 := cell_regrown (E5.out.cell 1 (v := .int .i64 cx) rfl)
            have e2 := cell_regrown (E5.out.cell 2 (v := .int .i64 cy) rfl)
            have r0 := cell_regrown (R5.out.cell 0 (v := .int .i64 bx.x0) rfl)
            have r1 := cell_regrown (R5.out.cell 1 (v := .int .i64 bx.y0) rfl)
            have r2 := cell_regrown (R5.out.cell 2 (v := .int .i64 bx.x1) rfl)
            have r3 := cell_regrown (R5.out.cell 3 (v := .int .i64 bx.y1) rfl)
            have cC : ∀ d os, Calls Try.prog 10 #[.pointer (some ⟨yb, 0, none⟩), .agg #[.int .i64 cl, .int .i64 cx, .int .i64 cy]] (grow (redrawn w5 d) os) fun e w'' => e = .returned (.int .i64 n) ∧ ∃ p : Regrown, w'' = grow (redrawn w5 p.d) p.os := fun d os => Calls.regrown_of (hc1.out _ (P5.out.ext (below_regrown _ _ _)))
            have cQ : ∀ d os, Calls Try.prog 11 #[.pointer (some ⟨t, 0, none⟩), .agg #[.int .i64 bx.x0, .int .i64 bx.y0, .int .i64 bx.x1, .int .i64 bx.y1]] (grow (redrawn w5 d) os) fun e w'' => e = .returned (.int .i64 n) ∧ ∃ p : Regrown, w'' = grow (redrawn w5 p.d) p.os := fun d os => Calls.regrown_of (hc2.out _ (T5.out.ext (below_regrown _ _ _)))
            refine wp_region_quiet_below (by kernel_rfl) (by kernel_rfl) ?_
            quiet_step (fail)
            quiet_step (fail)
            quiet_step (fail)
            quiet_step (fail)
            quiet_step (exact cC _ _)
            quiet_step (fail)
            quiet_step (fail)
            quiet_step (exact cQ _ _)
            quiet_step (fail)
            quiet_step (fail)
            quiet_step (fail)
            quiet_step (fail)
            quiet_step (exact cT _ _)
            quiet_step (fail)
            quiet_step (exact cL _ _)
            quiet_step (fail)
            quiet_step (fail)
            refine wpQuiet_nil ?_
            intro _ hw'
            obtain ⟨pp, hw''⟩ := hw'
            subst hw''
            go_wp2_with fail
            go_meet
            case rel => exact ⟨rfl, below_regrown w5 pp.d pp.os⟩
        case rest =>
        obtain ⟨rfl, hcb⟩ := hcut
        have P6 := hid (P5.out.ext hcb)
        have T6 := hid (T5.out.ext hcb)
        have F6 := hid (F5.out.ext hcb)
        have G6 := hid (G5.out.ext hcb)
        have Q6 := hid (bthen Q5.out hcb)
        clear hcb P5 T5 E5 F5 G5 Q5 R5 hbo hbox
        have hfd := hid (tfind_any (x := px) (y := py) (K := K) (a := a) P6.out hI4.out.fit hlenA.out)
        unfold FindPost ckArr pointV profV at hfd
        obtain ⟨x0, x1, xf, xz⟩ := F6.out.two
        obtain ⟨y0, y1, yf, yz⟩ := G6.out.two
        go_wp2_with fail
        refine hfd.out.mono ?_
        rintro e w8 ⟨⟨b3, l3, x3, y3, kd3, n3, g3, rfl, hgd⟩, hb8⟩
        have hgd' := hid hgd
        have z9 := balloc w8 (.cells #[.int .i64 b3.x0, .int .i64 b3.y0, .int .i64 b3.x1, .int .i64 b3.y1, .int .i64 l3, .int .i64 x3, .int .i64 y3, .int .i64 kd3, .int .i64 (n3 : Nat)] 49)
        have T9 := hid ((T6.out.ext hb8).ext z9)
        have Q9 := hid (bthen (bthen Q6.out hb8) z9)
        have D9 := hid (Blk.new w8 #[.int .i64 b3.x0, .int .i64 b3.y0, .int .i64 b3.x1, .int .i64 b3.y1, .int .i64 l3, .int .i64 x3, .int .i64 y3, .int .i64 kd3, .int .i64 (n3 : Nat)] 49)
        clear z9 hb8 hgd x0 x1 xf xz y0 y1 yf yz P6 T6 F6 G6 Q6 hfd
        go_upto_region 14 with (first | (refine wpList_store_new rfl 49 (.tmp 15) (.tmp 92) rfl rfl w8 49 _ (#[.int .i64 b3.x0, .int .i64 b3.y0, .int .i64 b3.x1, .int .i64 b3.y1, .int .i64 l3, .int .i64 x3, .int .i64 y3, .int .i64 kd3, .int .i64 (n3 : Nat)]) rfl rfl rfl (by kernel_rfl) rfl (rfl) ?_))
        generalize w8.alloc (.cells #[.int .i64 b3.x0, .int .i64 b3.y0, .int .i64 b3.x1, .int .i64 b3.y1, .int .i64 l3, .int .i64 x3, .int .i64 y3, .int .i64 kd3, .int .i64 (n3 : Nat)] 49) = w9 at *
        generalize w8.heap.size = p15 at *
        have cc : ∀ d os, Calls Try.prog 6 #[] (grow (redrawn w9 d) os) fun e w'' => e = .returned (.bool true) ∧ ∃ p : Regrown, w'' = grow (redrawn w9 p.d) p.os := fun d os => Calls.regrown_of (hct.out _)
        by_cases hg3 : g3 = 0
        · subst hg3
          obtain ⟨hR, hn3⟩ := hgd'.out (by first | trivial | rfl)
          have hnn : ((n3 : Int) == n3) = true := by simp
          have r0 := cell_regrown (D9.out.cell 0 (v := .int .i64 b3.x0) rfl)
          have r1 := cell_regrown (D9.out.cell 1 (v := .int .i64 b3.y0) rfl)
          have r2 := cell_regrown (D9.out.cell 2 (v := .int .i64 b3.x1) rfl)
          have r3 := cell_regrown (D9.out.cell 3 (v := .int .i64 b3.y1) rfl)
          have r8 := cell_regrown (D9.out.cell 8 (v := .int .i64 (n3 : Nat)) rfl)
          have cQ : ∀ d os, Calls Try.prog 11 #[.pointer (some ⟨t, 0, none⟩), .agg #[.int .i64 b3.x0, .int .i64 b3.y0, .int .i64 b3.x1, .int .i64 b3.y1]] (grow (redrawn w9 d) os) fun e w'' => e = .returned (.int .i64 (n3 : Nat)) ∧ ∃ p : Regrown, w'' = grow (redrawn w9 p.d) p.os := fun d os => Calls.regrown_of (by have h := tqcount_yes (T9.out.ext (below_regrown w9 d os)) (by have := hIl.out; omega) hR; rw [show (A.filter (hasP b3)).length = n3 from hn3.symm] at h; exact h)
          clear hR hn3
          refine wp_region_quiet_below (by kernel_rfl) (by kernel_rfl) ?_
          quiet_step (fail)
          quiet_step (fail)
          quiet_step (fail)
          quiet_step (fail)
          quiet_step (fail)
          quiet_step (fail)
          quiet_step (fail)
          quiet_step (fail)
          quiet_step (exact cQ _ _)
          quiet_step (fail)
          quiet_step (fail)
          quiet_step (fail)
          quiet_step (exact cc _ _)
          quiet_step (fail)
          quiet_step (fail)
          refine wpQuiet_nil ?_
          intro _ hw'
          obtain ⟨pp, hw''⟩ := hw'
          subst hw''
          have Q10 := hid (bthen Q9.out (below_regrown w9 pp.d pp.os))
          clear r0 r1 r2 r3 r8 cQ cc
          go_wp2_with fail
          go_ret
          exact ⟨rfl, Q10.out⟩
        · have hgb : (g3 != 0) = true := by rw [bne_iff_ne]; exact hg3
          clear hg3
          refine wp_region_quiet_below (by kernel_rfl) (by kernel_rfl) ?_
          quiet_step (fail)
          quiet_step (fail)
          quiet_step (fail)
          quiet_step (fail)
          quiet_step (fail)
          quiet_step (fail)
          quiet_step (fail)
          quiet_step (fail)
          quiet_step (fail)
          quiet_step (fail)
          quiet_step (fail)
          quiet_step (fail)
          quiet_step (exact cc _ _)
          quiet_step (fail)
          quiet_step (fail)
          refine wpQuiet_nil ?_
          intro _ hw'
          obtain ⟨pp, hw''⟩ := hw'
          subst hw''
          have Q10 := hid (bthen Q9.out (below_regrown w9 pp.d pp.os))
          clear cc
          go_wp2_with fail
          go_ret
          exact ⟨rfl, Q10.out⟩

end Go.Proofs.Yteddkgpnklfppaa
