/-
  The walk of TopCounts: counted.
-/
import Derived.Test.YteddkgpnklfppaaPk11

namespace Go.Proofs.Yteddkgpnklfppaa
open Go.RowKit Go.Sort Go.Maps

/-- the pyramid and the tree beside each other -/
structure Two (w : World) (y t m b : Nat) (N : List Tc.Node) (A : List Tc.Rec) (O : Nat → Prop) : Prop where
  py : Py w y A
  tr : TrW w t m b N A O
  far : y + 17 < m
theorem Two.ext {w w' : World} {y t m b : Nat} {N : List Tc.Node} {A : List Tc.Rec} {O : Nat → Prop} (h : Two w y t m b N A O) (hb : Below w.heap.size w w') : Two w' y t m b N A O := ⟨h.py.ext hb, h.tr.ext hb, h.far⟩
theorem TrW.other {w w' : World} {y t m b : Nat} {N : List Tc.Node} {A : List Tc.Rec} {O : Nat → Prop} (h : TrW w t m b N A O) (hf : y + 17 < m) (hk : Keep (PyS y) w w') : TrW w' t m b N A O :=
  h.keep hk (fun k hs => by
    have h1 := h.ord
    have h2 : y < k ∧ k ≤ y + 17 := hs
    refine ⟨by omega, by omega, fun e => ?_⟩
    have := (h.mem.bd _ e).1
    omega)
theorem Pyr.other {w w' : World} {y t m b : Nat} {N : List Tc.Node} {A B : List Tc.Rec} {O : Nat → Prop} (h : Py w y B) (hT : TrW w t m b N A O) (hf : y + 17 < m) (hk : Keep (TwS t m O) w w') : Py w' y B :=
  h.keep hk (fun k hs => by
    have h1 := hT.ord
    rcases hs with rfl | rfl | e
    · omega
    · omega
    · have := (hT.mem.bd _ e).1
      omega)
set_option maxRecDepth 100000 in
set_option maxHeartbeats 4000000 in
theorem tcounted_any (w : World) : Calls Try.prog 6 #[] w fun e w' => e = .returned (.bool true) ∧ Below w.heap.size w w' := by
  obtain ⟨r, hr⟩ : ∃ r : Tc.Rec, r = ⟨1, 3, 0, 0⟩ := ⟨_, rfl⟩
  have hnew : Hid (∀ w, Calls Try.prog 5 #[.int .i64 1] w fun e w' => NewPost w 1 e w' ∧ Below w.heap.size w w') := hid (fun w => tqnew_any (b := 1) (by decide) (by decide) w)
  go_enter Try.func6, Try.ntmps6
  go_wp2_with fail
  refine (tpnew_any w).mono ?_
  rintro e w1 ⟨rfl, hP, hb1⟩
  have P1 := hid hP
  have Q1 := hid hb1
  clear hP hb1
  go_wp2_with fail
  refine (hnew.out w1).mono ?_
  rintro e w2 ⟨⟨t, m, O, rfl, hm, hT⟩, hb2⟩
  have P2 := hid (P1.out.ext hb2)
  have Q2 := hid (bthen Q1.out hb2)
  have T2 := hid hT
  have hfar : w.heap.size + 17 < m := Nat.lt_of_lt_of_le P1.out.lt hm
  clear hb2 hT P1 Q1
  have hfit : r.fit := by subst hr; unfold Tc.Rec.fit; decide
  have hadd := hid (tadd_yes P2.out hfit (by decide))
  rw [show pointV r.x r.y = .agg #[.int .i64 3, .int .i64 0] by subst hr; rfl] at hadd
  go_wp2_with fail
  refine hadd.out.mono ?_
  rintro e w3 ⟨rfl, hP, hK⟩
  have P3 := hid (show Py w3 w.heap.size [r] from hP)
  have T3 := hid (T2.out.other hfar hK)
  have Q3 := hid (Q2.out.trans (hK.below Q2.out.size (fun k hk => Nat.le_of_lt hk.1)))
  clear hP hK P2 T2 Q2 hadd
  have hins := hid (tins_yes T3.out hfit (by subst hr; decide) (by subst hr; decide) (fun x hx => by cases hx) (by decide))
  rw [show recArr r = #[.int .i64 1, .int .i64 3, .int .i64 0, .int .i64 0] by subst hr; rfl] at hins
  go_wp2_with fail
  refine hins.out.mono ?_
  rintro e w4 ⟨rfl, O4, hT, hO, hK⟩
  have P4 := hid (P3.out.other T3.out hfar hK)
  have T4 := hid (show TrW w4 t m 1 (Tc.putV 1 Tc.fuel Tc.rootN 0 r) [r] O4 from hT)
  have Q4 := hid (Q3.out.trans (hK.below Q3.out.size (fun k hk => by
    have h1 := T3.out.ord
    rcases hk with rfl | rfl | e
    · omega
    · omega
    · have := (T3.out.mem.bd _ e).1
      omega)))
  clear hT hO hK P3 T3 Q3 hins
  have hcn := hid (tcount_yes (k := 14) (x := 0) (v := 0) P4.out (by decide) (by decide) (by decide) (by decide) (by decide))
  rw [show Tc.cntK 14 (Tc.mort 14 0 0) [r] = 1 by subst hr; decide, show cellV ((14 : Nat) : Int) 0 0 = .agg #[.int .i64 14, .int .i64 0, .int .i64 0] from rfl, show ((1 : Nat) : Int) = 1 from rfl] at hcn
  go_wp2_with fail
  refine hcn.out.mono ?_
  rintro e w5 ⟨rfl, hb5⟩
  have P5 := hid (P4.out.ext hb5)
  have T5 := hid (T4.out.ext hb5)
  have Q5 := hid (bthen Q4.out hb5)
  clear hb5 P4 T4 Q4 hcn
  have hqc := hid (tqcount_yes T5.out (show 1 ≤ 1000 by decide) (r := ⟨0, 0, 3, 3⟩) (by decide))
  rw [show ([r].filter (hasP ⟨0, 0, 3, 3⟩)).length = 1 by subst hr; decide, show rectV ⟨0, 0, 3, 3⟩ = .agg #[.int .i64 0, .int .i64 0, .int .i64 3, .int .i64 3] from rfl, show ((1 : Nat) : Int) = 1 from rfl] at hqc
  go_wp2_with fail
  refine hqc.out.mono ?_
  rintro e w6 ⟨rfl, hb6⟩
  have P6 := hid (P5.out.ext hb6)
  have T6 := hid (T5.out.ext hb6)
  have Q6 := hid (bthen Q5.out hb6)
  clear hb6 P5 T5 Q5 hqc
  have hnd := hid (tnodes_any T6.out)
  rw [show (Tc.putV 1 Tc.fuel Tc.rootN 0 r).length = 1 by subst hr; decide, show ((1 : Nat) : Int) = 1 from rfl] at hnd
  go_wp2_with fail
  refine hnd.out.mono ?_
  rintro e w7 ⟨rfl, hb7⟩
  have P7 := hid (P6.out.ext hb7)
  have Q7 := hid (bthen Q6.out hb7)
  clear hb7 P6 T6 Q6 hnd
  have hce := hid (tcells_one P7.out)
  go_wp2_with fail
  refine hce.out.mono ?_
  rintro e w8 ⟨rfl, rfl⟩
  go_wp2_with fail
  go_ret
  exact ⟨rfl, Q7.out⟩

end Go.Proofs.Yteddkgpnklfppaa
