/-
  The walk of PolicyJoins.
-/
import Derived.Test.YtnoieobjfihbeaaDoorPk18
import Derived.IntWalk

namespace Go.Proofs.YtnoieobjfihbeaaDoor
open Go.RowKit Go.Sort

/-- the declarations at the end of a row -/
theorem DRow.drop {w : World} {g off cap : Nat} {a b : List Po.Decl} (h : DRow w g off cap (a ++ b)) : DRow w g (off + a.length * 24) (cap - a.length) b :=
  ⟨by have := h.cap; rw [List.length_append] at this; omega, h.lt, fun i hi => by
    obtain ⟨x, h1, h2⟩ := h.get (a.length + i) (by rw [List.length_append]; omega)
    have e : (a ++ b)[a.length + i]'(by rw [List.length_append]; omega) = b[i] := by rw [List.getElem_append_right (by omega)]; simp
    rw [e] at h1 h2
    rw [show off + (a.length + i) * 24 = off + a.length * 24 + i * 24 by omega] at h1
    exact ⟨x, h1, h2⟩⟩
/-- .. and at its beginning -/
theorem DRow.front {w : World} {g off cap : Nat} {a b : List Po.Decl} (h : DRow w g off cap (a ++ b)) : DRow w g off cap a :=
  ⟨by have := h.cap; rw [List.length_append] at this; omega, h.lt, fun i hi => by
    obtain ⟨x, h1, h2⟩ := h.get i (by rw [List.length_append]; omega)
    rw [List.getElem_append_left hi] at h1 h2
    exact ⟨x, h1, h2⟩⟩

theorem wrap_small (a b : Nat) (h : a + b ≤ 281474976710656) : IntKind.i64.wrap ((a : Int) + b) = (a : Int) + b := IntWalk.i64_in _ (by omega)
set_option maxRecDepth 100000 in
set_option maxHeartbeats 8000000 in
theorem joins_walk {s t : ByteArray} {w : World} (hs : s.size ≤ 140737488355328) (hst : t.size ≤ 140737488355328) (ht : TabU w) :
    Calls Tryd.prog 6 #[.string s, .string t] w fun e w' => e = .returned (.bool true) ∧ Below w.heap.size w w' := by
  have hkn := known_from ht
  have hpa := parse_any s w hs
  have hpb : Hid (∀ w1 : World, Calls Tryd.prog 13 #[.string t] w1 fun e w' => ParsePost t.data.toList e w' ∧ Below w1.heap.size w1 w') := hid (fun w1 => parse_any t w1 hst)
  unfold ParsePost at hpa
  clear ht
  cases hp : Po.parse s.data.toList with
  | error f =>
    obtain ⟨er, l, c⟩ := f
    rw [hp] at hpa
    have hpa' := hid hpa
    clear hpa hp
    cases hq : Po.parse t.data.toList with
    | error f =>
      obtain ⟨er2, l2, c2⟩ := f
      have hq' := hid hq
      clear hq
      go_enter Tryd.func6, Tryd.ntmps6
      go_wp2_with fail
      refine hpa'.out.mono ?_
      rintro e w1 ⟨⟨rfl, her⟩, hb1⟩
      have y1 := balloc w1 (.cells #[.int .i64 er, .int .i64 l, .int .i64 c] 32)
      have Q1 := hid (bthen hb1 y1)
      have F1 := hid (Blk.new w1 #[.int .i64 er, .int .i64 l, .int .i64 c] 32)
      have h1 : ((er : Int) != 0) = true := by rw [bne_iff_ne]; omega
      clear hb1 her y1
      go_wp2_with fail
      refine (hpb.out _).mono ?_
      unfold ParsePost
      rw [hq'.out]
      rintro e w2 ⟨⟨rfl, her2⟩, hb2⟩
      have y2 := balloc w2 (.cells #[.int .i64 er2, .int .i64 l2, .int .i64 c2] 32)
      have Q2 := hid (bthen (bthen Q1.out hb2) y2)
      have f0 := ((F1.out.ext hb2).ext y2).cell 0 (v := .int .i64 er) rfl
      clear hb2 y2 Q1
      go_wp2_with fail
      refine (hkn.out _ Q2.out).mono ?_
      rintro e w3 ⟨rfl, hb3⟩
      have Q3 := hid hb3
      clear hb3
      go_wp2_with fail
      go_ret
      exact ⟨rfl, Q3.out⟩
    | ok es =>
      have hq' := hid hq
      clear hq
      go_enter Tryd.func6, Tryd.ntmps6
      go_wp2_with fail
      refine hpa'.out.mono ?_
      rintro e w1 ⟨⟨rfl, her⟩, hb1⟩
      have y1 := balloc w1 (.cells #[.int .i64 er, .int .i64 l, .int .i64 c] 32)
      have Q1 := hid (bthen hb1 y1)
      have F1 := hid (Blk.new w1 #[.int .i64 er, .int .i64 l, .int .i64 c] 32)
      have h1 : ((er : Int) != 0) = true := by rw [bne_iff_ne]; omega
      clear hb1 her y1
      go_wp2_with fail
      refine (hpb.out _).mono ?_
      unfold ParsePost
      rw [hq'.out]
      rintro e w2 ⟨⟨v2, vs2, rfl, _⟩, hb2⟩
      have y2 := balloc w2 (.cells #[.int .i64 0, .int .i64 0, .int .i64 0] 32)
      have Q2 := hid (bthen (bthen Q1.out hb2) y2)
      have f0 := ((F1.out.ext hb2).ext y2).cell 0 (v := .int .i64 er) rfl
      clear hb2 y2 Q1
      go_wp2_with fail
      refine (hkn.out _ Q2.out).mono ?_
      rintro e w3 ⟨rfl, hb3⟩
      have Q3 := hid hb3
      clear hb3
      go_wp2_with fail
      go_ret
      exact ⟨rfl, Q3.out⟩
  | ok ds =>
    rw [hp] at hpa
    have hpa' := hid hpa
    clear hpa
    cases hq : Po.parse t.data.toList with
    | error f =>
      obtain ⟨er2, l2, c2⟩ := f
      have hq' := hid hq
      clear hq hp
      go_enter Tryd.func6, Tryd.ntmps6
      go_wp2_with fail
      refine hpa'.out.mono ?_
      rintro e w1 ⟨⟨v, vs, rfl, hds⟩, hb1⟩
      have y1 := balloc w1 (.cells #[.int .i64 0, .int .i64 0, .int .i64 0] 32)
      have D1 := hid (hds.sl.ext y1)
      have Q1 := hid (bthen hb1 y1)
      have F1 := hid (Blk.new w1 #[.int .i64 0, .int .i64 0, .int .i64 0] 32)
      obtain ⟨vp, vc, rfl⟩ := hds.sl.shape
      clear hb1 y1 hds
      go_wp2_with fail
      refine (hpb.out _).mono ?_
      unfold ParsePost
      rw [hq'.out]
      rintro e w2 ⟨⟨rfl, her2⟩, hb2⟩
      have h2 : ((er2 : Int) != 0) = true := by rw [bne_iff_ne]; omega
      have y2 := balloc w2 (.cells #[.int .i64 er2, .int .i64 l2, .int .i64 c2] 32)
      have Q2 := hid (bthen (bthen Q1.out hb2) y2)
      have f0 := ((F1.out.ext hb2).ext y2).cell 0 (v := .int .i64 0) rfl
      clear hb2 y2 Q1
      go_wp2_with fail
      refine (hkn.out _ Q2.out).mono ?_
      rintro e w3 ⟨rfl, hb3⟩
      have Q3 := hid hb3
      clear hb3
      go_wp2_with fail
      go_ret
      exact ⟨rfl, Q3.out⟩
    | ok es =>
      by_cases hl : s.size + t.size ≤ 511
      · obtain ⟨es', hj, hun⟩ := Po.parse_join hp hq (by rw [dat_size, dat_size]; exact hl)
        obtain ⟨u, hu⟩ : ∃ u : ByteArray, u = (s ++ (⟨#[10]⟩ : ByteArray)) ++ t := ⟨_, rfl⟩
        have hud : u.data.toList = s.data.toList ++ 10 :: t.data.toList := by rw [hu]; simp
        rw [← hud] at hj
        have hus : u.size ≤ 140737488355328 := by rw [← dat_size, hud, List.length_append, List.length_cons, dat_size, dat_size]; omega
        obtain ⟨hlen, hsm, _⟩ := read1 hj
        have hsmd := hid (fun d hd => hsm d (List.mem_append_left _ hd))
        have hsme := hid (fun d hd => hsm d (List.mem_append_right _ hd))
        have hpc : Hid (∀ w1 : World, Calls Tryd.prog 13 #[.string ((s ++ (⟨#[10]⟩ : ByteArray)) ++ t)] w1 fun e w' => ParsePost u.data.toList e w' ∧ Below w1.heap.size w1 w') := hid (fun w1 => by rw [← hu]; exact parse_any u w1 hus)
        have hj' := hid hj
        have hq' := hid hq
        have hun' := hid hun
        have hel : es'.length = es.length := by have := congrArg List.length hun; simpa using this
        rw [List.length_append] at hlen
        have z1 : ¬ (9223372036854775807 < (s.size : Int) + 1) := by omega
        have z2 : ¬ (9223372036854775807 < (s.size : Int) + 1 + t.size) := by omega
        have z3 : decide ((511 : Int) < (s.size : Int) + t.size) = false := decide_eq_false (by omega)
        have z4 : (s.size : Int) + t.size ≤ 511 := by omega
        have z5 : ¬ (511 < (s.size : Int) + t.size) := by omega
        have z6 := wrap_small s.size t.size (by omega)
        clear hq hp hj hun hsm hu hus hud
        go_enter Tryd.func6, Tryd.ntmps6
        go_wp2_with fail
        refine hpa'.out.mono ?_
        rintro e w1 ⟨⟨v, vs, rfl, hds⟩, hb1⟩
        have y1 := balloc w1 (.cells #[.int .i64 0, .int .i64 0, .int .i64 0] 32)
        have D1 := hid (hds.sl.ext y1)
        have Q1 := hid (bthen hb1 y1)
        have F1 := hid (Blk.new w1 #[.int .i64 0, .int .i64 0, .int .i64 0] 32)
        obtain ⟨vp, vc, rfl⟩ := hds.sl.shape
        clear hb1 y1 hds
        go_wp2_with fail
        refine (hpb.out _).mono ?_
        unfold ParsePost
        rw [hq'.out]
        rintro e w2 ⟨⟨v2, vs2, rfl, hds2⟩, hb2⟩
        have y2 := balloc w2 (.cells #[.int .i64 0, .int .i64 0, .int .i64 0] 32)
        have D2 := hid ((D1.out.ext hb2).ext y2)
        have E2 := hid (hds2.sl.ext y2)
        have Q2 := hid (bthen (bthen Q1.out hb2) y2)
        have f0 := ((F1.out.ext hb2).ext y2).cell 0 (v := .int .i64 0) rfl
        obtain ⟨vp2, vc2, rfl⟩ := hds2.sl.shape
        clear hb2 y2 D1 Q1 hds2
        go_wp2_with fail
        refine (hpc.out _).mono ?_
        unfold ParsePost
        rw [hj'.out]
        rintro e w3 ⟨⟨v3, vs3, rfl, hds3⟩, hb3⟩
        have y3 := balloc w3 (.cells #[.int .i64 0, .int .i64 0, .int .i64 0] 32)
        have D3 := hid ((D2.out.ext hb3).ext y3)
        have E3 := hid ((E2.out.ext hb3).ext y3)
        have C3 := hid (hds3.sl.ext y3)
        have Q3 := hid (bthen (bthen Q2.out hb3) y3)
        have g0 := (Blk.new w3 #[.int .i64 0, .int .i64 0, .int .i64 0] 32).cell 0 (v := .int .i64 0) rfl
        clear hb3 y3 D2 E2 Q2 hds3 f0
        have b1 : ds.length ≤ 513 := by omega
        have b2 : es.length ≤ 513 := by omega
        rcases C3.out with ⟨rfl, h0⟩ | ⟨g, off, cap, rfl, hr⟩
        · obtain ⟨rfl, rfl⟩ := List.append_eq_nil_iff.1 h0
          obtain rfl : es = [] := List.eq_nil_of_length_eq_zero (by simpa using hel.symm)
          clear h0 C3
          have P3 := hid (show DSl (w3.alloc (.cells #[.int .i64 0, .int .i64 0, .int .i64 0] 32)) (.slice none 0 0) [] from .inl ⟨rfl, rfl⟩)
          simp only [List.length_nil] at *
          go_wp2_with fail
          refine (psame_true P3.out D3.out (by simp) (by simp)).mono ?_
          rintro e w4 ⟨rfl, hb4⟩
          have E4 := hid (E3.out.ext hb4)
          have P4 := hid (P3.out.ext hb4)
          have Q4 := hid (bthen Q3.out hb4)
          clear hb4 D3 E3 P3 Q3 g0
          go_wp2_with fail
          refine (psame_false P4.out E4.out rfl (by simp) (by simp)).mono ?_
          rintro e w5 ⟨rfl, hb5⟩
          have Q5 := hid (bthen Q4.out hb5)
          clear hb5 E4 P4 Q4
          go_wp2_with fail
          refine (hkn.out _ Q5.out).mono ?_
          rintro e w6 ⟨rfl, hb6⟩
          have Q6 := hid hb6
          clear hb6
          go_wp2_with fail
          go_ret
          exact ⟨rfl, Q6.out⟩
        · have hr' := hid hr
          have hcap := hr.cap
          rw [List.length_append] at hcap
          have hN : ∃ N : Nat, N = (ds ++ es').length := ⟨_, rfl⟩
          obtain ⟨N, hN⟩ := hN
          rw [← hN]
          have hNn : N = ds.length + es'.length := by rw [hN, List.length_append]
          have t1 : ((N : Int) == (ds.length : Int) + es.length) = true := by rw [beq_iff_eq]; omega
          have t2 : ds.length ≤ N := by omega
          have t3 : N ≤ cap := by omega
          have t4 : (ds.length : Int) ≤ N := by omega
          have t5 : (N : Int) ≤ cap := by omega
          have t6 : ds.length ≤ cap := by omega
          have t7 : (ds.length : Int) ≤ cap := by omega
          have hNn' := hid hNn
          have Pf := hid (show DSl (w3.alloc (.cells #[.int .i64 0, .int .i64 0, .int .i64 0] 32)) (.slice (some ⟨g, off, none⟩) ds.length cap) ds from .inr ⟨g, off, cap, rfl, hr.front⟩)
          by_cases hcn : cap = ds.length
          · have he0 : es'.length = 0 := by omega
            obtain rfl : es' = [] := List.eq_nil_of_length_eq_zero he0
            have Pe := hid (show DSl (w3.alloc (.cells #[.int .i64 0, .int .i64 0, .int .i64 0] 32)) (.slice (some ⟨g, off, none⟩) 0 0) [] from .inr ⟨g, off, 0, rfl, ⟨Nat.zero_le _, hr.lt, fun i hi => by simp at hi⟩⟩)
            obtain rfl : N = ds.length := by rw [hNn]; rfl
            subst hcn
            clear hr C3 hN hNn t2 t3 t4 t5 t6 t7 hcap he0
            go_wp2_with fail
            with_reducible refine (psame_true Pf.out D3.out (by omega) hsmd.out).mono ?_
            rintro e w4 ⟨rfl, hb4⟩
            have E4 := hid (E3.out.ext hb4)
            have P4 := hid (Pe.out.ext hb4)
            have Q4 := hid (bthen Q3.out hb4)
            clear hb4 D3 E3 Pf Pe Q3 g0
            go_wp2_with fail
            with_reducible refine (psame_false (l := []) P4.out E4.out hun'.out (by simp) (by simp)).mono ?_
            rintro e w5 ⟨rfl, hb5⟩
            have Q5 := hid (bthen Q4.out hb5)
            clear hb5 E4 P4 Q4
            go_wp2_with fail
            refine (hkn.out _ Q5.out).mono ?_
            rintro e w6 ⟨rfl, hb6⟩
            have Q6 := hid hb6
            clear hb6
            go_wp2_with fail
            go_ret
            exact ⟨rfl, Q6.out⟩
          · have hcn' : ¬ cap = ds.length := hcn
            have Pe := hid (show DSl (w3.alloc (.cells #[.int .i64 0, .int .i64 0, .int .i64 0] 32)) (.slice (some ⟨g, off + ds.length * 24, none⟩) es.length (cap - ds.length)) es' from .inr ⟨g, _, _, by rw [hel], hr.drop⟩)
            have r1 : N - ds.length = es.length := by omega
            clear hr C3 hN hNn
            go_wp2_with fail
            with_reducible refine (psame_true Pf.out D3.out (by omega) hsmd.out).mono ?_
            rintro e w4 ⟨rfl, hb4⟩
            have E4 := hid (E3.out.ext hb4)
            have P4 := hid (Pe.out.ext hb4)
            have Q4 := hid (bthen Q3.out hb4)
            clear hb4 D3 E3 Pf Pe Q3 g0
            go_wp2_with fail
            with_reducible refine (psame_false P4.out E4.out hun'.out (by omega) hsme.out).mono ?_
            rintro e w5 ⟨rfl, hb5⟩
            have Q5 := hid (bthen Q4.out hb5)
            clear hb5 E4 P4 Q4
            go_wp2_with fail
            refine (hkn.out _ Q5.out).mono ?_
            rintro e w6 ⟨rfl, hb6⟩
            have Q6 := hid hb6
            clear hb6
            go_wp2_with fail
            go_ret
            exact ⟨rfl, Q6.out⟩
      · have z3 : (511 : Int) < (s.size : Int) + t.size := by omega
        have z6 := wrap_small s.size t.size (by omega)
        have hq' := hid hq
        clear hq hp hl
        go_enter Tryd.func6, Tryd.ntmps6
        go_wp2_with fail
        refine hpa'.out.mono ?_
        rintro e w1 ⟨⟨v, vs, rfl, hds⟩, hb1⟩
        have y1 := balloc w1 (.cells #[.int .i64 0, .int .i64 0, .int .i64 0] 32)
        have D1 := hid (hds.sl.ext y1)
        have Q1 := hid (bthen hb1 y1)
        have F1 := hid (Blk.new w1 #[.int .i64 0, .int .i64 0, .int .i64 0] 32)
        obtain ⟨vp, vc, rfl⟩ := hds.sl.shape
        clear hb1 y1 hds
        go_wp2_with fail
        refine (hpb.out _).mono ?_
        unfold ParsePost
        rw [hq'.out]
        rintro e w2 ⟨⟨v2, vs2, rfl, _⟩, hb2⟩
        have y2 := balloc w2 (.cells #[.int .i64 0, .int .i64 0, .int .i64 0] 32)
        have Q2 := hid (bthen (bthen Q1.out hb2) y2)
        have f0 := ((F1.out.ext hb2).ext y2).cell 0 (v := .int .i64 0) rfl
        clear hb2 y2 Q1
        go_wp2_with fail
        refine (hkn.out _ Q2.out).mono ?_
        rintro e w3 ⟨rfl, hb3⟩
        have Q3 := hid hb3
        clear hb3
        go_wp2_with fail
        go_ret
        exact ⟨rfl, Q3.out⟩

end Go.Proofs.YtnoieobjfihbeaaDoor
