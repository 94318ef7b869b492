/- The walks of geom and rules: small functions, by value. -/
import Derived.Test.YtelphkhacadfaaaPolF
import Derived.Test.YtelphkhacadfaaaRuSpec
namespace Go.Proofs.Ytelphkhacadfaaa
open Go.RowKit Go.Sort

def ptV (x y : Int) : Value := .agg #[.int .i64 x, .int .i64 y]

theorem fits_any (x y : Int) (w : World) : Calls Try.prog 72 #[ptV x y] w fun e w' => e = .returned (.bool (Ru.fits x y)) ∧ Below w.heap.size w w' := by
  unfold ptV
  go_enter Try.func72, Try.ntmps72
  go_wp2
  all_goals
    go_ret
    exact ⟨ret_bool (by unfold Ru.fits Ru.inside; first | (simp_all; done) | (simp_all; omega)), balloc _ _⟩
theorem low_any (b : Po.Box) (w : World) : Calls Try.prog 112 #[pboxV b] w fun e w' => e = .returned (ptV b.x0 b.y0) ∧ Below w.heap.size w w' := by
  obtain ⟨x0, y0, x1, y1⟩ := b
  unfold ptV pboxV
  go_enter Try.func112, Try.ntmps112
  go_wp2
  exact bodyPost_ret (v := .agg #[.int .i64 x0, .int .i64 y0]) (by simp [results, Try.results112, go_sem]) rfl ⟨rfl, bthen (balloc w _) (balloc _ _)⟩
theorem high_any (b : Po.Box) (w : World) : Calls Try.prog 113 #[pboxV b] w fun e w' => e = .returned (ptV b.x1 b.y1) ∧ Below w.heap.size w w' := by
  obtain ⟨x0, y0, x1, y1⟩ := b
  unfold ptV pboxV
  go_enter Try.func113, Try.ntmps113
  go_wp2
  exact bodyPost_ret (v := .agg #[.int .i64 x1, .int .i64 y1]) (by simp [results, Try.results113, go_sem]) rfl ⟨rfl, bthen (balloc w _) (balloc _ _)⟩
theorem boxhas_any (b : Po.Box) (x y : Int) (w : World) : Calls Try.prog 73 #[pboxV b, ptV x y] w fun e w' => e = .returned (.bool (decide (b.x0 ≤ x) && decide (x ≤ b.x1) && decide (b.y0 ≤ y) && decide (y ≤ b.y1))) ∧ Below w.heap.size w w' := by
  obtain ⟨x0, y0, x1, y1⟩ := b
  unfold ptV pboxV
  go_enter Try.func73, Try.ntmps73
  go_wp2
  all_goals
    go_ret
    exact ⟨ret_bool (by first | (simp_all; done) | (simp_all; omega)), bthen (balloc w _) (balloc _ _)⟩
theorem both_any (b : Po.Box) (w : World) : Calls Try.prog 94 #[pboxV b, .func (.func 72) #[] #[]] w fun e w' => e = .returned (.bool (Ru.fits b.x0 b.y0 && Ru.fits b.x1 b.y1)) ∧ Below w.heap.size w w' := by
  have hen : ∀ (args : Array Value) (w : World), Sem.run Try.prog (callFunc 72 args) w = .ok (.enter 72 args) w := fun _ _ => by kernel_rfl
  have hl := hid (low_any b)
  have hh := hid (high_any b)
  have hf1 := hid (fits_any b.x0 b.y0)
  have hf2 := hid (fits_any b.x1 b.y1)
  have B0 := hid (Blk.new w #[.int .i64 b.x0, .int .i64 b.y0, .int .i64 b.x1, .int .i64 b.y1] 102)
  have Q0 := hid (balloc w (.cells #[.int .i64 b.x0, .int .i64 b.y0, .int .i64 b.x1, .int .i64 b.y1] 102))
  obtain ⟨x0, y0, x1, y1⟩ := b
  simp only at hl hh hf1 hf2 B0 Q0
  unfold pboxV at *
  go_enter Try.func94, Try.ntmps94
  go_wp2_with fail
  refine (hl.out _).mono ?_
  rintro e w1 ⟨rfl, hb1⟩
  have B1 := hid (B0.out.ext hb1)
  have Q1 := hid (bthen Q0.out hb1)
  go_wp2_with fail
  refine (hf1.out _).mono ?_
  rintro e w2 ⟨rfl, hb2⟩
  have B2 := hid (B1.out.ext hb2)
  have Q2 := hid (bthen Q1.out hb2)
  obtain ⟨c0, c1, c2, c3, cf, cz⟩ := B2.out.four
  cases h1 : Ru.fits x0 y0 with
  | false =>
    go_wp2_with fail
    go_ret
    exact ⟨ret_bool (by rw [h1]; rfl), Q2.out⟩
  | true =>
    go_wp2_with fail
    refine (hh.out _).mono ?_
    rintro e w3 ⟨rfl, hb3⟩
    have Q3 := hid (bthen Q2.out hb3)
    go_wp2_with fail
    refine (hf2.out _).mono ?_
    rintro e w4 ⟨rfl, hb4⟩
    go_wp2_with fail
    go_ret
    exact ⟨ret_bool (by rw [h1]; rfl), bthen Q3.out hb4⟩
theorem boxright_any (b : Po.Box) (w : World) : Calls Try.prog 71 #[pboxV b] w fun e w' => e = .returned (.bool (Ru.boxR b)) ∧ Below w.heap.size w w' := by
  have hb := hid (both_any b)
  have B0 := hid (Blk.new w #[.int .i64 b.x0, .int .i64 b.y0, .int .i64 b.x1, .int .i64 b.y1] 69)
  have Q0 := hid (balloc w (.cells #[.int .i64 b.x0, .int .i64 b.y0, .int .i64 b.x1, .int .i64 b.y1] 69))
  unfold Ru.boxR
  obtain ⟨x0, y0, x1, y1⟩ := b
  simp only at hb B0 Q0 ⊢
  unfold pboxV at *
  simp only at hb
  go_enter Try.func71, Try.ntmps71
  go_wp2_with fail
  refine (hb.out _).mono ?_
  rintro e w1 ⟨rfl, hb1⟩
  have B1 := hid (B0.out.ext hb1)
  have Q1 := hid (bthen Q0.out hb1)
  obtain ⟨c0, c1, c2, c3, cf, cz⟩ := B1.out.four
  generalize hff : (Ru.fits x0 y0 && Ru.fits x1 y1) = f at *
  have hff' := hid hff
  clear hb B0 Q0 B1 hb1 hff
  go_wp2_with fail
  all_goals
    go_ret
    refine ⟨ret_bool ?_, Q1.out⟩
    clear c0 c1 c2 c3 cf cz Q1
    rw [hff'.out]
    first | (simp_all; done) | (simp_all; omega)
theorem has_any (b : Po.Box) (x y : Int) (w : World) : Calls Try.prog 51 #[pboxV b, ptV x y] w fun e w' => e = .returned (.bool (Ru.boxHas b x y)) ∧ Below w.heap.size w w' := by
  have hb := hid (boxright_any b)
  have hf := hid (fits_any x y)
  have hh := hid (boxhas_any b x y)
  have B0 := hid ((Blk.new w #[.int .i64 b.x0, .int .i64 b.y0, .int .i64 b.x1, .int .i64 b.y1] 69).alloc (.cells #[.int .i64 x, .int .i64 y] 38))
  have P0 := hid (Blk.newAt (w := w.alloc (.cells #[.int .i64 b.x0, .int .i64 b.y0, .int .i64 b.x1, .int .i64 b.y1] 69)) (k := w.heap.size + 1) (by simp) #[.int .i64 x, .int .i64 y] 38)
  have Q0 := hid (bthen (balloc w (.cells #[.int .i64 b.x0, .int .i64 b.y0, .int .i64 b.x1, .int .i64 b.y1] 69)) (balloc _ (.cells #[.int .i64 x, .int .i64 y] 38)))
  unfold Ru.boxHas
  generalize hr : Ru.boxR b = r at *
  generalize hft : Ru.fits x y = f at *
  obtain ⟨x0, y0, x1, y1⟩ := b
  simp only at hb hh B0 P0 Q0 ⊢
  generalize hc : (decide (x0 ≤ x) && decide (x ≤ x1) && decide (y0 ≤ y) && decide (y ≤ y1)) = c at *
  clear hr hft hc
  unfold pboxV ptV at *
  simp only at hb hh hf
  go_enter Try.func51, Try.ntmps51
  go_wp2_with fail
  refine (hb.out _).mono ?_
  rintro e w1 ⟨rfl, hb1⟩
  have B1 := hid (B0.out.ext hb1)
  have P1 := hid (P0.out.ext hb1)
  have Q1 := hid (bthen Q0.out hb1)
  obtain ⟨p0, p1, pf, pz⟩ := P1.out.two
  cases r with
  | false =>
    go_wp2_with fail
    go_ret
    exact ⟨rfl, Q1.out⟩
  | true =>
    go_wp2_with fail
    refine (hf.out _).mono ?_
    rintro e w2 ⟨rfl, hb2⟩
    have B2 := hid (B1.out.ext hb2)
    have P2 := hid (P1.out.ext hb2)
    have Q2 := hid (bthen Q1.out hb2)
    clear p0 p1 pf pz
    obtain ⟨p0, p1, pf, pz⟩ := P2.out.two
    obtain ⟨c0, c1, c2, c3, cf, cz⟩ := B2.out.four
    cases f with
    | false =>
      go_wp2_with fail
      go_ret
      exact ⟨rfl, Q2.out⟩
    | true =>
      go_wp2_with fail
      refine (hh.out _).mono ?_
      rintro e w3 ⟨rfl, hb3⟩
      go_wp2_with fail
      go_ret
      exact ⟨rfl, bthen Q2.out hb3⟩
theorem grid_any (w : World) : Calls Try.prog 92 #[] w fun e w' => e = .returned (pboxV Ru.grid) ∧ Below w.heap.size w w' := by
  go_enter Try.func92, Try.ntmps92
  go_wp2
  exact bodyPost_ret (v := pboxV Ru.grid) (by simp [results, Try.results92, go_sem, pboxV, Ru.grid]) rfl ⟨rfl, balloc w _⟩
theorem small_any (n m : Int) (w : World) : Calls Try.prog 37 #[.int .i64 n, .int .i64 m] w fun e w' => e = .returned (.bool (Ru.small n m)) ∧ w = w' := by
  go_enter Try.func37, Try.ntmps37
  go_wp2
  all_goals
    go_ret
    exact ⟨ret_bool (by unfold Ru.small; first | (simp_all; done) | (simp_all; omega)), rfl⟩
theorem numbers3_any (a b c : Int) (w : World) : Calls Try.prog 31 #[.int .i64 a, .int .i64 b, .int .i64 c] w fun e w' => e = .returned (.bool (Ru.numbers3 a b c)) ∧ w = w' := by
  go_enter Try.func31, Try.ntmps31
  go_wp2_with (go_at_call 37; refine (small_any _ _ _).mono ?_; rintro e w' ⟨rfl, rfl⟩)
  all_goals
    go_ret
    exact ⟨ret_bool (by unfold Ru.numbers3; simp_all), rfl⟩
theorem in_any (s n : Int) (w : World) (hs : 0 ≤ s) (hs2 : s ≤ 255) (hn : 0 ≤ n) (hn2 : n ≤ 7) : Calls Try.prog 32 #[.int .i64 s, .int .i64 n] w fun e w' => e = .returned (.bool (Ru.inSum s n)) ∧ w = w' := by
  have hb : ∀ n : Fin 8, ∀ s : Fin 256, (bits BinOp.and IntKind.i64 ((s.val : Int) / 2 ^ ((n.val : Int)).toNat) 1 == 1) = Ru.inSum s.val n.val := by decide +kernel
  have hb2 := hid (hb ⟨n.toNat, by omega⟩ ⟨s.toNat, by omega⟩)
  clear hb
  go_enter Try.func32, Try.ntmps32
  go_wp2
  go_ret
  refine ⟨ret_bool ?_, rfl⟩
  have h := hb2.out
  simp only [show ((s.toNat : Nat) : Int) = s from by omega, show ((n.toNat : Nat) : Int) = n from by omega] at h
  exact h

end Go.Proofs.Ytelphkhacadfaaa
