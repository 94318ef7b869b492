/-
  The cells beside and over a cell; hulls and areas; how many records a cell and a pair of cells have.
  The walks of the cloak: Right, Does, does, own.
  The walks of the cloak: own.
-/
import Derived.Test.YteddkgpnklfppaaPk08
import Derived.Test.YteddkgpnklfppaaPk04
import Derived.Laws.BitsLemmas
import Derived.Deep.RegionHeld3
import Derived.Lib.QuietBelow

namespace Go.Proofs.Yteddkgpnklfppaa
open Go.RowKit Go.Sort Go.Maps

theorem nat_xor_one (n : Nat) : n ^^^ 1 = if n % 2 = 0 then n + 1 else n - 1 := by
  have h1 : (n ^^^ 1) / 2 = n / 2 := by rw [Nat.xor_div_two]; simp
  have h2 : (n ^^^ 1) % 2 = (n + 1) % 2 := by
    have h := Nat.testBit_xor n 1 0
    simp only [Nat.testBit_zero] at h
    rcases Nat.mod_two_eq_zero_or_one n with a | a <;> rcases Nat.mod_two_eq_zero_or_one (n ^^^ 1) with b | b <;> rw [a, b] at h <;> first | omega | exact absurd h (by decide)
  split <;> omega
theorem sib_eq {n : Nat} (h : n < 2 ^ 16) : bits .xor .i64 (n : Int) 1 = if n % 2 = 0 then (n : Int) + 1 else (n : Int) - 1 := by
  have h1 : (BitVec.ofInt 64 (n : Int)).toNat = n := by
    rw [BitVec.ofInt_natCast, BitVec.toNat_ofNat]; exact Nat.mod_eq_of_lt (by omega)
  show IntKind.i64.wrap ((BitVec.ofInt 64 (n : Int) ^^^ BitVec.ofInt 64 (1 : Int)).toNat : Int) = _
  rw [BitVec.toNat_xor, h1, show (BitVec.ofInt 64 (1 : Int)).toNat = 1 from rfl, nat_xor_one, IntKind.wrap_i64]
  split <;> omega
/-- a number's other one -/
def sib (x : Int) : Int := bits .xor .i64 x 1
theorem sib_at {k : Nat} (hk : k ≤ 16) (hk0 : k ≠ 0) {x : Int} (h1 : 0 ≤ x) (h2 : x < 2 ^ k) : 0 ≤ sib x ∧ sib x < 2 ^ k ∧ (sib x = x + 1 ∨ sib x = x - 1) := by
  obtain ⟨n, rfl⟩ : ∃ n : Nat, x = n := ⟨x.toNat, by omega⟩
  obtain ⟨j, rfl⟩ : ∃ j, k = j + 1 := ⟨k - 1, by omega⟩
  have h16 : (2 : Int) ^ (j + 1) ≤ 2 ^ 16 := by
    have := Nat.pow_le_pow_right (n := 2) (by decide) hk
    exact_mod_cast this
  have e : (2 : Int) ^ (j + 1) = 2 * 2 ^ j := by rw [Int.pow_succ, Int.mul_comm]
  unfold sib
  rw [sib_eq (by omega)]
  split <;> omega
def hullOf (a b : Po.Box) : Po.Box := ⟨min a.x0 b.x0, min a.y0 b.y0, max a.x1 b.x1, max a.y1 b.y1⟩
theorem hull_right {a b : Po.Box} (ha : Ru.boxR a = true) (hb : Ru.boxR b = true) : Ru.boxR (hullOf a b) = true := by
  unfold Ru.boxR Ru.fits Ru.inside hullOf at *
  simp only [Bool.and_eq_true, decide_eq_true_eq] at *
  omega
/-- beside each other, or over each other -/
def Near (a b : Po.Box) : Prop := (a.y0 = b.y0 ∧ a.y1 = b.y1 ∧ (a.x1 + 1 = b.x0 ∨ b.x1 + 1 = a.x0)) ∨ (a.x0 = b.x0 ∧ a.x1 = b.x1 ∧ (a.y1 + 1 = b.y0 ∨ b.y1 + 1 = a.y0))
theorem hull_cnt {a b : Po.Box} (ha : Ru.boxR a = true) (hb : Ru.boxR b = true) (hn : Near a b) (A : List Tc.Rec) : (A.filter (hasP (hullOf a b))).length = (A.filter (hasP a)).length + (A.filter (hasP b)).length := by
  refine Tc.filter_two (hasP a) (hasP b) (hasP (hullOf a b)) A (fun r _ => ?_) (fun r _ h => ?_)
  · unfold hasP Ru.boxHas
    rw [ha, hb, hull_right ha hb, Bool.eq_iff_iff]
    unfold Near at hn
    unfold Ru.boxR Ru.fits Ru.inside at ha hb
    unfold hullOf Ru.fits Ru.inside
    simp only [Bool.and_eq_true, Bool.or_eq_true, decide_eq_true_eq, Bool.true_and] at *
    omega
  · rw [Bool.eq_false_iff]
    intro h2
    unfold hasP Ru.boxHas at h h2
    rw [ha] at h
    rw [hb] at h2
    unfold Near at hn
    unfold Ru.boxR Ru.fits Ru.inside at ha hb
    unfold Ru.fits Ru.inside at h h2
    simp only [Bool.and_eq_true, decide_eq_true_eq, Bool.true_and] at *
    omega
theorem near_of {k : Nat} {x y s : Int} (h : s = x + 1 ∨ s = x - 1) : Near (boxOf k x y) (boxOf k s y) := by
  unfold Near boxOf
  refine .inl ⟨rfl, rfl, ?_⟩
  rcases h with rfl | rfl
  · left; simp only; omega
  · right; simp only; rw [show x - 1 + 1 = x by omega]; omega
theorem near_up {k : Nat} {x y s : Int} (h : s = y + 1 ∨ s = y - 1) : Near (boxOf k x y) (boxOf k x s) := by
  unfold Near boxOf
  refine .inr ⟨rfl, rfl, ?_⟩
  rcases h with rfl | rfl
  · left; simp only; omega
  · right; simp only; rw [show y - 1 + 1 = y by omega]; omega
/-- a cell's count is its box's -/
theorem cnt_box {k : Nat} {x y : Int} {A : List Tc.Rec} (hf : ∀ r ∈ A, r.fit) (hk : k ≤ 16) (h1 : 0 ≤ x) (h2 : x < 2 ^ k) (h3 : 0 ≤ y) (h4 : y < 2 ^ k) : Tc.cntK k (Tc.mort k x y) A = (A.filter (hasP (boxOf k x y))).length := by
  rw [Tc.cntK_C hk hf h1 h2 h3 h4, Tc.cntC_B]
  unfold Tc.cntB
  congr 1
  refine List.filter_congr fun r hr => ?_
  have hR := boxOf_right hk h1 h2 h3 h4
  have hft := fits_of (hf r hr)
  unfold hasP Ru.boxHas
  rw [hR, hft]
  unfold Tc.inB boxOf
  rw [Bool.eq_iff_iff]
  simp only [Bool.and_eq_true, decide_eq_true_eq, Bool.true_and]
  omega

theorem tbeside_yes {k : Nat} {x y : Int} (hk : k ≤ 16) (hk0 : k ≠ 0) (h1 : 0 ≤ x) (h2 : x < 2 ^ k) (h3 : 0 ≤ y) (h4 : y < 2 ^ k) (w : World) : Calls Try.prog 49 #[cellV k x y] w fun e w' => e = .returned (.tuple #[cellV k (sib x) y, .bool true]) ∧ Below w.heap.size w w' := by
  have hr := hid (tcright_yes hk h1 h2 h3 h4)
  have Q0 := hid (bthen (balloc w (.cells #[.int .i64 k, .int .i64 x, .int .i64 y] 24)) (balloc _ (.cells #[.int .i64 0, .int .i64 0, .int .i64 0] 24)))
  have P0 := hid ((Blk.new w #[.int .i64 k, .int .i64 x, .int .i64 y] 24).alloc (.cells #[.int .i64 0, .int .i64 0, .int .i64 0] 24))
  have C0 := hid (Blk.newAt (w := w.alloc (.cells #[.int .i64 k, .int .i64 x, .int .i64 y] 24)) (k := w.heap.size + 1) (by simp) #[.int .i64 0, .int .i64 0, .int .i64 0] 24)
  have hs : bits .xor .i64 x 1 = sib x := rfl
  have hz : ((k : Int) == 0) = false := by rw [beq_eq_false_iff_ne]; omega
  clear h1 h2 h3 h4 hk hk0
  generalize sib x = s at *
  unfold cellV at *
  go_enter Try.func49, Try.ntmps49
  go_wp2_with fail
  refine (hr.out _).mono ?_
  rintro e w2 ⟨rfl, hb2⟩
  have P2 := hid (P0.out.ext hb2)
  have C2 := hid (C0.out.ext hb2)
  have Q2 := hid (bthen Q0.out hb2)
  clear hb2 P0 C0 Q0
  obtain ⟨p0, p1, p2, pf, pz⟩ := P2.out.three
  obtain ⟨c0, c1, c2, cf, cz⟩ := C2.out.three
  go_wp2_with fail
  exact bodyPost_ret (v := .tuple #[.agg #[.int .i64 k, .int .i64 s, .int .i64 y], .bool true]) (by simp [results, Try.results49, go_sem, c0, c1, c2]) rfl ⟨rfl, bset (bset (bset (bset Q2.out (by omega) _) (by omega) _) (by omega) _) (by omega) _⟩
theorem tbeside_no {k : Nat} {x y : Int} (hk : k ≤ 16) (hk0 : k = 0) (h1 : 0 ≤ x) (h2 : x < 2 ^ k) (h3 : 0 ≤ y) (h4 : y < 2 ^ k) (w : World) : Calls Try.prog 49 #[cellV k x y] w fun e w' => e = .returned (.tuple #[cellV 0 0 0, .bool false]) ∧ Below w.heap.size w w' := by
  have hr := hid (tcright_yes hk h1 h2 h3 h4)
  have Q0 := hid (bthen (balloc w (.cells #[.int .i64 k, .int .i64 x, .int .i64 y] 24)) (balloc _ (.cells #[.int .i64 0, .int .i64 0, .int .i64 0] 24)))
  have P0 := hid ((Blk.new w #[.int .i64 k, .int .i64 x, .int .i64 y] 24).alloc (.cells #[.int .i64 0, .int .i64 0, .int .i64 0] 24))
  have C0 := hid (Blk.newAt (w := w.alloc (.cells #[.int .i64 k, .int .i64 x, .int .i64 y] 24)) (k := w.heap.size + 1) (by simp) #[.int .i64 0, .int .i64 0, .int .i64 0] 24)
  have hz : ((k : Int) == 0) = true := by rw [hk0]; rfl
  clear h1 h2 h3 h4 hk hk0
  unfold cellV at *
  go_enter Try.func49, Try.ntmps49
  go_wp2_with fail
  refine (hr.out _).mono ?_
  rintro e w2 ⟨rfl, hb2⟩
  have P2 := hid (P0.out.ext hb2)
  have C2 := hid (C0.out.ext hb2)
  have Q2 := hid (bthen Q0.out hb2)
  clear hb2 P0 C0 Q0
  obtain ⟨p0, p1, p2, pf, pz⟩ := P2.out.three
  obtain ⟨c0, c1, c2, cf, cz⟩ := C2.out.three
  go_wp2_with fail
  exact bodyPost_ret (v := .tuple #[.agg #[.int .i64 0, .int .i64 0, .int .i64 0], .bool false]) (by simp [results, Try.results49, go_sem, c0, c1, c2]) rfl ⟨rfl, bset (bset (bset Q2.out (by omega) _) (by omega) _) (by omega) _⟩
theorem tover_yes {k : Nat} {x y : Int} (hk : k ≤ 16) (hk0 : k ≠ 0) (h1 : 0 ≤ x) (h2 : x < 2 ^ k) (h3 : 0 ≤ y) (h4 : y < 2 ^ k) (w : World) : Calls Try.prog 50 #[cellV k x y] w fun e w' => e = .returned (.tuple #[cellV k x (sib y), .bool true]) ∧ Below w.heap.size w w' := by
  have hr := hid (tcright_yes hk h1 h2 h3 h4)
  have Q0 := hid (bthen (balloc w (.cells #[.int .i64 k, .int .i64 x, .int .i64 y] 24)) (balloc _ (.cells #[.int .i64 0, .int .i64 0, .int .i64 0] 24)))
  have P0 := hid ((Blk.new w #[.int .i64 k, .int .i64 x, .int .i64 y] 24).alloc (.cells #[.int .i64 0, .int .i64 0, .int .i64 0] 24))
  have C0 := hid (Blk.newAt (w := w.alloc (.cells #[.int .i64 k, .int .i64 x, .int .i64 y] 24)) (k := w.heap.size + 1) (by simp) #[.int .i64 0, .int .i64 0, .int .i64 0] 24)
  have hs : bits .xor .i64 y 1 = sib y := rfl
  have hz : ((k : Int) == 0) = false := by rw [beq_eq_false_iff_ne]; omega
  clear h1 h2 h3 h4 hk hk0
  generalize sib y = s at *
  unfold cellV at *
  go_enter Try.func50, Try.ntmps50
  go_wp2_with fail
  refine (hr.out _).mono ?_
  rintro e w2 ⟨rfl, hb2⟩
  have P2 := hid (P0.out.ext hb2)
  have C2 := hid (C0.out.ext hb2)
  have Q2 := hid (bthen Q0.out hb2)
  clear hb2 P0 C0 Q0
  obtain ⟨p0, p1, p2, pf, pz⟩ := P2.out.three
  obtain ⟨c0, c1, c2, cf, cz⟩ := C2.out.three
  go_wp2_with fail
  exact bodyPost_ret (v := .tuple #[.agg #[.int .i64 k, .int .i64 x, .int .i64 s], .bool true]) (by simp [results, Try.results50, go_sem, c0, c1, c2]) rfl ⟨rfl, bset (bset (bset (bset Q2.out (by omega) _) (by omega) _) (by omega) _) (by omega) _⟩
theorem tover_no {k : Nat} {x y : Int} (hk : k ≤ 16) (hk0 : k = 0) (h1 : 0 ≤ x) (h2 : x < 2 ^ k) (h3 : 0 ≤ y) (h4 : y < 2 ^ k) (w : World) : Calls Try.prog 50 #[cellV k x y] w fun e w' => e = .returned (.tuple #[cellV 0 0 0, .bool false]) ∧ Below w.heap.size w w' := by
  have hr := hid (tcright_yes hk h1 h2 h3 h4)
  have Q0 := hid (bthen (balloc w (.cells #[.int .i64 k, .int .i64 x, .int .i64 y] 24)) (balloc _ (.cells #[.int .i64 0, .int .i64 0, .int .i64 0] 24)))
  have P0 := hid ((Blk.new w #[.int .i64 k, .int .i64 x, .int .i64 y] 24).alloc (.cells #[.int .i64 0, .int .i64 0, .int .i64 0] 24))
  have C0 := hid (Blk.newAt (w := w.alloc (.cells #[.int .i64 k, .int .i64 x, .int .i64 y] 24)) (k := w.heap.size + 1) (by simp) #[.int .i64 0, .int .i64 0, .int .i64 0] 24)
  have hz : ((k : Int) == 0) = true := by rw [hk0]; rfl
  clear h1 h2 h3 h4 hk hk0
  unfold cellV at *
  go_enter Try.func50, Try.ntmps50
  go_wp2_with fail
  refine (hr.out _).mono ?_
  rintro e w2 ⟨rfl, hb2⟩
  have P2 := hid (P0.out.ext hb2)
  have C2 := hid (C0.out.ext hb2)
  have Q2 := hid (bthen Q0.out hb2)
  clear hb2 P0 C0 Q0
  obtain ⟨p0, p1, p2, pf, pz⟩ := P2.out.three
  obtain ⟨c0, c1, c2, cf, cz⟩ := C2.out.three
  go_wp2_with fail
  exact bodyPost_ret (v := .tuple #[.agg #[.int .i64 0, .int .i64 0, .int .i64 0], .bool false]) (by simp [results, Try.results50, go_sem, c0, c1, c2]) rfl ⟨rfl, bset (bset (bset Q2.out (by omega) _) (by omega) _) (by omega) _⟩
theorem thull_any {a b : Po.Box} (ha : Ru.boxR a = true) (hb : Ru.boxR b = true) (w : World) : Calls Try.prog 60 #[rectV a, rectV b] w fun e w' => e = .returned (rectV (hullOf a b)) ∧ Below w.heap.size w w' := by
  have ca := hid (tboxright_any a)
  have cb := hid (tboxright_any b)
  rw [ha] at ca
  rw [hb] at cb
  clear ha hb
  obtain ⟨a0, a1, a2, a3⟩ := a
  obtain ⟨b0, b1, b2, b3⟩ := b
  have z1 := balloc w (.cells #[.int .i64 a0, .int .i64 a1, .int .i64 a2, .int .i64 a3] 42)
  have z2 := balloc (w.alloc (.cells #[.int .i64 a0, .int .i64 a1, .int .i64 a2, .int .i64 a3] 42)) (.cells #[.int .i64 b0, .int .i64 b1, .int .i64 b2, .int .i64 b3] 42)
  have z3 := balloc ((w.alloc (.cells #[.int .i64 a0, .int .i64 a1, .int .i64 a2, .int .i64 a3] 42)).alloc (.cells #[.int .i64 b0, .int .i64 b1, .int .i64 b2, .int .i64 b3] 42)) (.cells #[.int .i64 0, .int .i64 0, .int .i64 0, .int .i64 0] 42)
  have Q0 := hid (bthen (bthen z1 z2) z3)
  have A0 := hid (((Blk.new w #[.int .i64 a0, .int .i64 a1, .int .i64 a2, .int .i64 a3] 42).ext z2).ext z3)
  have B0 := hid ((Blk.newAt (w := w.alloc (.cells #[.int .i64 a0, .int .i64 a1, .int .i64 a2, .int .i64 a3] 42)) (k := w.heap.size + 1) (by simp) #[.int .i64 b0, .int .i64 b1, .int .i64 b2, .int .i64 b3] 42).ext z3)
  have C0 := hid (Blk.newAt (w := (w.alloc (.cells #[.int .i64 a0, .int .i64 a1, .int .i64 a2, .int .i64 a3] 42)).alloc (.cells #[.int .i64 b0, .int .i64 b1, .int .i64 b2, .int .i64 b3] 42)) (k := w.heap.size + 1 + 1) (by simp) #[.int .i64 0, .int .i64 0, .int .i64 0, .int .i64 0] 42)
  clear z1 z2 z3
  unfold rectV hullOf at *
  simp only at *
  go_enter Try.func60, Try.ntmps60
  go_wp2_with fail
  obtain ⟨x0, x1, x2, x3, xf, xz⟩ := A0.out.tfour
  go_wp2_with fail
  refine (ca.out _).mono ?_
  rintro e w2 ⟨rfl, hb2⟩
  have A2 := hid (A0.out.ext hb2)
  have B2 := hid (B0.out.ext hb2)
  have C2 := hid (C0.out.ext hb2)
  have Q2 := hid (bthen Q0.out hb2)
  clear hb2 A0 B0 C0 Q0 x0 x1 x2 x3 xf xz
  obtain ⟨x0, x1, x2, x3, xf, xz⟩ := B2.out.tfour
  go_wp2_with fail
  refine (cb.out _).mono ?_
  rintro e w3 ⟨rfl, hb3⟩
  have A3 := hid (A2.out.ext hb3)
  have B3 := hid (B2.out.ext hb3)
  have C3 := hid (C2.out.ext hb3)
  have Q3 := hid (bthen Q2.out hb3)
  clear hb3 A2 B2 C2 Q2 x0 x1 x2 x3 xf xz
  obtain ⟨x0, x1, x2, x3, xf, xz⟩ := A3.out.tfour
  obtain ⟨y0, y1, y2, y3, yf, yz⟩ := B3.out.tfour
  obtain ⟨c0, c1, c2, c3, cf, cz⟩ := C3.out.tfour
  go_wp2_with fail
  all_goals exact bodyPost_ret (v := .agg #[.int .i64 (min a0 b0), .int .i64 (min a1 b1), .int .i64 (max a2 b2), .int .i64 (max a3 b3)]) (by simp [results, Try.results60, go_sem, c0, c1, c2, c3]; omega) rfl ⟨rfl, bset (bset (bset (bset Q3.out (by omega) _) (by omega) _) (by omega) _) (by omega) _⟩
/-- how many points a rectangle has, as it is reckoned -/
def areaV (a : Po.Box) : Int := if Ru.boxR a = true then IntKind.u64.wrap (IntKind.u64.wrap (wrap64 (wrap64 (a.x1 - a.x0) + 1)) * IntKind.u64.wrap (wrap64 (wrap64 (a.y1 - a.y0) + 1))) else 0
theorem tarea_any (a : Po.Box) (w : World) : Calls Try.prog 59 #[rectV a] w fun e w' => e = .returned (.int .u64 (areaV a)) ∧ Below w.heap.size w w' := by
  have ca := hid (tboxright_any a)
  unfold areaV
  generalize Ru.boxR a = r at *
  obtain ⟨a0, a1, a2, a3⟩ := a
  have z1 := balloc w (.cells #[.int .i64 a0, .int .i64 a1, .int .i64 a2, .int .i64 a3] 42)
  have Q0 := hid z1
  have A0 := hid (Blk.new w #[.int .i64 a0, .int .i64 a1, .int .i64 a2, .int .i64 a3] 42)
  clear z1
  unfold rectV at *
  simp only at *
  go_enter Try.func59, Try.ntmps59
  obtain ⟨x0, x1, x2, x3, xf, xz⟩ := A0.out.tfour
  go_wp2_with fail
  refine (ca.out _).mono ?_
  rintro e w2 ⟨rfl, hb2⟩
  have A2 := hid (A0.out.ext hb2)
  have Q2 := hid (bthen Q0.out hb2)
  clear hb2 A0 Q0 x0 x1 x2 x3 xf xz
  obtain ⟨x0, x1, x2, x3, xf, xz⟩ := A2.out.tfour
  cases r with
  | false =>
    go_wp2_with fail
    go_ret
    exact ⟨ret_int rfl, Q2.out⟩
  | true =>
    go_wp2_with fail
    go_ret
    exact ⟨ret_int rfl, Q2.out⟩

end Go.Proofs.Yteddkgpnklfppaa

namespace Go.Proofs.Yteddkgpnklfppaa
open Go.RowKit Go.Sort Go.Maps

def profV (K a : Int) : Value := .agg #[.int .i64 K, .int .u64 a]
def profR (K : Int) : Bool := decide (1 ≤ K) && decide (K ≤ 65535)
theorem tfright_any (K a : Int) (w : World) : Calls Try.prog 33 #[profV K a] w fun e w' => e = .returned (.bool (profR K)) ∧ Below w.heap.size w w' := by
  have Q0 := hid (balloc w (.cells #[.int .i64 K, .int .u64 a] 29))
  have A0 := hid (Blk.new w #[.int .i64 K, .int .u64 a] 29)
  unfold profR profV
  go_enter Try.func33, Try.ntmps33
  obtain ⟨x0, x1, xf, xz⟩ := A0.out.two
  go_wp2_with fail
  all_goals
    go_ret
    refine ⟨ret_bool ?_, Q0.out⟩
    clear x0 x1 xf xz Q0 A0
    first | (simp_all; done) | (simp_all; omega)
def doesB (K a n ar : Int) : Bool := profR K && decide (K ≤ n) && decide (a ≤ ar)
theorem tDoes_any (K a n ar : Int) (w : World) : Calls Try.prog 58 #[profV K a, .int .i64 n, .int .u64 ar] w fun e w' => e = .returned (.bool (doesB K a n ar)) ∧ Below w.heap.size w w' := by
  have hr := hid (tfright_any K a)
  have Q0 := hid (balloc w (.cells #[.int .i64 K, .int .u64 a] 29))
  have A0 := hid (Blk.new w #[.int .i64 K, .int .u64 a] 29)
  unfold doesB
  generalize profR K = r at *
  unfold profV at *
  go_enter Try.func58, Try.ntmps58
  obtain ⟨x0, x1, xf, xz⟩ := A0.out.two
  go_wp2_with fail
  refine (hr.out _).mono ?_
  rintro e w2 ⟨rfl, hb2⟩
  have A2 := hid (A0.out.ext hb2)
  have Q2 := hid (bthen Q0.out hb2)
  clear hb2 A0 Q0 x0 x1 xf xz hr
  obtain ⟨x0, x1, xf, xz⟩ := A2.out.two
  cases r with
  | false =>
    go_wp2_with fail
    go_ret
    exact ⟨ret_bool rfl, Q2.out⟩
  | true =>
    go_wp2_with fail
    all_goals
      go_ret
      refine ⟨ret_bool ?_, Q2.out⟩
      clear x0 x1 xf xz Q2 A2
      first | (simp_all; done) | (simp_all; omega)

/-- a cloak's cells -/
def ckArr (b : Po.Box) (l x y k n : Int) : Array Value := #[.int .i64 b.x0, .int .i64 b.y0, .int .i64 b.x1, .int .i64 b.y1, .int .i64 l, .int .i64 x, .int .i64 y, .int .i64 k, .int .i64 n]
set_option maxRecDepth 100000 in
theorem tdoes_any (b : Po.Box) (l x y k n K a : Int) (w : World) : Calls Try.prog 48 #[.agg (ckArr b l x y k n), profV K a] w fun e w' => e = .returned (.bool (doesB K a n (areaV b))) ∧ Below w.heap.size w w' := by
  have z1 := balloc w (.cells (ckArr b l x y k n) 49)
  have z2 := balloc (w.alloc (.cells (ckArr b l x y k n) 49)) (.cells #[.int .i64 K, .int .u64 a] 29)
  have Q0 := hid (bthen z1 z2)
  have A0 := hid ((Blk.new w (ckArr b l x y k n) 49).ext z2)
  have F0 := hid (Blk.newAt (w := w.alloc (.cells (ckArr b l x y k n) 49)) (k := w.heap.size + 1) (by simp) #[.int .i64 K, .int .u64 a] 29)
  clear z1 z2
  have hA := hid (tarea_any b)
  have hD := hid (tDoes_any K a n (areaV b))
  unfold profV rectV at *
  go_enter Try.func48, Try.ntmps48
  go_upto_region 1 with (fail)
  unfold ckArr at *
  generalize (w.alloc (.cells #[.int .i64 b.x0, .int .i64 b.y0, .int .i64 b.x1, .int .i64 b.y1, .int .i64 l, .int .i64 x, .int .i64 y, .int .i64 k, .int .i64 n] 49)).alloc (.cells #[.int .i64 K, .int .u64 a] 29) = w1 at *
  have e0 := cell_regrown (A0.out.cell 0 (v := .int .i64 b.x0) rfl)
  have e1 := cell_regrown (A0.out.cell 1 (v := .int .i64 b.y0) rfl)
  have e2 := cell_regrown (A0.out.cell 2 (v := .int .i64 b.x1) rfl)
  have e3 := cell_regrown (A0.out.cell 3 (v := .int .i64 b.y1) rfl)
  have e8 := cell_regrown (A0.out.cell 8 (v := .int .i64 n) rfl)
  have f0 := cell_regrown (F0.out.cell 0 (v := .int .i64 K) rfl)
  have f1 := cell_regrown (F0.out.cell 1 (v := .int .u64 a) rfl)
  have cA : ∀ d os, Calls Try.prog 59 #[.agg #[.int .i64 b.x0, .int .i64 b.y0, .int .i64 b.x1, .int .i64 b.y1]] (grow (redrawn w1 d) os) fun e w'' => e = .returned (.int .u64 (areaV b)) ∧ ∃ p : Regrown, w'' = grow (redrawn w1 p.d) p.os := fun d os => Calls.regrown_of (hA.out _)
  have cD : ∀ d os, Calls Try.prog 58 #[.agg #[.int .i64 K, .int .u64 a], .int .i64 n, .int .u64 (areaV b)] (grow (redrawn w1 d) os) fun e w'' => e = .returned (.bool (doesB K a n (areaV b))) ∧ ∃ p : Regrown, w'' = grow (redrawn w1 p.d) p.os := fun d os => Calls.regrown_of (hD.out _)
  refine wp_region_quiet_below (by kernel_rfl) (by kernel_rfl) ?_
  quiet_step (fail)
  quiet_step (fail)
  quiet_step (fail)
  quiet_step (fail)
  quiet_step (fail)
  quiet_step (exact cA _ _)
  quiet_step (exact cD _ _)
  quiet_step (fail)
  refine wpQuiet_nil ?_
  intro _ hw'
  obtain ⟨pp, hw''⟩ := hw'
  subst hw''
  have Q7 := hid (bthen Q0.out (below_regrown w1 pp.d pp.os))
  clear e0 e1 e2 e3 e8 f0 f1 cA cD
  go_wp2_with fail
  go_ret
  exact ⟨rfl, Q7.out⟩
end Go.Proofs.Yteddkgpnklfppaa

namespace Go.Proofs.Yteddkgpnklfppaa
open Go.RowKit Go.Sort Go.Maps

theorem enter_pcount (args : Array Value) (w : World) : Sem.run Try.prog (callFunc 10 args) w = .ok (.enter 10 args) w := by kernel_rfl
/-- the pyramid's counter as a value -/
def cntFV (y : Nat) : Value := .func (.func 10) #[.pointer (some ⟨y, 0, none⟩)] #[]
theorem Blk.nine {w : World} {b : Nat} {c0 c1 c2 c3 c4 c5 c6 c7 c8 : Value} {t : TypeId} (h : Blk w b #[c0, c1, c2, c3, c4, c5, c6, c7, c8] t) :
    (w.cell? ⟨b, 0, none⟩ = some c0 ∧ w.cell? ⟨b, 1, none⟩ = some c1 ∧ w.cell? ⟨b, 2, none⟩ = some c2 ∧ w.cell? ⟨b, 3, none⟩ = some c3 ∧ w.cell? ⟨b, 4, none⟩ = some c4 ∧ w.cell? ⟨b, 5, none⟩ = some c5 ∧ w.cell? ⟨b, 6, none⟩ = some c6 ∧ w.cell? ⟨b, 7, none⟩ = some c7 ∧ w.cell? ⟨b, 8, none⟩ = some c8) ∧ (∀ o, w.frozen? ⟨b, o, none⟩ = false) ∧ b < w.heap.size :=
  ⟨⟨h.cell 0 rfl, h.cell 1 rfl, h.cell 2 rfl, h.cell 3 rfl, h.cell 4 rfl, h.cell 5 rfl, h.cell 6 rfl, h.cell 7 rfl, h.cell 8 rfl⟩, h.free, h.lt⟩
def ckZero : Array Value := #[.int .i64 0, .int .i64 0, .int .i64 0, .int .i64 0, .int .i64 0, .int .i64 0, .int .i64 0, .int .i64 0, .int .i64 0]
set_option maxRecDepth 100000 in
set_option maxHeartbeats 4000000 in
theorem town_any {w : World} {yb k : Nat} {x v : Int} {L : List Tc.Rec} (hP : Py w yb L) (hk : k ≤ 16) (h1 : 0 ≤ x) (h2 : x < 2 ^ k) (h3 : 0 ≤ v) (h4 : v < 2 ^ k) :
    Calls Try.prog 47 #[cellV k x v, cntFV yb] w fun e w' => e = .returned (.agg (ckArr (boxOf k x v) k x v 0 (Tc.cntK k (Tc.mort k x v) L))) ∧ Below w.heap.size w w' := by
  have hen := enter_pcount
  have z1 := balloc w (.cells #[.int .i64 k, .int .i64 x, .int .i64 v] 24)
  have z2 := balloc (w.alloc (.cells #[.int .i64 k, .int .i64 x, .int .i64 v] 24)) (.cells ckZero 49)
  have Q0 := hid (bthen z1 z2)
  have K0 := hid ((Blk.new w #[.int .i64 k, .int .i64 x, .int .i64 v] 24).ext z2)
  have C0 := hid (Blk.newAt (w := w.alloc (.cells #[.int .i64 k, .int .i64 x, .int .i64 v] 24)) (k := w.heap.size + 1) (by simp) ckZero 49)
  have hcn : Hid (∀ w1, Below w.heap.size w w1 → Calls Try.prog 10 #[.pointer (some ⟨yb, 0, none⟩), cellV k x v] w1 fun e w' => e = .returned (.int .i64 (Tc.cntK k (Tc.mort k x v) L)) ∧ Below w1.heap.size w1 w') := hid (fun w1 hb => tcount_yes (hP.ext hb) hk h1 h2 h3 h4)
  have hbx := hid (tbox_yes hk h1 h2 h3 h4)
  clear z1 z2 hP hk h1 h2 h3 h4
  generalize boxOf k x v = bx at *
  generalize Tc.cntK k (Tc.mort k x v) L = cn at *
  obtain ⟨b0, b1, b2, b3⟩ := bx
  unfold ckZero at *
  unfold ckArr
  unfold rectV cellV cntFV at *
  simp only at *
  go_enter Try.func47, Try.ntmps47
  go_wp2_with fail
  refine (hbx.out _).mono ?_
  rintro e w2 ⟨rfl, hb2⟩
  have K2 := hid (K0.out.ext hb2)
  have C2 := hid (C0.out.ext hb2)
  have Q2 := hid (bthen Q0.out hb2)
  clear hb2 K0 C0 Q0
  obtain ⟨k0, k1, k2, kf, kz⟩ := K2.out.three
  go_upto_region 2 with (first | (refine wpList_store_new rfl 42 (.tmp 5) (.tmp 10) rfl rfl w2 42 _ (#[.int .i64 b0, .int .i64 b1, .int .i64 b2, .int .i64 b3]) rfl rfl rfl (by kernel_rfl) rfl (rfl) ?_))
  clear k0 k1 k2 kf kz
  have z3 := balloc w2 (.cells #[.int .i64 b0, .int .i64 b1, .int .i64 b2, .int .i64 b3] 42)
  have K3 := hid (K2.out.ext z3)
  have C3 := hid (C2.out.ext z3)
  have Q3 := hid (bthen Q2.out z3)
  have R3 := hid (Blk.new w2 #[.int .i64 b0, .int .i64 b1, .int .i64 b2, .int .i64 b3] 42)
  have hlt := C2.out.lt
  generalize hw3 : w2.alloc (.cells #[.int .i64 b0, .int .i64 b1, .int .i64 b2, .int .i64 b3] 42) = w3 at *
  have hk3 : w2.heap.size < w3.heap.size := by rw [← hw3, World.size_alloc]; omega
  clear hw3 z3 K2 C2 Q2
  generalize hkr : w2.heap.size = kr at *
  generalize hkb : w.heap.size = kb at *
  have hq := hid (show kb ≤ w3.heap.size by have := Q3.out.size; omega)
  have F0 : w3.cell? ⟨kr, 0, none⟩ = some (.int .i64 b0) ∧ w3.cell? ⟨kr, 1, none⟩ = some (.int .i64 b1) ∧ w3.cell? ⟨kr, 2, none⟩ = some (.int .i64 b2) ∧ w3.cell? ⟨kr, 3, none⟩ = some (.int .i64 b3) ∧ w3.cell? ⟨kb, 0, none⟩ = some (.int .i64 k) ∧ w3.cell? ⟨kb, 1, none⟩ = some (.int .i64 x) ∧ w3.cell? ⟨kb, 2, none⟩ = some (.int .i64 v) := ⟨R3.out.cell 0 rfl, R3.out.cell 1 rfl, R3.out.cell 2 rfl, R3.out.cell 3 rfl, K3.out.cell 0 rfl, K3.out.cell 1 rfl, K3.out.cell 2 rfl⟩
  have F1 : w3.drew.cell? ⟨kr, 0, none⟩ = some (.int .i64 b0) ∧ w3.drew.cell? ⟨kr, 1, none⟩ = some (.int .i64 b1) ∧ w3.drew.cell? ⟨kr, 2, none⟩ = some (.int .i64 b2) ∧ w3.drew.cell? ⟨kr, 3, none⟩ = some (.int .i64 b3) ∧ w3.drew.cell? ⟨kb, 0, none⟩ = some (.int .i64 k) ∧ w3.drew.cell? ⟨kb, 1, none⟩ = some (.int .i64 x) ∧ w3.drew.cell? ⟨kb, 2, none⟩ = some (.int .i64 v) := ⟨R3.out.cell 0 rfl, R3.out.cell 1 rfl, R3.out.cell 2 rfl, R3.out.cell 3 rfl, K3.out.cell 0 rfl, K3.out.cell 1 rfl, K3.out.cell 2 rfl⟩
  have n1 : kb + 1 ≠ kr := by omega
  have n2 : kr ≠ kb + 1 := by omega
  have n3 : kb ≠ kr := by omega
  have n4 : kr ≠ kb := by omega
  go_region_held3 (fun w' => w'.cell? ⟨kr, 0, none⟩ = some (.int .i64 b0) ∧ w'.cell? ⟨kr, 1, none⟩ = some (.int .i64 b1) ∧ w'.cell? ⟨kr, 2, none⟩ = some (.int .i64 b2) ∧ w'.cell? ⟨kr, 3, none⟩ = some (.int .i64 b3) ∧ w'.cell? ⟨kb, 0, none⟩ = some (.int .i64 k) ∧ w'.cell? ⟨kb, 1, none⟩ = some (.int .i64 x) ∧ w'.cell? ⟨kb, 2, none⟩ = some (.int .i64 v)) (first | with_reducible assumption | go_keep) (first
    | ((with_reducible refine (hcn.out w3.drew Q3.out.drew).mono ?_
        rintro en w6 ⟨rfl, hb⟩
        have R6 := hid ((Blk.drew R3.out).ext hb)
        have K6 := hid ((Blk.drew K3.out).ext hb)
        have C6 := hid ((Blk.drew C3.out).ext hb)
        have Q6 := hid (Q3.out.drew.trans (hb.mono hq.out))
        have F6 : w6.cell? ⟨kr, 0, none⟩ = some (.int .i64 b0) ∧ w6.cell? ⟨kr, 1, none⟩ = some (.int .i64 b1) ∧ w6.cell? ⟨kr, 2, none⟩ = some (.int .i64 b2) ∧ w6.cell? ⟨kr, 3, none⟩ = some (.int .i64 b3) ∧ w6.cell? ⟨kb, 0, none⟩ = some (.int .i64 k) ∧ w6.cell? ⟨kb, 1, none⟩ = some (.int .i64 x) ∧ w6.cell? ⟨kb, 2, none⟩ = some (.int .i64 v) := ⟨R6.out.cell 0 rfl, R6.out.cell 1 rfl, R6.out.cell 2 rfl, R6.out.cell 3 rfl, K6.out.cell 0 rfl, K6.out.cell 1 rfl, K6.out.cell 2 rfl⟩
        obtain ⟨⟨c0, c1, c2, c3, c4, c5, c6, c7, c8⟩, cf, cz⟩ := C6.out.nine
        clear hb F1 F0)))
  all_goals
    go_wp2_with fail
    have hq6 := hq.out
    exact bodyPost_ret (v := .agg #[.int .i64 b0, .int .i64 b1, .int .i64 b2, .int .i64 b3, .int .i64 k, .int .i64 x, .int .i64 v, .int .i64 0, .int .i64 cn]) (by simp [results, Try.results47, go_sem, c0, c1, c2, c3, c4, c5, c6, c7, c8]) rfl ⟨rfl, by subst hkb; exact bset (bset (bset (bset (bset (bset (bset (bset (bset Q6.out (by omega) _) (by omega) _) (by omega) _) (by omega) _) (by omega) _) (by omega) _) (by omega) _) (by omega) _) (by omega) _⟩

end Go.Proofs.Yteddkgpnklfppaa
