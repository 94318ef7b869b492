/-
  The walks of the cloak: better.
  The walks of the cloak: at (printed by gentat.py).
  The walks of the cloak: Find (printed by gentab.py).
-/
import Derived.Test.YteddkgpnklfppaaPk10
import Derived.WalkMore

namespace Go.Proofs.Yteddkgpnklfppaa
open Go.RowKit Go.Sort Go.Maps

def BetPost (A1 A2 : Array Value) (e : Ending) : Prop := ∃ (arr : Array Value) (ok : Bool), e = .returned (.tuple #[.agg arr, .bool ok]) ∧ ((ok = true ∧ (arr = A1 ∨ arr = A2)) ∨ (ok = false ∧ arr = ckZero))
set_option maxRecDepth 100000 in
set_option maxHeartbeats 8000000 in
theorem tbetter_any (b1 b2 : Po.Box) (l1 x1 y1 k1 n1 l2 x2 y2 k2 n2 K a : Int) (w : World) :
    Calls Try.prog 51 #[.agg (ckArr b1 l1 x1 y1 k1 n1), .agg (ckArr b2 l2 x2 y2 k2 n2), profV K a] w fun e w' => BetPost (ckArr b1 l1 x1 y1 k1 n1) (ckArr b2 l2 x2 y2 k2 n2) e ∧ Below w.heap.size w w' := by
  have z1 := balloc w (.cells (ckArr b1 l1 x1 y1 k1 n1) 49)
  have z2 := balloc (w.alloc (.cells (ckArr b1 l1 x1 y1 k1 n1) 49)) (.cells (ckArr b2 l2 x2 y2 k2 n2) 49)
  have z3 := balloc ((w.alloc (.cells (ckArr b1 l1 x1 y1 k1 n1) 49)).alloc (.cells (ckArr b2 l2 x2 y2 k2 n2) 49)) (.cells #[.int .i64 K, .int .u64 a] 29)
  have z4 := balloc (((w.alloc (.cells (ckArr b1 l1 x1 y1 k1 n1) 49)).alloc (.cells (ckArr b2 l2 x2 y2 k2 n2) 49)).alloc (.cells #[.int .i64 K, .int .u64 a] 29)) (.cells ckZero 49)
  have Q0 := hid (bthen (bthen (bthen z1 z2) z3) z4)
  have A0 := hid ((((Blk.new w (ckArr b1 l1 x1 y1 k1 n1) 49).ext z2).ext z3).ext z4)
  have B0 := hid (((Blk.newAt (w := (w.alloc (.cells (ckArr b1 l1 x1 y1 k1 n1) 49))) (k := w.heap.size + 1) (by simp) (ckArr b2 l2 x2 y2 k2 n2) 49).ext z3).ext z4)
  have F0 := hid ((Blk.newAt (w := ((w.alloc (.cells (ckArr b1 l1 x1 y1 k1 n1) 49)).alloc (.cells (ckArr b2 l2 x2 y2 k2 n2) 49))) (k := w.heap.size + 1 + 1) (by simp) #[.int .i64 K, .int .u64 a] 29).ext z4)
  have C0 := hid (Blk.newAt (w := (((w.alloc (.cells (ckArr b1 l1 x1 y1 k1 n1) 49)).alloc (.cells (ckArr b2 l2 x2 y2 k2 n2) 49)).alloc (.cells #[.int .i64 K, .int .u64 a] 29))) (k := w.heap.size + 1 + 1 + 1) (by simp) ckZero 49)
  clear z1 z2 z3 z4
  have hd1 := hid (tdoes_any b1 l1 x1 y1 k1 n1 K a)
  have hd2 := hid (tdoes_any b2 l2 x2 y2 k2 n2 K a)
  unfold profV BetPost at *
  go_enter Try.func51, Try.ntmps51
  go_upto_region 1 with (fail)
  have hz : (#[.int .i64 0, .int .i64 0, .int .i64 0, .int .i64 0, .int .i64 0, .int .i64 0, .int .i64 0, .int .i64 0, .int .i64 0] : Array Value) = ckZero := rfl
  rw [hz]
  clear hz
  generalize (((w.alloc (.cells (ckArr b1 l1 x1 y1 k1 n1) 49)).alloc (.cells (ckArr b2 l2 x2 y2 k2 n2) 49)).alloc (.cells #[.int .i64 K, .int .u64 a] 29)).alloc (.cells ckZero 49) = w1 at *
  unfold ckArr ckZero at *
  have e0 := cell_regrown (A0.out.cell 0 rfl)
  have e1 := cell_regrown (A0.out.cell 1 rfl)
  have e2 := cell_regrown (A0.out.cell 2 rfl)
  have e3 := cell_regrown (A0.out.cell 3 rfl)
  have e4 := cell_regrown (A0.out.cell 4 rfl)
  have e5 := cell_regrown (A0.out.cell 5 rfl)
  have e6 := cell_regrown (A0.out.cell 6 rfl)
  have e7 := cell_regrown (A0.out.cell 7 rfl)
  have e8 := cell_regrown (A0.out.cell 8 rfl)
  have f0 := cell_regrown (B0.out.cell 0 rfl)
  have f1 := cell_regrown (B0.out.cell 1 rfl)
  have f2 := cell_regrown (B0.out.cell 2 rfl)
  have f3 := cell_regrown (B0.out.cell 3 rfl)
  have f4 := cell_regrown (B0.out.cell 4 rfl)
  have f5 := cell_regrown (B0.out.cell 5 rfl)
  have f6 := cell_regrown (B0.out.cell 6 rfl)
  have f7 := cell_regrown (B0.out.cell 7 rfl)
  have f8 := cell_regrown (B0.out.cell 8 rfl)
  have g0 := cell_regrown (F0.out.cell 0 rfl)
  have g1 := cell_regrown (F0.out.cell 1 rfl)
  have c1D : ∀ d os, Calls Try.prog 48 #[.agg #[.int .i64 b1.x0, .int .i64 b1.y0, .int .i64 b1.x1, .int .i64 b1.y1, .int .i64 l1, .int .i64 x1, .int .i64 y1, .int .i64 k1, .int .i64 n1], .agg #[.int .i64 K, .int .u64 a]] (grow (redrawn w1 d) os) fun e w'' => e = .returned (.bool (doesB K a n1 (areaV b1))) ∧ ∃ p : Regrown, w'' = grow (redrawn w1 p.d) p.os := fun d os => Calls.regrown_of (hd1.out _)
  have c2D : ∀ d os, Calls Try.prog 48 #[.agg #[.int .i64 b2.x0, .int .i64 b2.y0, .int .i64 b2.x1, .int .i64 b2.y1, .int .i64 l2, .int .i64 x2, .int .i64 y2, .int .i64 k2, .int .i64 n2], .agg #[.int .i64 K, .int .u64 a]] (grow (redrawn w1 d) os) fun e w'' => e = .returned (.bool (doesB K a n2 (areaV b2))) ∧ ∃ p : Regrown, w'' = grow (redrawn w1 p.d) p.os := fun d os => Calls.regrown_of (hd2.out _)
  refine wp_region_quiet_below (by kernel_rfl) (by kernel_rfl) ?_
  quiet_step (fail)
  quiet_step (fail)
  quiet_step (exact c1D _ _)
  quiet_step (fail)
  quiet_step (fail)
  quiet_step (exact c2D _ _)
  quiet_step (fail)
  quiet_step (fail)
  refine wpQuiet_nil ?_
  intro _ hw'
  obtain ⟨pp, hw''⟩ := hw'
  subst hw''
  have Q7 := hid (bthen Q0.out (below_regrown w1 pp.d pp.os))
  have A7 := hid (A0.out.ext (below_regrown w1 pp.d pp.os))
  have B7 := hid (B0.out.ext (below_regrown w1 pp.d pp.os))
  have C7 := hid (C0.out.ext (below_regrown w1 pp.d pp.os))
  clear e0 e1 e2 e3 e4 e5 e6 e7 e8 f0 f1 f2 f3 f4 f5 f6 f7 f8 g0 g1 c1D c2D A0 B0 C0 F0 Q0 hd1 hd2
  generalize grow (redrawn w1 pp.d) pp.os = w7 at *
  generalize doesB K a n1 (areaV b1) = d1 at *
  generalize doesB K a n2 (areaV b2) = d2 at *
  obtain ⟨⟨a0, a1, a2, a3, a4, a5, a6, a7, a8⟩, af, az⟩ := A7.out.nine
  obtain ⟨⟨h0, h1, h2, h3, h4, h5, h6, h7, h8⟩, hf, hz⟩ := B7.out.nine
  obtain ⟨⟨c0, c1, c2, c3, c4, c5, c6, c7, c8⟩, cf, cz⟩ := C7.out.nine
  cases d1 with
  | true =>
    cases d2 with
    | false =>
      go_wp2_with fail
      exact bodyPost_ret (v := .tuple #[.agg #[.int .i64 b1.x0, .int .i64 b1.y0, .int .i64 b1.x1, .int .i64 b1.y1, .int .i64 l1, .int .i64 x1, .int .i64 y1, .int .i64 k1, .int .i64 n1], .bool true]) (by simp [results, Try.results51, go_sem, c0, c1, c2, c3, c4, c5, c6, c7, c8]) rfl ⟨⟨_, _, rfl, .inl ⟨rfl, .inl rfl⟩⟩, bset (bset (bset (bset (bset (bset (bset (bset (bset Q7.out (by omega) _) (by omega) _) (by omega) _) (by omega) _) (by omega) _) (by omega) _) (by omega) _) (by omega) _) (by omega) _⟩
    | true =>
      by_cases hn : n1 ≤ n2
      · go_wp2_with fail
        exact bodyPost_ret (v := .tuple #[.agg #[.int .i64 b1.x0, .int .i64 b1.y0, .int .i64 b1.x1, .int .i64 b1.y1, .int .i64 l1, .int .i64 x1, .int .i64 y1, .int .i64 k1, .int .i64 n1], .bool true]) (by simp [results, Try.results51, go_sem, c0, c1, c2, c3, c4, c5, c6, c7, c8]) rfl ⟨⟨_, _, rfl, .inl ⟨rfl, .inl rfl⟩⟩, bset (bset (bset (bset (bset (bset (bset (bset (bset Q7.out (by omega) _) (by omega) _) (by omega) _) (by omega) _) (by omega) _) (by omega) _) (by omega) _) (by omega) _) (by omega) _⟩
      · have hn' : decide (n1 ≤ n2) = false := decide_eq_false hn
        clear hn
        go_wp2_with fail
        exact bodyPost_ret (v := .tuple #[.agg #[.int .i64 b2.x0, .int .i64 b2.y0, .int .i64 b2.x1, .int .i64 b2.y1, .int .i64 l2, .int .i64 x2, .int .i64 y2, .int .i64 k2, .int .i64 n2], .bool true]) (by simp [results, Try.results51, go_sem, c0, c1, c2, c3, c4, c5, c6, c7, c8]) rfl ⟨⟨_, _, rfl, .inl ⟨rfl, .inr rfl⟩⟩, bset (bset (bset (bset (bset (bset (bset (bset (bset Q7.out (by omega) _) (by omega) _) (by omega) _) (by omega) _) (by omega) _) (by omega) _) (by omega) _) (by omega) _) (by omega) _⟩
  | false =>
    cases d2 with
    | false =>
      go_wp2_with fail
      exact bodyPost_ret (v := .tuple #[.agg #[.int .i64 0, .int .i64 0, .int .i64 0, .int .i64 0, .int .i64 0, .int .i64 0, .int .i64 0, .int .i64 0, .int .i64 0], .bool false]) (by simp [results, Try.results51, go_sem, c0, c1, c2, c3, c4, c5, c6, c7, c8]) rfl ⟨⟨_, _, rfl, .inr ⟨rfl, rfl⟩⟩, bset (bset (bset (bset (bset (bset (bset (bset (bset Q7.out (by omega) _) (by omega) _) (by omega) _) (by omega) _) (by omega) _) (by omega) _) (by omega) _) (by omega) _) (by omega) _⟩
    | true =>
      go_wp2_with fail
      exact bodyPost_ret (v := .tuple #[.agg #[.int .i64 b2.x0, .int .i64 b2.y0, .int .i64 b2.x1, .int .i64 b2.y1, .int .i64 l2, .int .i64 x2, .int .i64 y2, .int .i64 k2, .int .i64 n2], .bool true]) (by simp [results, Try.results51, go_sem, c0, c1, c2, c3, c4, c5, c6, c7, c8]) rfl ⟨⟨_, _, rfl, .inl ⟨rfl, .inr rfl⟩⟩, bset (bset (bset (bset (bset (bset (bset (bset (bset Q7.out (by omega) _) (by omega) _) (by omega) _) (by omega) _) (by omega) _) (by omega) _) (by omega) _) (by omega) _) (by omega) _⟩

end Go.Proofs.Yteddkgpnklfppaa

namespace Go.Proofs.Yteddkgpnklfppaa
open Go.RowKit Go.Sort Go.Maps

def cntB (L : List Tc.Rec) (b : Po.Box) : Nat := (L.filter (hasP b)).length
def AtPost (L : List Tc.Rec) (e : Ending) : Prop := ∃ (b : Po.Box) (l x y kd : Int) (n : Nat) (ok : Bool), e = .returned (.tuple #[.agg (ckArr b l x y kd n), .bool ok]) ∧ (ok = true → Ru.boxR b = true ∧ n = cntB L b)
theorem bet_at {L : List Tc.Rec} {b1 b2 : Po.Box} {l1 x1 y1 k1 l2 x2 y2 k2 : Int} (h1 : Ru.boxR b1 = true) (h2 : Ru.boxR b2 = true) {e : Ending} (h : BetPost (ckArr b1 l1 x1 y1 k1 (cntB L b1)) (ckArr b2 l2 x2 y2 k2 (cntB L b2)) e) : AtPost L e := by
  obtain ⟨arr, ok, rfl, h | h⟩ := h
  · obtain ⟨rfl, rfl | rfl⟩ := h
    · exact ⟨_, _, _, _, _, _, _, rfl, fun _ => ⟨h1, rfl⟩⟩
    · exact ⟨_, _, _, _, _, _, _, rfl, fun _ => ⟨h2, rfl⟩⟩
  · obtain ⟨rfl, rfl⟩ := h
    exact ⟨⟨0, 0, 0, 0⟩, 0, 0, 0, 0, 0, false, rfl, fun h => by cases h⟩
theorem town_box {w : World} {yb k : Nat} {x v : Int} {L : List Tc.Rec} (hP : Py w yb L) (hf : ∀ r ∈ L, r.fit) (hk : k ≤ 16) (h1 : 0 ≤ x) (h2 : x < 2 ^ k) (h3 : 0 ≤ v) (h4 : v < 2 ^ k) :
    Calls Try.prog 47 #[cellV k x v, cntFV yb] w fun e w' => e = .returned (.agg (ckArr (boxOf k x v) k x v 0 (cntB L (boxOf k x v)))) ∧ Below w.heap.size w w' := by
  have h := town_any hP hk h1 h2 h3 h4
  rw [cnt_box hf hk h1 h2 h3 h4] at h
  exact h
theorem cntB_le (L : List Tc.Rec) (b : Po.Box) : cntB L b ≤ L.length := List.length_filter_le _ _
theorem tpair_box {w : World} {yb k : Nat} {x v x2 v2 kind : Int} {L : List Tc.Rec} (hP : Py w yb L) (hf : ∀ r ∈ L, r.fit) (hL : L.length ≤ 500) (hk : k ≤ 16) (h1 : 0 ≤ x) (h2 : x < 2 ^ k) (h3 : 0 ≤ v) (h4 : v < 2 ^ k) (g1 : 0 ≤ x2) (g2 : x2 < 2 ^ k) (g3 : 0 ≤ v2) (g4 : v2 < 2 ^ k) (hn : Near (boxOf k x v) (boxOf k x2 v2)) :
    Calls Try.prog 52 #[cellV k x v, cellV k x2 v2, .int .i64 kind, cntFV yb] w fun e w' => e = .returned (.agg (ckArr (hullOf (boxOf k x v) (boxOf k x2 v2)) k x v kind (cntB L (hullOf (boxOf k x v) (boxOf k x2 v2))))) ∧ Below w.heap.size w w' := by
  have e := hull_cnt (boxOf_right hk h1 h2 h3 h4) (boxOf_right hk g1 g2 g3 g4) hn L
  rw [show cntB L (hullOf (boxOf k x v) (boxOf k x2 v2)) = cntB L (boxOf k x v) + cntB L (boxOf k x2 v2) from e]
  have l1 := cntB_le L (boxOf k x v)
  have l2 := cntB_le L (boxOf k x2 v2)
  exact tpair_ck (by omega) (by omega) (boxOf_right hk h1 h2 h3 h4) (boxOf_right hk g1 g2 g3 g4) (fun w1 hb => town_box (hP.ext hb) hf hk h1 h2 h3 h4) (fun w1 hb => town_box (hP.ext hb) hf hk g1 g2 g3 g4)
set_option maxRecDepth 100000 in
set_option maxHeartbeats 8000000 in
theorem tat_any {w : World} {yb k : Nat} {x v K a : Int} {L : List Tc.Rec} (hP : Py w yb L) (hf : ∀ r ∈ L, r.fit) (hL : L.length ≤ 500) (hk : k ≤ 16) (h1 : 0 ≤ x) (h2 : x < 2 ^ k) (h3 : 0 ≤ v) (h4 : v < 2 ^ k) :
    Calls Try.prog 35 #[cellV k x v, profV K a, cntFV yb] w fun e w' => AtPost L e ∧ Below w.heap.size w w' := by
  have how := hid (fun w1 (hb : Below w.heap.size w w1) => town_box (hP.ext hb) hf hk h1 h2 h3 h4)
  have hR := hid (boxOf_right hk h1 h2 h3 h4)
  have hdo := hid (fun w1 => tdoes_any (boxOf k x v) k x v 0 (cntB L (boxOf k x v)) K a w1)
  have z1 := balloc w (.cells #[.int .i64 k, .int .i64 x, .int .i64 v] 24)
  have z2 := balloc (w.alloc (.cells #[.int .i64 k, .int .i64 x, .int .i64 v] 24)) (.cells #[.int .i64 K, .int .u64 a] 29)
  have z3 := balloc ((w.alloc (.cells #[.int .i64 k, .int .i64 x, .int .i64 v] 24)).alloc (.cells #[.int .i64 K, .int .u64 a] 29)) (.cells ckZero 49)
  have Q0 := hid (bthen (bthen z1 z2) z3)
  have E0 := hid (((Blk.new w #[.int .i64 k, .int .i64 x, .int .i64 v] 24).ext z2).ext z3)
  have F0 := hid ((Blk.newAt (w := (w.alloc (.cells #[.int .i64 k, .int .i64 x, .int .i64 v] 24))) (k := w.heap.size + 1) (by simp) #[.int .i64 K, .int .u64 a] 29).ext z3)
  have C0 := hid (Blk.newAt (w := ((w.alloc (.cells #[.int .i64 k, .int .i64 x, .int .i64 v] 24)).alloc (.cells #[.int .i64 K, .int .u64 a] 29))) (k := w.heap.size + 1 + 1) (by simp) ckZero 49)
  clear z1 z2 z3
  have hsides : (k = 0 ∧ Hid (∀ w1, Calls Try.prog 49 #[cellV k x v] w1 fun e w' => e = .returned (.tuple #[cellV 0 0 0, .bool false]) ∧ Below w1.heap.size w1 w') ∧ Hid (∀ w1, Calls Try.prog 50 #[cellV k x v] w1 fun e w' => e = .returned (.tuple #[cellV 0 0 0, .bool false]) ∧ Below w1.heap.size w1 w')) ∨
      (∃ (xs vs : Int) (r1 r2 : Po.Box), Hid (∀ w1, Calls Try.prog 49 #[cellV k x v] w1 fun e w' => e = .returned (.tuple #[cellV k xs v, .bool true]) ∧ Below w1.heap.size w1 w') ∧ Hid (∀ w1, Calls Try.prog 50 #[cellV k x v] w1 fun e w' => e = .returned (.tuple #[cellV k x vs, .bool true]) ∧ Below w1.heap.size w1 w')
        ∧ Hid (∀ w1, Below w.heap.size w w1 → Calls Try.prog 52 #[cellV k x v, cellV k xs v, .int .i64 1, cntFV yb] w1 fun e w' => e = .returned (.agg (ckArr r1 k x v 1 (cntB L r1))) ∧ Below w1.heap.size w1 w')
        ∧ Hid (∀ w1, Below w.heap.size w w1 → Calls Try.prog 52 #[cellV k x v, cellV k x vs, .int .i64 2, cntFV yb] w1 fun e w' => e = .returned (.agg (ckArr r2 k x v 2 (cntB L r2))) ∧ Below w1.heap.size w1 w')
        ∧ Hid (∀ w1, Below w.heap.size w w1 → Calls Try.prog 51 #[.agg (ckArr r1 k x v 1 (cntB L r1)), .agg (ckArr r2 k x v 2 (cntB L r2)), profV K a] w1 fun e w' => AtPost L e ∧ Below w1.heap.size w1 w')) := by
    by_cases hk0 : k = 0
    · exact .inl ⟨hk0, hid (tbeside_no hk hk0 h1 h2 h3 h4), hid (tover_no hk hk0 h1 h2 h3 h4)⟩
    · obtain ⟨s1, s2, s3⟩ := sib_at hk hk0 h1 h2
      obtain ⟨t1, t2, t3⟩ := sib_at hk hk0 h3 h4
      exact .inr ⟨_, _, _, _, hid (tbeside_yes hk hk0 h1 h2 h3 h4), hid (tover_yes hk hk0 h1 h2 h3 h4), hid (fun w1 hb => tpair_box (hP.ext hb) hf hL hk h1 h2 h3 h4 s1 s2 h3 h4 (near_of s3)), hid (fun w1 hb => tpair_box (hP.ext hb) hf hL hk h1 h2 h3 h4 h1 h2 t1 t2 (near_up t3)),
        hid (fun w1 _ => (tbetter_any _ _ _ _ _ _ _ _ _ _ _ _ _ _ w1).mono fun e w' ⟨p, q⟩ => ⟨bet_at (hull_right (boxOf_right hk h1 h2 h3 h4) (boxOf_right hk s1 s2 h3 h4)) (hull_right (boxOf_right hk h1 h2 h3 h4) (boxOf_right hk h1 h2 t1 t2)) p, q⟩)⟩
  have hsd := hid hsides
  clear hsides hP hf hL hk h1 h2 h3 h4
  generalize boxOf k x v = b0 at *
  have hcb := hid (rfl : cntB L b0 = cntB L b0)
  unfold AtPost at *
  unfold profV cellV cntFV at *
  obtain ⟨n0, hn0⟩ : ∃ n0, n0 = cntB L b0 := ⟨_, rfl⟩
  rw [← hn0] at how hdo
  have hn0' := hid hn0
  clear hn0 hcb
  go_enter Try.func35, Try.ntmps35
  obtain ⟨x0, x1, x2, xf, xz⟩ := E0.out.three
  go_upto_region 1 with (fail)
  have hz : (#[.int .i64 0, .int .i64 0, .int .i64 0, .int .i64 0, .int .i64 0, .int .i64 0, .int .i64 0, .int .i64 0, .int .i64 0] : Array Value) = ckZero := rfl
  rw [hz]
  clear hz
  generalize ((w.alloc (.cells #[.int .i64 k, .int .i64 x, .int .i64 v] 24)).alloc (.cells #[.int .i64 K, .int .u64 a] 29)).alloc (.cells ckZero 49) = w1 at *
  unfold ckZero at *
  go_wp2_with fail
  refine (how.out _ Q0.out).mono ?_
  rintro en w2 ⟨rfl, hb2⟩
  unfold ckArr at *
  have z3 := balloc w2 (.cells #[.int .i64 b0.x0, .int .i64 b0.y0, .int .i64 b0.x1, .int .i64 b0.y1, .int .i64 k, .int .i64 x, .int .i64 v, .int .i64 0, .int .i64 n0] 49)
  have E2 := hid ((E0.out.ext hb2).ext z3)
  have F2 := hid ((F0.out.ext hb2).ext z3)
  have C2 := hid ((C0.out.ext hb2).ext z3)
  have Q2 := hid (bthen (bthen Q0.out hb2) z3)
  have D2 := hid (Blk.new w2 #[.int .i64 b0.x0, .int .i64 b0.y0, .int .i64 b0.x1, .int .i64 b0.y1, .int .i64 k, .int .i64 x, .int .i64 v, .int .i64 0, .int .i64 n0] 49)
  have hm2 : w.heap.size + 1 + 1 < w2.heap.size := (C0.out.ext hb2).lt
  clear z3 hb2 x0 x1 x2 xf xz E0 F0 C0 Q0
  go_upto_region 2 with (first | (refine wpList_store_new rfl 49 (.tmp 8) (.tmp 15) rfl rfl w2 49 _ (#[.int .i64 b0.x0, .int .i64 b0.y0, .int .i64 b0.x1, .int .i64 b0.y1, .int .i64 k, .int .i64 x, .int .i64 v, .int .i64 0, .int .i64 n0]) rfl rfl rfl (by kernel_rfl) rfl (rfl) ?_))
  generalize w2.alloc (.cells #[.int .i64 b0.x0, .int .i64 b0.y0, .int .i64 b0.x1, .int .i64 b0.y1, .int .i64 k, .int .i64 x, .int .i64 v, .int .i64 0, .int .i64 n0] 49) = w2' at *
  generalize w2.heap.size = p8 at *
  obtain ⟨⟨d0, d1, d2, d3, d4, d5, d6, d7, d8⟩, df, dz⟩ := D2.out.nine
  obtain ⟨f0, f1, ff, fz⟩ := F2.out.two
  go_wp2_with fail
  refine (hdo.out _).mono ?_
  rintro en w3 ⟨rfl, hb3⟩
  have E3 := hid (E2.out.ext hb3)
  have F3 := hid (F2.out.ext hb3)
  have C3 := hid (C2.out.ext hb3)
  have D3 := hid (D2.out.ext hb3)
  have Q3 := hid (bthen Q2.out hb3)
  clear hb3 d0 d1 d2 d3 d4 d5 d6 d7 d8 df dz f0 f1 ff fz E2 F2 C2 D2 Q2
  generalize doesB K a n0 (areaV b0) = dd at *
  cases dd with
  | true =>
    obtain ⟨⟨d0, d1, d2, d3, d4, d5, d6, d7, d8⟩, df, dz⟩ := D3.out.nine
    obtain ⟨⟨c0, c1, c2, c3, c4, c5, c6, c7, c8⟩, cf, cz⟩ := C3.out.nine
    go_wp2_with fail
    exact bodyPost_ret (v := .tuple #[.agg #[.int .i64 b0.x0, .int .i64 b0.y0, .int .i64 b0.x1, .int .i64 b0.y1, .int .i64 k, .int .i64 x, .int .i64 v, .int .i64 0, .int .i64 n0], .bool true]) (by simp [results, Try.results35, go_sem, c0, c1, c2, c3, c4, c5, c6, c7, c8]) rfl ⟨⟨b0, k, x, v, 0, n0, true, rfl, fun _ => ⟨hR.out, hn0'.out⟩⟩, bset (bset (bset (bset (bset (bset (bset (bset (bset Q3.out (by omega) _) (by omega) _) (by omega) _) (by omega) _) (by omega) _) (by omega) _) (by omega) _) (by omega) _) (by omega) _⟩
  | false =>
    clear D3
    rcases hsd.out with ⟨rfl, hbs, hov⟩ | ⟨xs, vs, r1, r2, hbs, hov, hp1, hp2, hbt⟩
    · clear hsd how hdo
      obtain ⟨x0, x1, x2, xf, xz⟩ := E3.out.three
      go_wp2_with fail
      refine (hbs.out _).mono ?_
      rintro en w4 ⟨rfl, hb4⟩
      have z5 := balloc w4 (.cells #[.int .i64 0, .int .i64 0, .int .i64 0] 24)
      have E5 := hid ((E3.out.ext hb4).ext z5)
      have F5 := hid ((F3.out.ext hb4).ext z5)
      have C5 := hid ((C3.out.ext hb4).ext z5)
      have Q5 := hid (bthen (bthen Q3.out hb4) z5)
      have M5 := hid (Blk.new w4 #[.int .i64 0, .int .i64 0, .int .i64 0] 24)
      have hm5 : w.heap.size + 1 + 1 < w4.heap.size := (C3.out.ext hb4).lt
      clear z5 hb4 x0 x1 x2 xf xz E3 F3 C3 Q3
      go_upto_region 5 with (first | (refine wpList_store_new rfl 24 (.tmp 9) (.tmp 23) rfl rfl w4 24 _ (#[.int .i64 0, .int .i64 0, .int .i64 0]) rfl rfl rfl (by kernel_rfl) rfl (rfl) ?_))
      generalize hw5 : w4.alloc (.cells #[.int .i64 0, .int .i64 0, .int .i64 0] 24) = w5 at *
      have hs5 : w4.heap.size < w5.heap.size := by rw [← hw5, World.size_alloc]; omega
      clear hw5
      generalize w4.heap.size = p9 at *
      obtain ⟨x0, x1, x2, xf, xz⟩ := E5.out.three
      go_wp2_with fail
      refine (hov.out _).mono ?_
      rintro en w6 ⟨rfl, hb6⟩
      have z7 := balloc w6 (.cells #[.int .i64 0, .int .i64 0, .int .i64 0] 24)
      have E7 := hid ((E5.out.ext hb6).ext z7)
      have F7 := hid ((F5.out.ext hb6).ext z7)
      have C7 := hid ((C5.out.ext hb6).ext z7)
      have M7 := hid ((M5.out.ext hb6).ext z7)
      have Q7 := hid (bthen (bthen Q5.out hb6) z7)
      have O7 := hid (Blk.new w6 #[.int .i64 0, .int .i64 0, .int .i64 0] 24)
      have hm7 : p9 < w6.heap.size := Nat.lt_of_lt_of_le hs5 hb6.size
      clear z7 hb6 x0 x1 x2 xf xz E5 F5 C5 M5 Q5
      go_upto_region 6 with (first | (refine wpList_store_new rfl 24 (.tmp 11) (.tmp 28) rfl rfl w6 24 _ (#[.int .i64 0, .int .i64 0, .int .i64 0]) rfl rfl rfl (by kernel_rfl) rfl (rfl) ?_))
      generalize w6.alloc (.cells #[.int .i64 0, .int .i64 0, .int .i64 0] 24) = w7 at *
      generalize w6.heap.size = p11 at *
      obtain ⟨⟨c0, c1, c2, c3, c4, c5, c6, c7, c8⟩, cf, cz⟩ := C7.out.nine
      go_wp2_with fail
      exact bodyPost_ret (v := .tuple #[.agg #[.int .i64 0, .int .i64 0, .int .i64 0, .int .i64 0, .int .i64 0, .int .i64 0, .int .i64 0, .int .i64 0, .int .i64 0], .bool false]) (by simp [results, Try.results35, go_sem, c0, c1, c2, c3, c4, c5, c6, c7, c8]) rfl ⟨⟨⟨0, 0, 0, 0⟩, 0, 0, 0, 0, 0, false, rfl, fun h => by cases h⟩, bset (bset (bset (bset (bset (bset (bset (bset (bset Q7.out (by omega) _) (by omega) _) (by omega) _) (by omega) _) (by omega) _) (by omega) _) (by omega) _) (by omega) _) (by omega) _⟩

    · clear hsd how hdo
      obtain ⟨x0, x1, x2, xf, xz⟩ := E3.out.three
      go_wp2_with fail
      refine (hbs.out _).mono ?_
      rintro en w4 ⟨rfl, hb4⟩
      have z5 := balloc w4 (.cells #[.int .i64 k, .int .i64 xs, .int .i64 v] 24)
      have E5 := hid ((E3.out.ext hb4).ext z5)
      have F5 := hid ((F3.out.ext hb4).ext z5)
      have C5 := hid ((C3.out.ext hb4).ext z5)
      have Q5 := hid (bthen (bthen Q3.out hb4) z5)
      have M5 := hid (Blk.new w4 #[.int .i64 k, .int .i64 xs, .int .i64 v] 24)
      have hm5 : w.heap.size + 1 + 1 < w4.heap.size := (C3.out.ext hb4).lt
      clear z5 hb4 x0 x1 x2 xf xz E3 F3 C3 Q3
      go_upto_region 5 with (first | (refine wpList_store_new rfl 24 (.tmp 9) (.tmp 23) rfl rfl w4 24 _ (#[.int .i64 k, .int .i64 xs, .int .i64 v]) rfl rfl rfl (by kernel_rfl) rfl (rfl) ?_))
      generalize hw5 : w4.alloc (.cells #[.int .i64 k, .int .i64 xs, .int .i64 v] 24) = w5 at *
      have hs5 : w4.heap.size < w5.heap.size := by rw [← hw5, World.size_alloc]; omega
      clear hw5
      generalize w4.heap.size = p9 at *
      obtain ⟨x0, x1, x2, xf, xz⟩ := E5.out.three
      go_wp2_with fail
      refine (hov.out _).mono ?_
      rintro en w6 ⟨rfl, hb6⟩
      have z7 := balloc w6 (.cells #[.int .i64 k, .int .i64 x, .int .i64 vs] 24)
      have E7 := hid ((E5.out.ext hb6).ext z7)
      have F7 := hid ((F5.out.ext hb6).ext z7)
      have C7 := hid ((C5.out.ext hb6).ext z7)
      have M7 := hid ((M5.out.ext hb6).ext z7)
      have Q7 := hid (bthen (bthen Q5.out hb6) z7)
      have O7 := hid (Blk.new w6 #[.int .i64 k, .int .i64 x, .int .i64 vs] 24)
      have hm7 : p9 < w6.heap.size := Nat.lt_of_lt_of_le hs5 hb6.size
      clear z7 hb6 x0 x1 x2 xf xz E5 F5 C5 M5 Q5
      go_upto_region 6 with (first | (refine wpList_store_new rfl 24 (.tmp 11) (.tmp 28) rfl rfl w6 24 _ (#[.int .i64 k, .int .i64 x, .int .i64 vs]) rfl rfl rfl (by kernel_rfl) rfl (rfl) ?_))
      generalize w6.alloc (.cells #[.int .i64 k, .int .i64 x, .int .i64 vs] 24) = w7 at *
      generalize w6.heap.size = p11 at *
      have hqs := hid (show w.heap.size ≤ w7.heap.size from Q7.out.size)
      have G0 : w7.cell? ⟨w.heap.size, 0, none⟩ = some (.int .i64 k) ∧ w7.cell? ⟨w.heap.size, 1, none⟩ = some (.int .i64 x) ∧ w7.cell? ⟨w.heap.size, 2, none⟩ = some (.int .i64 v) ∧ w7.cell? ⟨w.heap.size + 1, 0, none⟩ = some (.int .i64 K) ∧ w7.cell? ⟨w.heap.size + 1, 1, none⟩ = some (.int .u64 a) ∧ w7.cell? ⟨p9, 0, none⟩ = some (.int .i64 k) ∧ w7.cell? ⟨p9, 1, none⟩ = some (.int .i64 xs) ∧ w7.cell? ⟨p9, 2, none⟩ = some (.int .i64 v) ∧ w7.cell? ⟨p11, 0, none⟩ = some (.int .i64 k) ∧ w7.cell? ⟨p11, 1, none⟩ = some (.int .i64 x) ∧ w7.cell? ⟨p11, 2, none⟩ = some (.int .i64 vs) := ⟨E7.out.cell 0 rfl, E7.out.cell 1 rfl, E7.out.cell 2 rfl, F7.out.cell 0 rfl, F7.out.cell 1 rfl, M7.out.cell 0 rfl, M7.out.cell 1 rfl, M7.out.cell 2 rfl, O7.out.cell 0 rfl, O7.out.cell 1 rfl, O7.out.cell 2 rfl⟩
      have G1 : w7.drew.cell? ⟨w.heap.size, 0, none⟩ = some (.int .i64 k) ∧ w7.drew.cell? ⟨w.heap.size, 1, none⟩ = some (.int .i64 x) ∧ w7.drew.cell? ⟨w.heap.size, 2, none⟩ = some (.int .i64 v) ∧ w7.drew.cell? ⟨w.heap.size + 1, 0, none⟩ = some (.int .i64 K) ∧ w7.drew.cell? ⟨w.heap.size + 1, 1, none⟩ = some (.int .u64 a) ∧ w7.drew.cell? ⟨p9, 0, none⟩ = some (.int .i64 k) ∧ w7.drew.cell? ⟨p9, 1, none⟩ = some (.int .i64 xs) ∧ w7.drew.cell? ⟨p9, 2, none⟩ = some (.int .i64 v) ∧ w7.drew.cell? ⟨p11, 0, none⟩ = some (.int .i64 k) ∧ w7.drew.cell? ⟨p11, 1, none⟩ = some (.int .i64 x) ∧ w7.drew.cell? ⟨p11, 2, none⟩ = some (.int .i64 vs) := ⟨E7.out.cell 0 rfl, E7.out.cell 1 rfl, E7.out.cell 2 rfl, F7.out.cell 0 rfl, F7.out.cell 1 rfl, M7.out.cell 0 rfl, M7.out.cell 1 rfl, M7.out.cell 2 rfl, O7.out.cell 0 rfl, O7.out.cell 1 rfl, O7.out.cell 2 rfl⟩
      have m1 : w.heap.size ≠ w.heap.size + 1 + 1 := by omega
      have m2 : w.heap.size + 1 + 1 ≠ w.heap.size := by omega
      have m3 : w.heap.size + 1 ≠ w.heap.size + 1 + 1 := by omega
      have m4 : w.heap.size + 1 + 1 ≠ w.heap.size + 1 := by omega
      have m5 : p9 ≠ w.heap.size + 1 + 1 := by omega
      have m6 : w.heap.size + 1 + 1 ≠ p9 := by omega
      have m7 : p11 ≠ w.heap.size + 1 + 1 := by omega
      have m8 : w.heap.size + 1 + 1 ≠ p11 := by omega
      go_upto_region 8 with (fail)
      go_region_held3 (fun w' => w'.cell? ⟨w.heap.size, 0, none⟩ = some (.int .i64 k) ∧ w'.cell? ⟨w.heap.size, 1, none⟩ = some (.int .i64 x) ∧ w'.cell? ⟨w.heap.size, 2, none⟩ = some (.int .i64 v) ∧ w'.cell? ⟨w.heap.size + 1, 0, none⟩ = some (.int .i64 K) ∧ w'.cell? ⟨w.heap.size + 1, 1, none⟩ = some (.int .u64 a) ∧ w'.cell? ⟨p9, 0, none⟩ = some (.int .i64 k) ∧ w'.cell? ⟨p9, 1, none⟩ = some (.int .i64 xs) ∧ w'.cell? ⟨p9, 2, none⟩ = some (.int .i64 v) ∧ w'.cell? ⟨p11, 0, none⟩ = some (.int .i64 k) ∧ w'.cell? ⟨p11, 1, none⟩ = some (.int .i64 x) ∧ w'.cell? ⟨p11, 2, none⟩ = some (.int .i64 vs)) (first | with_reducible assumption | go_keep) (first
          | ((go_at_call 52
              with_reducible refine (hp1.out _ Q7.out.drew).mono ?_
              rintro en v8 ⟨rfl, hb⟩
              have E8 := hid ((Blk.drew E7.out).ext hb)
              have F8 := hid ((Blk.drew F7.out).ext hb)
              have M8 := hid ((Blk.drew M7.out).ext hb)
              have O8 := hid ((Blk.drew O7.out).ext hb)
              have C8 := hid ((Blk.drew C7.out).ext hb)
              have Q8 := hid (bthen (Q7.out.drew) hb)
              have G8 : v8.cell? ⟨w.heap.size, 0, none⟩ = some (.int .i64 k) ∧ v8.cell? ⟨w.heap.size, 1, none⟩ = some (.int .i64 x) ∧ v8.cell? ⟨w.heap.size, 2, none⟩ = some (.int .i64 v) ∧ v8.cell? ⟨w.heap.size + 1, 0, none⟩ = some (.int .i64 K) ∧ v8.cell? ⟨w.heap.size + 1, 1, none⟩ = some (.int .u64 a) ∧ v8.cell? ⟨p9, 0, none⟩ = some (.int .i64 k) ∧ v8.cell? ⟨p9, 1, none⟩ = some (.int .i64 xs) ∧ v8.cell? ⟨p9, 2, none⟩ = some (.int .i64 v) ∧ v8.cell? ⟨p11, 0, none⟩ = some (.int .i64 k) ∧ v8.cell? ⟨p11, 1, none⟩ = some (.int .i64 x) ∧ v8.cell? ⟨p11, 2, none⟩ = some (.int .i64 vs) := ⟨E8.out.cell 0 rfl, E8.out.cell 1 rfl, E8.out.cell 2 rfl, F8.out.cell 0 rfl, F8.out.cell 1 rfl, M8.out.cell 0 rfl, M8.out.cell 1 rfl, M8.out.cell 2 rfl, O8.out.cell 0 rfl, O8.out.cell 1 rfl, O8.out.cell 2 rfl⟩
              clear hb G0 G1))
          | ((go_at_call 52
              with_reducible refine (hp2.out _ Q8.out).mono ?_
              rintro en v9 ⟨rfl, hb⟩
              have E9 := hid (E8.out.ext hb)
              have F9 := hid (F8.out.ext hb)
              have M9 := hid (M8.out.ext hb)
              have O9 := hid (O8.out.ext hb)
              have C9 := hid (C8.out.ext hb)
              have Q9 := hid (bthen (Q8.out) hb)
              have G9 : v9.cell? ⟨w.heap.size, 0, none⟩ = some (.int .i64 k) ∧ v9.cell? ⟨w.heap.size, 1, none⟩ = some (.int .i64 x) ∧ v9.cell? ⟨w.heap.size, 2, none⟩ = some (.int .i64 v) ∧ v9.cell? ⟨w.heap.size + 1, 0, none⟩ = some (.int .i64 K) ∧ v9.cell? ⟨w.heap.size + 1, 1, none⟩ = some (.int .u64 a) ∧ v9.cell? ⟨p9, 0, none⟩ = some (.int .i64 k) ∧ v9.cell? ⟨p9, 1, none⟩ = some (.int .i64 xs) ∧ v9.cell? ⟨p9, 2, none⟩ = some (.int .i64 v) ∧ v9.cell? ⟨p11, 0, none⟩ = some (.int .i64 k) ∧ v9.cell? ⟨p11, 1, none⟩ = some (.int .i64 x) ∧ v9.cell? ⟨p11, 2, none⟩ = some (.int .i64 vs) := ⟨E9.out.cell 0 rfl, E9.out.cell 1 rfl, E9.out.cell 2 rfl, F9.out.cell 0 rfl, F9.out.cell 1 rfl, M9.out.cell 0 rfl, M9.out.cell 1 rfl, M9.out.cell 2 rfl, O9.out.cell 0 rfl, O9.out.cell 1 rfl, O9.out.cell 2 rfl⟩
              clear hb G8))
          | ((go_at_call 51
              with_reducible refine (hbt.out _ Q9.out).mono ?_
              rintro en v10 ⟨⟨b3, l3, x3, y3, kd3, n3, ok3, rfl, hgd⟩, hb⟩
              have E10 := hid (E9.out.ext hb)
              have F10 := hid (F9.out.ext hb)
              have M10 := hid (M9.out.ext hb)
              have O10 := hid (O9.out.ext hb)
              have C10 := hid (C9.out.ext hb)
              have Q10 := hid (bthen (Q9.out) hb)
              have G10 : v10.cell? ⟨w.heap.size, 0, none⟩ = some (.int .i64 k) ∧ v10.cell? ⟨w.heap.size, 1, none⟩ = some (.int .i64 x) ∧ v10.cell? ⟨w.heap.size, 2, none⟩ = some (.int .i64 v) ∧ v10.cell? ⟨w.heap.size + 1, 0, none⟩ = some (.int .i64 K) ∧ v10.cell? ⟨w.heap.size + 1, 1, none⟩ = some (.int .u64 a) ∧ v10.cell? ⟨p9, 0, none⟩ = some (.int .i64 k) ∧ v10.cell? ⟨p9, 1, none⟩ = some (.int .i64 xs) ∧ v10.cell? ⟨p9, 2, none⟩ = some (.int .i64 v) ∧ v10.cell? ⟨p11, 0, none⟩ = some (.int .i64 k) ∧ v10.cell? ⟨p11, 1, none⟩ = some (.int .i64 x) ∧ v10.cell? ⟨p11, 2, none⟩ = some (.int .i64 vs) := ⟨E10.out.cell 0 rfl, E10.out.cell 1 rfl, E10.out.cell 2 rfl, F10.out.cell 0 rfl, F10.out.cell 1 rfl, M10.out.cell 0 rfl, M10.out.cell 1 rfl, M10.out.cell 2 rfl, O10.out.cell 0 rfl, O10.out.cell 1 rfl, O10.out.cell 2 rfl⟩
              clear hb G9
              have hgd' := hid hgd
              clear hgd
              obtain ⟨⟨c0, c1, c2, c3, c4, c5, c6, c7, c8⟩, cf, cz⟩ := C10.out.nine)))
      all_goals
        go_wp2_with fail
        exact bodyPost_ret (v := .tuple #[.agg #[.int .i64 b3.x0, .int .i64 b3.y0, .int .i64 b3.x1, .int .i64 b3.y1, .int .i64 l3, .int .i64 x3, .int .i64 y3, .int .i64 kd3, .int .i64 (n3 : Nat)], .bool ok3]) (by simp [results, Try.results35, go_sem, c0, c1, c2, c3, c4, c5, c6, c7, c8]) rfl ⟨⟨b3, l3, x3, y3, kd3, n3, ok3, rfl, hgd'.out⟩, bset (bset (bset (bset (bset (bset (bset (bset (bset Q10.out (by omega) _) (by omega) _) (by omega) _) (by omega) _) (by omega) _) (by omega) _) (by omega) _) (by omega) _) (by omega) _⟩

end Go.Proofs.Yteddkgpnklfppaa

namespace Go.Proofs.Yteddkgpnklfppaa
open Go.RowKit Go.Sort Go.Maps

def FindPost (L : List Tc.Rec) (e : Ending) : Prop := ∃ (b : Po.Box) (l x y kd : Int) (n : Nat) (g : Int), e = .returned (.tuple #[.agg (ckArr b l x y kd n), .int .i64 g]) ∧ (g = 0 → Ru.boxR b = true ∧ n = cntB L b)
theorem tfindat {yb k j : Nat} {x y K a : Int} {L : List Tc.Rec} (hL : L.length ≤ 500) (hf : ∀ r ∈ L, r.fit) (hfit : Ru.fits x y = true) (h : k + j = 16) (w : World) (hP : Py w yb L) :
    Calls Try.prog 35 #[cellV k (x / 2 ^ j) (y / 2 ^ j), profV K a, cntFV yb] w fun e w' => AtPost L e ∧ Below w.heap.size w w' := by
  have hx : 0 ≤ x ∧ x ≤ 65535 ∧ 0 ≤ y ∧ y ≤ 65535 := by
    unfold Ru.fits Ru.inside at hfit
    simp only [Bool.and_eq_true, decide_eq_true_eq] at hfit
    omega
  obtain ⟨a1, a2⟩ := Tc.sh_bd (l := k) (by omega) hx.1 hx.2.1
  obtain ⟨b1, b2⟩ := Tc.sh_bd (l := k) (by omega) hx.2.2.1 hx.2.2.2
  unfold Tc.sh at a1 a2 b1 b2
  rw [show 16 - k = j by omega] at a1 a2 b1 b2
  exact tat_any hP hf hL (by omega) a1 a2 b1 b2
set_option maxRecDepth 100000 in
set_option maxHeartbeats 8000000 in
theorem tfind_any {w : World} {yb : Nat} {x y K a : Int} {L : List Tc.Rec} (hP : Py w yb L) (hf : ∀ r ∈ L, r.fit) (hL : L.length ≤ 500) :
    Calls Try.prog 14 #[.pointer (some ⟨yb, 0, none⟩), pointV x y, profV K a] w fun e w' => FindPost L e ∧ Below w.heap.size w w' := by
  have hft := hid (tfits_any x y)
  have hrt := hid (tfright_any K a)
  have hat := hid (fun (hfit : Ru.fits x y = true) (k j : Nat) (h : k + j = 16) (w1 : World) (hb : Below w.heap.size w w1) => tfindat (K := K) (a := a) hL hf hfit h w1 (hP.ext hb))
  have hof := hid (fun (hfit : Ru.fits x y = true) (k j : Nat) (h : k + j = 16) (w1 : World) => tOf_yes h hfit w1)
  have z1 := balloc w (.cells #[.int .i64 x, .int .i64 y] 26)
  have z2 := balloc (w.alloc (.cells #[.int .i64 x, .int .i64 y] 26)) (.cells #[.int .i64 K, .int .u64 a] 29)
  have z3 := balloc ((w.alloc (.cells #[.int .i64 x, .int .i64 y] 26)).alloc (.cells #[.int .i64 K, .int .u64 a] 29)) (.cells ckZero 49)
  have Q0 := hid (bthen (bthen z1 z2) z3)
  have E0 := hid (((Blk.new w #[.int .i64 x, .int .i64 y] 26).ext z2).ext z3)
  have F0 := hid ((Blk.newAt (w := (w.alloc (.cells #[.int .i64 x, .int .i64 y] 26))) (k := w.heap.size + 1) (by simp) #[.int .i64 K, .int .u64 a] 29).ext z3)
  have C0 := hid (Blk.newAt (w := ((w.alloc (.cells #[.int .i64 x, .int .i64 y] 26)).alloc (.cells #[.int .i64 K, .int .u64 a] 29))) (k := w.heap.size + 1 + 1) (by simp) ckZero 49)
  clear z1 z2 z3 hP hf hL
  unfold FindPost ckArr
  unfold profV pointV cntFV at *
  generalize Ru.fits x y = ft at *
  generalize profR K = pr at *
  go_enter Try.func14, Try.ntmps14
  go_upto_region 1 with (fail)
  have hz : (#[.int .i64 0, .int .i64 0, .int .i64 0, .int .i64 0, .int .i64 0, .int .i64 0, .int .i64 0, .int .i64 0, .int .i64 0] : Array Value) = ckZero := rfl
  rw [hz]
  clear hz
  generalize ((w.alloc (.cells #[.int .i64 x, .int .i64 y] 26)).alloc (.cells #[.int .i64 K, .int .u64 a] 29)).alloc (.cells ckZero 49) = w1 at *
  unfold ckZero at *
  obtain ⟨x0, x1, xf, xz⟩ := E0.out.two
  go_step3
  go_wp2_with fail
  refine (hft.out _).mono ?_
  rintro en w2 ⟨rfl, hb2⟩
  have E2 := hid (E0.out.ext hb2)
  have F2 := hid (F0.out.ext hb2)
  have C2 := hid (C0.out.ext hb2)
  have Q2 := hid (bthen Q0.out hb2)
  clear hb2 x0 x1 xf xz E0 F0 C0 Q0
  cases ft with
  | false =>
    obtain ⟨⟨c0, c1, c2, c3, c4, c5, c6, c7, c8⟩, cf, cz⟩ := C2.out.nine
    go_wp2_with fail
    (try rw [Exit.noGoto_ret]); exact bodyPost_ret (v := .tuple #[.agg #[.int .i64 0, .int .i64 0, .int .i64 0, .int .i64 0, .int .i64 0, .int .i64 0, .int .i64 0, .int .i64 0, .int .i64 0], .int .i64 1]) (by simp [results, Try.results14, go_sem, c0, c1, c2, c3, c4, c5, c6, c7, c8]) rfl ⟨⟨⟨0, 0, 0, 0⟩, 0, 0, 0, 0, 0, 1, rfl, fun h => absurd h (by decide)⟩, bset (bset (bset (bset (bset (bset (bset (bset (bset Q2.out (by omega) _) (by omega) _) (by omega) _) (by omega) _) (by omega) _) (by omega) _) (by omega) _) (by omega) _) (by omega) _⟩
  | true =>
    have hat' := hid (hat.out rfl)
    have hof' := hid (hof.out rfl)
    clear hat hof
    obtain ⟨f0, f1, ff, fz⟩ := F2.out.two
    go_wp2_with fail
    refine (hrt.out _).mono ?_
    rintro en w3 ⟨rfl, hb3⟩
    have E3 := hid (E2.out.ext hb3)
    have F3 := hid (F2.out.ext hb3)
    have C3 := hid (C2.out.ext hb3)
    have Q3 := hid (bthen Q2.out hb3)
    clear hb3 f0 f1 ff fz E2 F2 C2 Q2
    cases pr with
    | false =>
      obtain ⟨⟨c0, c1, c2, c3, c4, c5, c6, c7, c8⟩, cf, cz⟩ := C3.out.nine
      go_wp2_with fail
      (try rw [Exit.noGoto_ret]); exact bodyPost_ret (v := .tuple #[.agg #[.int .i64 0, .int .i64 0, .int .i64 0, .int .i64 0, .int .i64 0, .int .i64 0, .int .i64 0, .int .i64 0, .int .i64 0], .int .i64 1]) (by simp [results, Try.results14, go_sem, c0, c1, c2, c3, c4, c5, c6, c7, c8]) rfl ⟨⟨⟨0, 0, 0, 0⟩, 0, 0, 0, 0, 0, 1, rfl, fun h => absurd h (by decide)⟩, bset (bset (bset (bset (bset (bset (bset (bset (bset Q3.out (by omega) _) (by omega) _) (by omega) _) (by omega) _) (by omega) _) (by omega) _) (by omega) _) (by omega) _) (by omega) _⟩
    | true =>
      go_wp2_with fail
      go_step3
      go_wp2_with fail
      go_loopw [8] (fun u8 wr => ∃ j : Nat, u8 = .int .i64 j ∧ j ≤ 16 ∧ Blk wr w.heap.size #[.int .i64 x, .int .i64 y] 26 ∧ Blk wr (w.heap.size + 1) #[.int .i64 K, .int .u64 a] 29 ∧ Blk wr (w.heap.size + 1 + 1) #[.int .i64 0, .int .i64 0, .int .i64 0, .int .i64 0, .int .i64 0, .int .i64 0, .int .i64 0, .int .i64 0, .int .i64 0] 49 ∧ Below w.heap.size w wr) (fun u8 _ => (intOf u8).toNat)
      case atStart => exact ⟨16, rfl, Nat.le_refl _, E3.out, F3.out, C3.out, Q3.out⟩
      case round =>
        obtain ⟨j, rfl, hj, hE, hF, hC, hQ⟩ := hrel
        have E4 := hid hE
        have F4 := hid hF
        have C4 := hid hC
        have Q4 := hid hQ
        clear hE hF hC hQ E3 F3 C3 Q3
        have hoj := hid (hof'.out j (16 - j) (by omega))
        have haj := hid (hat'.out j (16 - j) (by omega))
        generalize x / 2 ^ (16 - j) = cx at *
        generalize y / 2 ^ (16 - j) = cy at *
        unfold cellV at *
        unfold AtPost ckArr at haj
        obtain ⟨x0, x1, xf, xz⟩ := E4.out.two
        go_wp2_with fail
        refine (hoj.out _).mono ?_
        rintro en w5 ⟨rfl, hb5⟩
        have z6 := balloc w5 (.cells #[.int .i64 j, .int .i64 cx, .int .i64 cy] 24)
        have E6 := hid ((E4.out.ext hb5).ext z6)
        have F6 := hid ((F4.out.ext hb5).ext z6)
        have C6 := hid ((C4.out.ext hb5).ext z6)
        have Q6 := hid (bthen (bthen Q4.out hb5) z6)
        have M6 := hid (Blk.new w5 #[.int .i64 j, .int .i64 cx, .int .i64 cy] 24)
        clear z6 hb5 x0 x1 xf xz E4 F4 C4 Q4
        go_upto_region 7 with (first | (refine wpList_store_new rfl 24 (.tmp 9) (.tmp 29) rfl rfl w5 24 _ (#[.int .i64 j, .int .i64 cx, .int .i64 cy]) rfl rfl rfl (by kernel_rfl) rfl (rfl) ?_))
        generalize w5.alloc (.cells #[.int .i64 j, .int .i64 cx, .int .i64 cy] 24) = w6 at *
        generalize w5.heap.size = p9 at *
        obtain ⟨m0, m1, m2, mf, mz⟩ := M6.out.three
        obtain ⟨f0, f1, ff, fz⟩ := F6.out.two
        go_wp2_with fail
        refine (haj.out _ Q6.out).mono ?_
        rintro en w7 ⟨⟨b3, l3, x3, y3, kd3, n3, ok3, rfl, hgd⟩, hb7⟩
        have z8 := balloc w7 (.cells #[.int .i64 b3.x0, .int .i64 b3.y0, .int .i64 b3.x1, .int .i64 b3.y1, .int .i64 l3, .int .i64 x3, .int .i64 y3, .int .i64 kd3, .int .i64 (n3 : Nat)] 49)
        have hgd' := hid hgd
        have E8 := hid ((E6.out.ext hb7).ext z8)
        have F8 := hid ((F6.out.ext hb7).ext z8)
        have C8 := hid ((C6.out.ext hb7).ext z8)
        have Q8 := hid (bthen (bthen Q6.out hb7) z8)
        have D8 := hid (Blk.new w7 #[.int .i64 b3.x0, .int .i64 b3.y0, .int .i64 b3.x1, .int .i64 b3.y1, .int .i64 l3, .int .i64 x3, .int .i64 y3, .int .i64 kd3, .int .i64 (n3 : Nat)] 49)
        have hm8 : w.heap.size + 1 + 1 < w7.heap.size := (C6.out.ext hb7).lt
        clear z8 hb7 m0 m1 m2 mf mz f0 f1 ff fz E6 F6 C6 Q6 M6 hgd
        go_upto_region 8 with (first | (refine wpList_store_new rfl 49 (.tmp 11) (.tmp 37) rfl rfl w7 49 _ (#[.int .i64 b3.x0, .int .i64 b3.y0, .int .i64 b3.x1, .int .i64 b3.y1, .int .i64 l3, .int .i64 x3, .int .i64 y3, .int .i64 kd3, .int .i64 (n3 : Nat)]) rfl rfl rfl (by kernel_rfl) rfl (rfl) ?_))
        generalize w7.alloc (.cells #[.int .i64 b3.x0, .int .i64 b3.y0, .int .i64 b3.x1, .int .i64 b3.y1, .int .i64 l3, .int .i64 x3, .int .i64 y3, .int .i64 kd3, .int .i64 (n3 : Nat)] 49) = w8 at *
        generalize w7.heap.size = p11 at *
        cases ok3 with
        | true =>
          obtain ⟨⟨d0, d1, d2, d3, d4, d5, d6, d7, d8⟩, df, dz⟩ := D8.out.nine
          obtain ⟨⟨c0, c1, c2, c3, c4, c5, c6, c7, c8⟩, cf, cz⟩ := C8.out.nine
          have mm : p11 ≠ w.heap.size + 1 + 1 := by omega
          go_wp2_with fail
          (try rw [Exit.noGoto_ret]); exact bodyPost_ret (v := .tuple #[.agg #[.int .i64 b3.x0, .int .i64 b3.y0, .int .i64 b3.x1, .int .i64 b3.y1, .int .i64 l3, .int .i64 x3, .int .i64 y3, .int .i64 kd3, .int .i64 (n3 : Nat)], .int .i64 0]) (by simp [results, Try.results14, go_sem, c0, c1, c2, c3, c4, c5, c6, c7, c8]) rfl ⟨⟨b3, l3, x3, y3, kd3, n3, 0, rfl, fun _ => hgd'.out (by first | trivial | rfl)⟩, bset (bset (bset (bset (bset (bset (bset (bset (bset Q8.out (by omega) _) (by omega) _) (by omega) _) (by omega) _) (by omega) _) (by omega) _) (by omega) _) (by omega) _) (by omega) _⟩
        | false =>
          by_cases hj0 : j = 0
          · have hjb : ((j : Int) == 0) = true := by rw [hj0]; rfl
            obtain ⟨⟨c0, c1, c2, c3, c4, c5, c6, c7, c8⟩, cf, cz⟩ := C8.out.nine
            go_wp2_with fail
            (try rw [Exit.noGoto_ret]); exact bodyPost_ret (v := .tuple #[.agg #[.int .i64 0, .int .i64 0, .int .i64 0, .int .i64 0, .int .i64 0, .int .i64 0, .int .i64 0, .int .i64 0, .int .i64 0], .int .i64 21]) (by simp [results, Try.results14, go_sem, c0, c1, c2, c3, c4, c5, c6, c7, c8]) rfl ⟨⟨⟨0, 0, 0, 0⟩, 0, 0, 0, 0, 0, 21, rfl, fun h => absurd h (by decide)⟩, bset (bset (bset (bset (bset (bset (bset (bset (bset Q8.out (by omega) _) (by omega) _) (by omega) _) (by omega) _) (by omega) _) (by omega) _) (by omega) _) (by omega) _) (by omega) _⟩
          · have hjb : ((j : Int) == 0) = false := by rw [beq_eq_false_iff_ne]; omega
            go_wp2_with fail
            go_roundw
            case rel => exact ⟨j - 1, by go_num, by omega, E8.out, F8.out, C8.out, Q8.out⟩
            case measure => simp [intOf]; omega

end Go.Proofs.Yteddkgpnklfppaa
