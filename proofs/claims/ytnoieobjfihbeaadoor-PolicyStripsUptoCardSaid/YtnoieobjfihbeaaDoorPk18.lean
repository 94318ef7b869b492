/-
  The walk of PolicyFaults.
  The tables of the library that a row lists: what the listing gives, and a world that holds them.
  The walk of the document's own SameRects: rows that are alike.
  The walks of the document's own same and Same: declarations that are alike.
  The walk of PolicyForms.
-/
import Derived.Test.YtnoieobjfihbeaaDoorPk17
import Derived.Test.YtnoieobjfihbeaaDoorPk04
import Derived.Test.YtnoieobjfihbeaaDoorPk01
import Derived.Test.YtnoieobjfihbeaaDoorCards
import Derived.Test.YtnoieobjfihbeaaDoorTie
import Derived.ProofKit
import Derived.OpenShut
import Derived.ShutString
import Derived.SizedLaws
import Derived.Deep.DeepHandedRow
import Derived.Lib.LaidTab
import Derived.Test.YtnoieobjfihbeaaDoorPk10
import Derived.Test.YtnoieobjfihbeaaDoorPk16
import Derived.Test.YtnoieobjfihbeaaDoorPk05

namespace Go.Proofs.YtnoieobjfihbeaaDoor
open Go.RowKit Go.Sort

theorem known_from {w : World} (ht : TabU w) : Hid (∀ w1 : World, Below w.heap.size w w1 → Calls Tryd.prog 9 #[] w1 fun e w' => e = .returned (.bool true) ∧ Below w.heap.size w w') :=
  hid (fun w1 h1 => (known11_any w1 (tab_ext ht h1)).mono fun _e _w' ⟨h2, h3⟩ => ⟨h2, h1.trans (h3.mono h1.size)⟩)

set_option maxRecDepth 100000 in
set_option maxHeartbeats 4000000 in
theorem faults_walk {s : ByteArray} {w : World} (hs : s.size ≤ 140737488355328) (ht : TabU w) :
    Calls Tryd.prog 7 #[.string s] w fun e w' => e = .returned (.bool true) ∧ Below w.heap.size w w' := by
  have hkn := known_from ht
  have hpa := parse_any s w hs
  unfold ParsePost at hpa
  clear ht
  cases hp : Po.parse s.data.toList with
  | ok ds =>
    rw [hp] at hpa
    have hpa' := hid hpa
    clear hpa hp
    go_enter Tryd.func7, Tryd.ntmps7
    go_wp2_with fail
    refine hpa'.out.mono ?_
    rintro e w1 ⟨⟨v, vs, rfl, _⟩, hb1⟩
    have Q1 := hid (bthen hb1 (balloc w1 (.cells #[.int .i64 0, .int .i64 0, .int .i64 0] 32)))
    clear hb1
    go_wp2_with fail
    refine (hkn.out _ Q1.out).mono ?_
    rintro e w2 ⟨rfl, hb2⟩
    have Q2 := hid hb2
    clear hb2
    go_wp2_with fail
    go_ret
    exact ⟨rfl, Q2.out⟩
  | error f =>
    obtain ⟨er, l, c⟩ := f
    rw [hp] at hpa
    by_cases h31 : er = 31
    · obtain ⟨i0, hi0, hpo⟩ := Po.parse_fault hp h31
      subst h31
      have hi0' : i0 ≤ s.size := by rw [Array.length_toList] at hi0; exact hi0
      have hpo' := hid hpo
      have hpa' := hid hpa
      clear hpa hp hpo hi0
      go_enter Tryd.func7, Tryd.ntmps7
      go_wp2_with fail
      refine hpa'.out.mono ?_
      rintro e w1 ⟨⟨rfl, _⟩, hb1⟩
      have z1 := balloc w1 (.cells #[.int .i64 31, .int .i64 l, .int .i64 c] 32)
      have Q1 := hid (bthen hb1 z1)
      have F1 := hid (Blk.new w1 #[.int .i64 31, .int .i64 l, .int .i64 c] 32)
      clear hb1 z1
      go_wp2_with fail
      generalize w1.alloc (.cells #[.int .i64 31, .int .i64 l, .int .i64 c] 32) = wa at *
      generalize w1.heap.size = k at *
      go_loopw [5] (fun u wr => ∃ i : Nat, u = .int .i64 i ∧ i ≤ i0 ∧ Below w.heap.size w wr ∧ Blk wr k #[.int .i64 31, .int .i64 l, .int .i64 c] 32) (fun u _ => i0 - (intOf u).toNat)
      case atStart => exact ⟨0, rfl, Nat.zero_le _, Q1.out, F1.out⟩
      case round =>
        obtain ⟨i, rfl, hle, hQ, hF⟩ := hrel
        have Q0 := hid hQ
        have F0 := hid hF
        clear hQ hF Q1 F1
        have i1 : (i : Int) ≤ s.size := by omega
        have hpl : Hid (∀ w2 : World, Calls Tryd.prog 15 #[.string s, .int .i64 i] w2 fun e w' => e = .returned (.agg #[.int .i64 (Lx.posOf (s.data.toList.take i)).1, .int .i64 (Lx.posOf (s.data.toList.take i)).2]) ∧ Below w2.heap.size w2 w') := hid (fun w2 => rplace_nat s i w2 (by omega) hs)
        have hlt := hid (fun h : ¬ Lx.posOf (s.data.toList.take i) = (l, c) => show i < i0 from by
          rcases Nat.lt_or_ge i i0 with h3 | h3
          · exact h3
          · have : i = i0 := by omega
            exact absurd (this ▸ hpo'.out) h)
        generalize Lx.posOf (s.data.toList.take i) = p at *
        obtain ⟨p1, p2⟩ := p
        simp only at hpl
        by_cases e1 : p1 = l
        · by_cases e2 : p2 = c
          · have e1 := e1.symm
            have e2 := e2.symm
            subst e1 e2
            have S0 : wr.drew.cell? ⟨k, 1, none⟩ = some (.int .i64 l) ∧ wr.drew.cell? ⟨k, 1 + 1, none⟩ = some (.int .i64 c) := ⟨F0.out.cell 1 rfl, F0.out.cell 2 rfl⟩
            go_wp2_with fail
            go_region_held3 (fun w' => w'.cell? ⟨k, 1, none⟩ = some (.int .i64 l) ∧ w'.cell? ⟨k, 1 + 1, none⟩ = some (.int .i64 c)) (first | with_reducible assumption | go_keep) (first
              | ((go_at_call 15
                  with_reducible refine (hpl.out _).mono ?_
                  rintro en w3 ⟨rfl, hb⟩
                  have Q3 := hid (Q0.out.trans (((Below.refl _ _).drew.trans hb).mono Q0.out.size))
                  have F3 := hid ((Blk.drew F0.out).ext hb)
                  have S3 : w3.cell? ⟨k, 1, none⟩ = some (.int .i64 l) ∧ w3.cell? ⟨k, 1 + 1, none⟩ = some (.int .i64 c) := ⟨F3.out.cell 1 rfl, F3.out.cell 2 rfl⟩
                  clear hb S0)))
            clear S3
            go_wp2_with fail
            refine (hkn.out _ Q3.out).mono ?_
            rintro e w4 ⟨rfl, hb4⟩
            have Q4 := hid hb4
            clear hb4
            go_wp2_with fail
            go_ret
            exact ⟨rfl, Q4.out⟩
          · have e1 := e1.symm
            subst e1
            have hi := hlt.out (fun h => e2 (Prod.mk.inj h).2)
            have c2 : ((p2 : Int) == c) = false := by rw [beq_eq_false_iff_ne]; omega
            clear e2 hlt
            have S0 : wr.drew.cell? ⟨k, 1, none⟩ = some (.int .i64 l) ∧ wr.drew.cell? ⟨k, 1 + 1, none⟩ = some (.int .i64 c) := ⟨F0.out.cell 1 rfl, F0.out.cell 2 rfl⟩
            go_wp2_with fail
            go_region_held3 (fun w' => w'.cell? ⟨k, 1, none⟩ = some (.int .i64 l) ∧ w'.cell? ⟨k, 1 + 1, none⟩ = some (.int .i64 c)) (first | with_reducible assumption | go_keep) (first
              | ((go_at_call 15
                  with_reducible refine (hpl.out _).mono ?_
                  rintro en w3 ⟨rfl, hb⟩
                  have Q3 := hid (Q0.out.trans (((Below.refl _ _).drew.trans hb).mono Q0.out.size))
                  have F3 := hid ((Blk.drew F0.out).ext hb)
                  have S3 : w3.cell? ⟨k, 1, none⟩ = some (.int .i64 l) ∧ w3.cell? ⟨k, 1 + 1, none⟩ = some (.int .i64 c) := ⟨F3.out.cell 1 rfl, F3.out.cell 2 rfl⟩
                  clear hb S0)))
            clear S3
            go_wp2_with fail
            go_roundw
            case rel => exact ⟨i + 1, by go_num, by omega, Q3.out, F3.out⟩
            case measure => simp [intOf]; omega
        · have hi := hlt.out (fun h => e1 (Prod.mk.inj h).1)
          have c1 : ((p1 : Int) == l) = false := by rw [beq_eq_false_iff_ne]; omega
          clear e1 hlt
          have S0 : wr.drew.cell? ⟨k, 1, none⟩ = some (.int .i64 l) ∧ wr.drew.cell? ⟨k, 1 + 1, none⟩ = some (.int .i64 c) := ⟨F0.out.cell 1 rfl, F0.out.cell 2 rfl⟩
          go_wp2_with fail
          go_region_held3 (fun w' => w'.cell? ⟨k, 1, none⟩ = some (.int .i64 l) ∧ w'.cell? ⟨k, 1 + 1, none⟩ = some (.int .i64 c)) (first | with_reducible assumption | go_keep) (first
            | ((go_at_call 15
                with_reducible refine (hpl.out _).mono ?_
                rintro en w3 ⟨rfl, hb⟩
                have Q3 := hid (Q0.out.trans (((Below.refl _ _).drew.trans hb).mono Q0.out.size))
                have F3 := hid ((Blk.drew F0.out).ext hb)
                have S3 : w3.cell? ⟨k, 1, none⟩ = some (.int .i64 l) ∧ w3.cell? ⟨k, 1 + 1, none⟩ = some (.int .i64 c) := ⟨F3.out.cell 1 rfl, F3.out.cell 2 rfl⟩
                clear hb S0)))
          clear S3
          go_wp2_with fail
          go_roundw
          case rel => exact ⟨i + 1, by go_num, by omega, Q3.out, F3.out⟩
          case measure => simp [intOf]; omega
    · have h0 : ((er : Int) == 31) = false := by rw [beq_eq_false_iff_ne]; omega
      have h1 : ((er : Int) != 31) = true := by rw [bne_iff_ne]; omega
      have hpa' := hid hpa
      clear hpa hp h31
      go_enter Tryd.func7, Tryd.ntmps7
      go_wp2_with fail
      refine hpa'.out.mono ?_
      rintro e w1 ⟨⟨rfl, _⟩, hb1⟩
      have Q1 := hid (bthen hb1 (balloc w1 (.cells #[.int .i64 er, .int .i64 l, .int .i64 c] 32)))
      clear hb1
      go_wp2_with fail
      refine (hkn.out _ Q1.out).mono ?_
      rintro e w2 ⟨rfl, hb2⟩
      have Q2 := hid hb2
      clear hb2
      go_wp2_with fail
      go_ret
      exact ⟨rfl, Q2.out⟩

end Go.Proofs.YtnoieobjfihbeaaDoor

namespace Go.Proofs.YtnoieobjfihbeaaDoor
open Go.ChangeShapes Go.WideShapes Go.ChangeAt Go.RowKit

theorem cellsU64 : Tryd.prog.cellsOf 102 = 1 := by kernel_rfl
theorem cellsPow : Tryd.prog.cellsOf 127 = 20 := by kernel_rfl
theorem powName : Tryd.prog.globalNamed "internal/strconv.uint64pow10" = some 0 := by kernel_rfl
theorem powType : (Tryd.prog.globals[0]?).map (·.type) = some 127 := by kernel_rfl
theorem powDatum : (Rows.laid_internal_strconv_uint64pow10 : DataW Unit) = Lib.tabData .u64 Lib.pow10Tab := by kernel_rfl
/-- what a row's list gives: the table of powers of ten -/
theorem table {W : World} (h : laidMetH Tryd.prog [("math/bits.deBruijn32tab", Rows.laid_math_bits_deBruijn32tab), ("math/bits.deBruijn64tab", Rows.laid_math_bits_deBruijn64tab), ("internal/strconv.uint64pow10", Rows.laid_internal_strconv_uint64pow10)] W) : TabU W := by
  have h : laidMet Tryd.prog [("math/bits.deBruijn32tab", Rows.laid_math_bits_deBruijn32tab), ("math/bits.deBruijn64tab", Rows.laid_math_bits_deBruijn64tab), ("internal/strconv.uint64pow10", Rows.laid_internal_strconv_uint64pow10)] W := h
  obtain ⟨ps, ⟨_, _, _, _, _, _, _, _, _, _, ⟨_, _, _, _, _, _, _, _, _, _, ⟨g', t', cs, fuel, p, q, hg', ht', hvar, hd, _, _⟩, _⟩, _⟩, _⟩ := h
  obtain rfl := Option.some.inj (powName.symm.trans hg')
  obtain rfl := Option.some.inj (powType.symm.trans ht')
  rw [powDatum] at hd
  unfold TabU Lib.TabIs
  rw [hvar, ← Lib.cells_of_tab Tryd.underlying127 Tryd.underlying102 cellsU64 cellsPow hd]
def laying (cs : Array Value) : Obj → Obj
  | .cells _ t frozen => .cells cs t frozen
  | o => o
/-- a world for the witness: the settled one, the tables holding what their initialisers lay -/
noncomputable def laidWorld (os : Os) : World :=
  { World.holding Tryd.prog os ⟨#[], #[], []⟩ with heap := (((World.holding Tryd.prog os ⟨#[], #[], []⟩).heap.modify 1 (laying #[.int .u8 0, .int .u8 1, .int .u8 28, .int .u8 2, .int .u8 29, .int .u8 14, .int .u8 24, .int .u8 3, .int .u8 30, .int .u8 22, .int .u8 20, .int .u8 15, .int .u8 25, .int .u8 17, .int .u8 4, .int .u8 8, .int .u8 31, .int .u8 27, .int .u8 13, .int .u8 23, .int .u8 21, .int .u8 19, .int .u8 16, .int .u8 7, .int .u8 26, .int .u8 12, .int .u8 18, .int .u8 6, .int .u8 11, .int .u8 5, .int .u8 10, .int .u8 9])).modify 2 (laying #[.int .u8 0, .int .u8 1, .int .u8 56, .int .u8 2, .int .u8 57, .int .u8 49, .int .u8 28, .int .u8 3, .int .u8 61, .int .u8 58, .int .u8 42, .int .u8 50, .int .u8 38, .int .u8 29, .int .u8 17, .int .u8 4, .int .u8 62, .int .u8 47, .int .u8 59, .int .u8 36, .int .u8 45, .int .u8 43, .int .u8 51, .int .u8 22, .int .u8 53, .int .u8 39, .int .u8 33, .int .u8 30, .int .u8 24, .int .u8 18, .int .u8 12, .int .u8 5, .int .u8 63, .int .u8 55, .int .u8 48, .int .u8 27, .int .u8 60, .int .u8 41, .int .u8 37, .int .u8 16, .int .u8 46, .int .u8 35, .int .u8 44, .int .u8 21, .int .u8 52, .int .u8 32, .int .u8 23, .int .u8 11, .int .u8 54, .int .u8 26, .int .u8 40, .int .u8 15, .int .u8 34, .int .u8 20, .int .u8 31, .int .u8 10, .int .u8 25, .int .u8 14, .int .u8 19, .int .u8 9, .int .u8 13, .int .u8 8, .int .u8 7, .int .u8 6])).modify 0 (laying #[.int .u64 1, .int .u64 10, .int .u64 100, .int .u64 1000, .int .u64 10000, .int .u64 100000, .int .u64 1000000, .int .u64 10000000, .int .u64 100000000, .int .u64 1000000000, .int .u64 10000000000, .int .u64 100000000000, .int .u64 1000000000000, .int .u64 10000000000000, .int .u64 100000000000000, .int .u64 1000000000000000, .int .u64 10000000000000000, .int .u64 100000000000000000, .int .u64 1000000000000000000, .int .u64 10000000000000000000]) }
theorem ownK : ownKnob Tryd.prog.godebug = none := by kernel_rfl

end Go.Proofs.YtnoieobjfihbeaaDoor

namespace Go.Proofs.YtnoieobjfihbeaaDoor
open Go.RowKit Go.Sort

/-- a box's cells, as a region that draws reads them -/
theorem box_at {w : World} {g o : Nat} {b : Po.Box} (h : w.rangeAt g o (boxArr b).toList) : w.cell? ⟨g, o, none⟩ = some (.int .i64 b.x0) ∧ w.cell? ⟨g, o + 1, none⟩ = some (.int .i64 b.y0) ∧ w.cell? ⟨g, o + 1 + 1, none⟩ = some (.int .i64 b.x1) ∧ w.cell? ⟨g, o + 1 + 1 + 1, none⟩ = some (.int .i64 b.y1) :=
  ⟨h 0 _ rfl, h 1 _ rfl, h 2 _ rfl, h 3 _ rfl⟩

set_option maxHeartbeats 1000000 in
theorem samerects_any {w : World} {v1 v2 : Value} {l : List Po.Box} (h1 : BRow w v1 l) (h2 : BRow w v2 l) (hn : l.length ≤ 140737488355328) :
    Calls Tryd.prog 27 #[v1, v2] w fun e w' => e = .returned (.bool true) ∧ Below w.heap.size w w' := by
  by_cases h0 : l.length = 0
  · obtain ⟨p1, c1, rfl⟩ := h1.shape
    obtain ⟨p2, c2, rfl⟩ := h2.shape
    rw [h0]
    clear h1 h2
    go_enter Tryd.func27, Tryd.ntmps27
    go_wp2_with fail
    go_loop [5] (fun u => u = .int .i64 0) (fun _ => 0)
    case atStart => rfl
    case round =>
      subst hrel
      go_wp2_with fail
      go_ret
      exact ⟨rfl, Below.refl _ _⟩
  · rcases brow_of h1 with ⟨_, _, _, rfl⟩ | ⟨g1, o1, k1, rfl, r1⟩
    · exact absurd rfl h0
    rcases brow_of h2 with ⟨_, _, _, rfl⟩ | ⟨g2, o2, k2, rfl, r2⟩
    · exact absurd rfl h0
    have r1' := hid r1
    have r2' := hid r2
    clear h1 h2 r1 r2 h0
    go_enter Tryd.func27, Tryd.ntmps27
    go_wp2_with fail
    go_loopw [5] (fun u wr => ∃ i : Nat, u = .int .i64 i ∧ i ≤ l.length ∧ Below w.heap.size w wr) (fun u _ => l.length - (intOf u).toNat)
    case atStart => exact ⟨0, rfl, Nat.zero_le _, Below.refl _ _⟩
    case round =>
      obtain ⟨i, rfl, hle, hQ⟩ := hrel
      have Q0 := hid hQ
      by_cases hlt : i < l.length
      · obtain ⟨x0, x1, x2, x3⟩ := box_at ((r1'.out.ext hQ).get i hlt)
        obtain ⟨y0, y1, y2, y3⟩ := box_at ((r2'.out.ext hQ).get i hlt)
        have hg1 := Nat.lt_of_lt_of_le r1'.out.lt hQ.size
        have hg2 := Nat.lt_of_lt_of_le r2'.out.lt hQ.size
        clear hQ
        generalize l[i] = b at *
        obtain ⟨b0, b1, b2, b3⟩ := b
        simp only at x0 x1 x2 x3 y0 y1 y2 y3
        have t1 : (0 : Int) ≤ i := by omega
        have t2 : (i : Int) < l.length := by omega
        go_wp2_with fail
        go_quiet (fail)
        go_wp2_with fail
        go_roundw
        case rel => exact ⟨i + 1, by go_num, by omega, bdrewN Q0.out nq⟩
        case measure => simp [intOf]; omega
      · obtain rfl : i = l.length := by omega
        clear hQ
        go_wp2_with fail
        go_ret
        exact ⟨rfl, Q0.out⟩

end Go.Proofs.YtnoieobjfihbeaaDoor

namespace Go.Proofs.YtnoieobjfihbeaaDoor
open Go.RowKit Go.Sort

set_option maxHeartbeats 2000000 in
theorem wsame_true (x : Po.Who) (w : World) : Calls Tryd.prog 28 #[.agg (whoArr x), .agg (whoArr x), .bool true] w fun e w' => e = .returned (.bool true) ∧ Below w.heap.size w w' := by
  obtain ⟨any, name, n, l, c⟩ := x
  unfold whoArr
  simp only
  go_enter Tryd.func28, Tryd.ntmps28
  go_wp2
  go_ret
  exact ⟨rfl, bthen (balloc _ _) (balloc _ _)⟩
set_option maxHeartbeats 2000000 in
theorem wsame_false (x y : Po.Who) (w : World) (h : Po.unW x = Po.unW y) : Calls Tryd.prog 28 #[.agg (whoArr x), .agg (whoArr y), .bool false] w fun e w' => e = .returned (.bool true) ∧ Below w.heap.size w w' := by
  obtain ⟨any, name, n, l, c⟩ := x
  obtain ⟨any2, name2, n2, l2, c2⟩ := y
  unfold Po.unW at h
  simp only [Po.Who.mk.injEq, and_true] at h
  obtain ⟨rfl, rfl, rfl⟩ := h
  unfold whoArr
  simp only
  go_enter Tryd.func28, Tryd.ntmps28
  go_wp2
  go_ret
  exact ⟨rfl, bthen (balloc _ _) (balloc _ _)⟩
theorem unD_parts {a b : Po.Decl} (h : Po.unD a = Po.unD b) : a.kind = b.kind ∧ a.name = b.name ∧ a.n = b.n ∧ a.boxes = b.boxes ∧ Po.unW a.role = Po.unW b.role ∧ a.lo = b.lo ∧ a.hi = b.hi ∧ Po.unW a.label = Po.unW b.label ∧ Po.unW a.place = Po.unW b.place ∧ a.zoom = b.zoom := by
  unfold Po.unD at h
  simp only [Po.Decl.mk.injEq, and_true] at h
  exact h
theorem unD_at {l m : List Po.Decl} (h : l.map Po.unD = m.map Po.unD) {i : Nat} (hi : i < l.length) : ∃ hj : i < m.length, Po.unD l[i] = Po.unD m[i] := by
  have hl : l.length = m.length := by have := congrArg List.length h; simpa using this
  refine ⟨by omega, ?_⟩
  have h2 : (l.map Po.unD)[i]'(by simpa using hi) = (m.map Po.unD)[i]'(by simp; omega) := by simp only [h]
  simpa using h2

set_option maxRecDepth 100000 in
set_option maxHeartbeats 8000000 in
theorem psame_true {w : World} {v1 v2 : Value} {l : List Po.Decl} (h1 : DSl w v1 l) (h2 : DSl w v2 l) (hn : l.length ≤ 140737488355328) (hs : ∀ d ∈ l, DSmall d) :
    Calls Tryd.prog 14 #[v1, v2, .bool true] w fun e w' => e = .returned (.bool true) ∧ Below w.heap.size w w' := by
  obtain ⟨p1, c1, rfl⟩ := h1.shape
  obtain ⟨p2, c2, rfl⟩ := h2.shape
  have hP : ∀ {p : Option Addr} {c : Nat} {l : List Po.Decl}, DSl w (.slice p l.length c) l → 0 < l.length → ∃ g off, p = some ⟨g, off, none⟩ ∧ DRow w g off c l := fun h hpos => by
    rcases h with ⟨_, h0⟩ | ⟨g, off, cap, hv, hr⟩
    · rw [h0] at hpos; simp at hpos
    · cases hv; exact ⟨g, off, rfl, hr⟩
  have hP1 := hid (hP h1)
  have hP2 := hid (hP h2)
  have hsm := hid hs
  clear h1 h2 hP hs
  go_enter Tryd.func14, Tryd.ntmps14
  go_wp2_with fail
  go_loopw [7] (fun u wr => ∃ i : Nat, u = .int .i64 i ∧ i ≤ l.length ∧ Below w.heap.size w wr) (fun u _ => l.length - (intOf u).toNat)
  case atStart => exact ⟨0, rfl, Nat.zero_le _, Below.refl _ _⟩
  case round =>
    obtain ⟨i, rfl, hle, hQ⟩ := hrel
    have Q0 := hid hQ
    clear hQ
    by_cases hlt : i < l.length
    · obtain ⟨g1, o1, rfl, r1⟩ := hP1.out (by omega)
      obtain ⟨g2, o2, rfl, r2⟩ := hP2.out (by omega)
      obtain ⟨x1, s1⟩ := r1.at Q0.out hlt
      obtain ⟨x2, s2⟩ := r2.at Q0.out hlt
      have hfew := hid (hsm.out _ (List.getElem_mem hlt)).boxes
      generalize l[i] = d at *
      have S1 := hid s1
      have z1 := balloc wr (.cells (declCells d x1) 44)
      have hat2 : Hid ((wr.alloc (.cells (declCells d x1) 44)).rangeAt g2 (o2 + i * 24) (declCells d x2).toList) := hid (fun j u hj => (z1.cell (p := ⟨g2, o2 + i * 24 + j, none⟩) (Nat.lt_of_lt_of_le r2.lt Q0.out.size)).trans (s2.at_ j u hj))
      have ho1 := hid s1.one
      have ho2 := hid s2.one
      have Q1 := hid (bthen Q0.out z1)
      have A1 := hid (Blk.new wr (declCells d x1) 44)
      have R1a := hid (s1.box.ext z1)
      have R2a := hid (s2.box.ext z1)
      clear s1 s2 r1 r2 z1
      go_upto_region 7 with (first | (refine wpList_load_at rfl 44 (.tmp 23) rfl 24 rfl g1 (o1 + i * 24) (declCells d x1) (S1.out.at_) rfl Tryd.underlying44 rfl (by kernel_rfl) ?_) | (refine wpList_store_new rfl 44 (.tmp 8) (.tmp 24) rfl rfl wr 44 _ (declCells d x1) rfl rfl rfl (by kernel_rfl) rfl (ho1.out) ?_))
      clear S1
      generalize wr.alloc (.cells (declCells d x1) 44) = w1 at *
      generalize wr.heap.size = ba at *
      have z2 := balloc w1 (.cells (declCells d x2) 44)
      have A2 := hid (A1.out.ext z2)
      have B2 := hid (Blk.new w1 (declCells d x2) 44)
      have Q2 := hid (bthen Q1.out z2)
      have R1 := hid (R1a.out.ext z2)
      have R2 := hid (R2a.out.ext z2)
      clear z2 R1a R2a A1 Q1
      go_upto_region 8 with (first | (refine wpList_load_at rfl 44 (.tmp 27) rfl 28 rfl g2 (o2 + i * 24) (declCells d x2) (hat2.out) rfl Tryd.underlying44 rfl (by kernel_rfl) ?_) | (refine wpList_store_new rfl 44 (.tmp 9) (.tmp 28) rfl rfl w1 44 _ (declCells d x2) rfl rfl rfl (by kernel_rfl) rfl (ho2.out) ?_))
      clear hat2 ho1 ho2
      generalize w1.alloc (.cells (declCells d x2) 44) = w2 at *
      generalize w1.heap.size = bb at *
      obtain ⟨q1, d1, rfl⟩ := R1.out.shape
      obtain ⟨q2, d2, rfl⟩ := R2.out.shape
      have a0 := A2.out.cell 0 (v := .int .i64 d.kind) rfl
      have b0 := B2.out.cell 0 (v := .int .i64 d.kind) rfl
      have a1 := A2.out.cell 1 (v := .string d.name) rfl
      have b1 := B2.out.cell 1 (v := .string d.name) rfl
      have a2 := A2.out.cell 2 (v := .int .i64 d.n) rfl
      have b2 := B2.out.cell 2 (v := .int .i64 d.n) rfl
      have a3 := A2.out.cell 3 (v := .slice q1 d.boxes.length d1) rfl
      have b3 := B2.out.cell 3 (v := .slice q2 d.boxes.length d2) rfl
      have R2' := R2
      clear R2
      go_wp2_with fail
      refine (samerects_any R1.out R2'.out (by have := hfew.out; omega)).mono ?_
      rintro e3 w3 ⟨rfl, hb3⟩
      have Q3 := hid (bthen Q2.out hb3)
      have A3 := hid (A2.out.ext hb3)
      have B3 := hid (B2.out.ext hb3)
      clear hb3 a0 a1 a2 a3 b0 b1 b2 b3 A2 B2 Q2 R1 R2'
      go_wp2_with (first | (refine wpList_load_partG rfl 42 (.tmp 57) rfl 58 rfl ba (4) (whoArr d.role) (range_role A3.out) rfl Tryd.underlying42 rfl (by kernel_rfl) ?_) | (refine wpList_load_partG rfl 42 (.tmp 59) rfl 60 rfl bb (4) (whoArr d.role) (range_role B3.out) rfl Tryd.underlying42 rfl (by kernel_rfl) ?_))
      refine (wsame_true d.role _).mono ?_
      rintro e4 w4 ⟨rfl, hb4⟩
      have Q4 := hid (bthen Q3.out hb4)
      have A4 := hid (A3.out.ext hb4)
      have B4 := hid (B3.out.ext hb4)
      clear hb4 A3 B3 Q3
      have a9 := A4.out.cell 9 (v := .int .i64 d.lo) rfl
      have b9 := B4.out.cell 9 (v := .int .i64 d.lo) rfl
      have a10 := A4.out.cell 10 (v := .int .i64 d.hi) rfl
      have b10 := B4.out.cell 10 (v := .int .i64 d.hi) rfl
      go_wp2_with (first | (refine wpList_load_partG rfl 42 (.tmp 79) rfl 80 rfl ba (11) (whoArr d.label) (range_label A4.out) rfl Tryd.underlying42 rfl (by kernel_rfl) ?_) | (refine wpList_load_partG rfl 42 (.tmp 81) rfl 82 rfl bb (11) (whoArr d.label) (range_label B4.out) rfl Tryd.underlying42 rfl (by kernel_rfl) ?_))
      refine (wsame_true d.label _).mono ?_
      rintro e5 w5 ⟨rfl, hb5⟩
      have Q5 := hid (bthen Q4.out hb5)
      have A5 := hid (A4.out.ext hb5)
      have B5 := hid (B4.out.ext hb5)
      clear hb5 A4 B4 Q4 a9 a10 b9 b10
      go_wp2_with (first | (refine wpList_load_partG rfl 42 (.tmp 87) rfl 88 rfl ba (16) (whoArr d.place) (range_place A5.out) rfl Tryd.underlying42 rfl (by kernel_rfl) ?_) | (refine wpList_load_partG rfl 42 (.tmp 89) rfl 90 rfl bb (16) (whoArr d.place) (range_place B5.out) rfl Tryd.underlying42 rfl (by kernel_rfl) ?_))
      refine (wsame_true d.place _).mono ?_
      rintro e6 w6 ⟨rfl, hb6⟩
      have Q6 := hid (bthen Q5.out hb6)
      have A6 := hid (A5.out.ext hb6)
      have B6 := hid (B5.out.ext hb6)
      clear hb6 A5 B5 Q5
      have a21 := A6.out.cell 21 (v := .int .i64 d.zoom) rfl
      have b21 := B6.out.cell 21 (v := .int .i64 d.zoom) rfl
      have a22 := A6.out.cell 22 (v := .int .i64 d.line) rfl
      have b22 := B6.out.cell 22 (v := .int .i64 d.line) rfl
      have a23 := A6.out.cell 23 (v := .int .i64 d.col) rfl
      have b23 := B6.out.cell 23 (v := .int .i64 d.col) rfl
      go_wp2_with fail
      go_roundw
      case rel => exact ⟨i + 1, by go_num, by omega, Q6.out⟩
      case measure => simp [intOf]; omega
    · obtain rfl : i = l.length := by omega
      go_wp2_with fail
      go_ret
      exact ⟨rfl, Q0.out⟩

set_option maxRecDepth 100000 in
set_option maxHeartbeats 8000000 in
theorem psame_false {w : World} {v1 v2 : Value} {l : List Po.Decl} {m : List Po.Decl} (h1 : DSl w v1 l) (h2 : DSl w v2 m) (he : l.map Po.unD = m.map Po.unD) (hn : l.length ≤ 140737488355328) (hs : ∀ d ∈ l, DSmall d) :
    Calls Tryd.prog 14 #[v1, v2, .bool false] w fun e w' => e = .returned (.bool true) ∧ Below w.heap.size w w' := by
  have hlm : l.length = m.length := by have := congrArg List.length he; simpa using this
  have he' := hid he
  have hS := hid (show ∀ (i : Nat) (hi : i < l.length), ∃ hj : i < m.length, Po.unD l[i] = Po.unD m[i] from fun i hi => unD_at he hi)
  clear he
  obtain ⟨p1, c1, rfl⟩ := h1.shape
  obtain ⟨p2, c2, rfl⟩ := h2.shape
  have hP : ∀ {p : Option Addr} {c : Nat} {l : List Po.Decl}, DSl w (.slice p l.length c) l → 0 < l.length → ∃ g off, p = some ⟨g, off, none⟩ ∧ DRow w g off c l := fun h hpos => by
    rcases h with ⟨_, h0⟩ | ⟨g, off, cap, hv, hr⟩
    · rw [h0] at hpos; simp at hpos
    · cases hv; exact ⟨g, off, rfl, hr⟩
  have hP1 := hid (hP h1)
  have hP2 := hid (hP h2)
  have hsm := hid hs
  clear h1 h2 hP hs
  rw [← hlm] at *
  have hlm' := hid hlm
  clear hlm
  go_enter Tryd.func14, Tryd.ntmps14
  go_wp2_with fail
  go_loopw [7] (fun u wr => ∃ i : Nat, u = .int .i64 i ∧ i ≤ l.length ∧ Below w.heap.size w wr) (fun u _ => l.length - (intOf u).toNat)
  case atStart => exact ⟨0, rfl, Nat.zero_le _, Below.refl _ _⟩
  case round =>
    obtain ⟨i, rfl, hle, hQ⟩ := hrel
    have Q0 := hid hQ
    clear hQ
    by_cases hlt : i < l.length
    · obtain ⟨g1, o1, rfl, r1⟩ := hP1.out (by omega)
      obtain ⟨g2, o2, rfl, r2⟩ := hP2.out (by have := hlm'.out; omega)
      obtain ⟨hj, hu⟩ := hS.out i hlt
      obtain ⟨u0, u1, u2, u3, u4, u5, u6, u7, u8, u9⟩ := unD_parts hu
      obtain ⟨x1, s1⟩ := r1.at Q0.out hlt
      obtain ⟨x2, s2⟩ := r2.at Q0.out hj
      have hfew := hid (hsm.out _ (List.getElem_mem hlt)).boxes
      rw [u3] at hfew
      have U4 := hid u4
      have U7 := hid u7
      have U8 := hid u8
      clear u4 u7 u8 hu
      generalize l[i] = d at *
      generalize m[i] = e at *
      have S1 := hid s1
      have z1 := balloc wr (.cells (declCells d x1) 44)
      have hat2 : Hid ((wr.alloc (.cells (declCells d x1) 44)).rangeAt g2 (o2 + i * 24) (declCells e x2).toList) := hid (fun j u hj => (z1.cell (p := ⟨g2, o2 + i * 24 + j, none⟩) (Nat.lt_of_lt_of_le r2.lt Q0.out.size)).trans (s2.at_ j u hj))
      have ho1 := hid s1.one
      have ho2 := hid s2.one
      have Q1 := hid (bthen Q0.out z1)
      have A1 := hid (Blk.new wr (declCells d x1) 44)
      have R1a := hid (s1.box.ext z1)
      have R2a := hid (s2.box.ext z1)
      clear s1 s2 r1 r2 z1
      have u0' := hid u0
      have u1' := hid u1
      have u2' := hid u2
      have u3' := hid u3
      have u5' := hid u5
      have u6' := hid u6
      have u9' := hid u9
      clear u0 u1 u2 u3 u5 u6 u9
      go_upto_region 7 with (first | (refine wpList_load_at rfl 44 (.tmp 23) rfl 24 rfl g1 (o1 + i * 24) (declCells d x1) (S1.out.at_) rfl Tryd.underlying44 rfl (by kernel_rfl) ?_) | (refine wpList_store_new rfl 44 (.tmp 8) (.tmp 24) rfl rfl wr 44 _ (declCells d x1) rfl rfl rfl (by kernel_rfl) rfl (ho1.out) ?_))
      clear S1
      generalize wr.alloc (.cells (declCells d x1) 44) = w1 at *
      generalize wr.heap.size = ba at *
      have z2 := balloc w1 (.cells (declCells e x2) 44)
      have A2 := hid (A1.out.ext z2)
      have B2 := hid (Blk.new w1 (declCells e x2) 44)
      have Q2 := hid (bthen Q1.out z2)
      have R1 := hid (R1a.out.ext z2)
      have R2 := hid (R2a.out.ext z2)
      clear z2 R1a R2a A1 Q1
      go_upto_region 8 with (first | (refine wpList_load_at rfl 44 (.tmp 27) rfl 28 rfl g2 (o2 + i * 24) (declCells e x2) (hat2.out) rfl Tryd.underlying44 rfl (by kernel_rfl) ?_) | (refine wpList_store_new rfl 44 (.tmp 9) (.tmp 28) rfl rfl w1 44 _ (declCells e x2) rfl rfl rfl (by kernel_rfl) rfl (ho2.out) ?_))
      clear hat2 ho1 ho2
      generalize w1.alloc (.cells (declCells e x2) 44) = w2 at *
      generalize w1.heap.size = bb at *
      obtain ⟨q1, d1, rfl⟩ := R1.out.shape
      obtain ⟨q2, d2, rfl⟩ := R2.out.shape
      have a0 := A2.out.cell 0 (v := .int .i64 d.kind) rfl
      have b0 := B2.out.cell 0 (v := .int .i64 e.kind) rfl
      rw [← u0'.out] at b0
      have a1 := A2.out.cell 1 (v := .string d.name) rfl
      have b1 := B2.out.cell 1 (v := .string e.name) rfl
      rw [← u1'.out] at b1
      have a2 := A2.out.cell 2 (v := .int .i64 d.n) rfl
      have b2 := B2.out.cell 2 (v := .int .i64 e.n) rfl
      rw [← u2'.out] at b2
      have a3 := A2.out.cell 3 (v := .slice q1 d.boxes.length d1) rfl
      have b3 := B2.out.cell 3 (v := .slice q2 e.boxes.length d2) rfl
      have R2b := R2.out
      rw [← u3'.out] at R2b b3 hfew
      have R2' := hid R2b
      clear R2b R2
      go_wp2_with fail
      refine (samerects_any R1.out R2'.out (by have := hfew.out; omega)).mono ?_
      rintro e3 w3 ⟨rfl, hb3⟩
      have Q3 := hid (bthen Q2.out hb3)
      have A3 := hid (A2.out.ext hb3)
      have B3 := hid (B2.out.ext hb3)
      clear hb3 a0 a1 a2 a3 b0 b1 b2 b3 A2 B2 Q2 R1 R2'
      go_wp2_with (first | (refine wpList_load_partG rfl 42 (.tmp 57) rfl 58 rfl ba (4) (whoArr d.role) (range_role A3.out) rfl Tryd.underlying42 rfl (by kernel_rfl) ?_) | (refine wpList_load_partG rfl 42 (.tmp 59) rfl 60 rfl bb (4) (whoArr e.role) (range_role B3.out) rfl Tryd.underlying42 rfl (by kernel_rfl) ?_))
      refine (wsame_false d.role e.role _ U4.out).mono ?_
      rintro e4 w4 ⟨rfl, hb4⟩
      have Q4 := hid (bthen Q3.out hb4)
      have A4 := hid (A3.out.ext hb4)
      have B4 := hid (B3.out.ext hb4)
      clear hb4 A3 B3 Q3
      have a9 := A4.out.cell 9 (v := .int .i64 d.lo) rfl
      have b9 := B4.out.cell 9 (v := .int .i64 e.lo) rfl
      rw [← u5'.out] at b9
      have a10 := A4.out.cell 10 (v := .int .i64 d.hi) rfl
      have b10 := B4.out.cell 10 (v := .int .i64 e.hi) rfl
      rw [← u6'.out] at b10
      go_wp2_with (first | (refine wpList_load_partG rfl 42 (.tmp 79) rfl 80 rfl ba (11) (whoArr d.label) (range_label A4.out) rfl Tryd.underlying42 rfl (by kernel_rfl) ?_) | (refine wpList_load_partG rfl 42 (.tmp 81) rfl 82 rfl bb (11) (whoArr e.label) (range_label B4.out) rfl Tryd.underlying42 rfl (by kernel_rfl) ?_))
      refine (wsame_false d.label e.label _ U7.out).mono ?_
      rintro e5 w5 ⟨rfl, hb5⟩
      have Q5 := hid (bthen Q4.out hb5)
      have A5 := hid (A4.out.ext hb5)
      have B5 := hid (B4.out.ext hb5)
      clear hb5 A4 B4 Q4 a9 a10 b9 b10
      go_wp2_with (first | (refine wpList_load_partG rfl 42 (.tmp 87) rfl 88 rfl ba (16) (whoArr d.place) (range_place A5.out) rfl Tryd.underlying42 rfl (by kernel_rfl) ?_) | (refine wpList_load_partG rfl 42 (.tmp 89) rfl 90 rfl bb (16) (whoArr e.place) (range_place B5.out) rfl Tryd.underlying42 rfl (by kernel_rfl) ?_))
      refine (wsame_false d.place e.place _ U8.out).mono ?_
      rintro e6 w6 ⟨rfl, hb6⟩
      have Q6 := hid (bthen Q5.out hb6)
      have A6 := hid (A5.out.ext hb6)
      have B6 := hid (B5.out.ext hb6)
      clear hb6 A5 B5 Q5
      have a21 := A6.out.cell 21 (v := .int .i64 d.zoom) rfl
      have b21 := B6.out.cell 21 (v := .int .i64 e.zoom) rfl
      rw [← u9'.out] at b21
      go_wp2_with fail
      go_roundw
      case rel => exact ⟨i + 1, by go_num, by omega, Q6.out⟩
      case measure => simp [intOf]; omega
    · obtain rfl : i = l.length := by omega
      go_wp2_with fail
      go_ret
      exact ⟨rfl, Q0.out⟩

end Go.Proofs.YtnoieobjfihbeaaDoor

namespace Go.Proofs.YtnoieobjfihbeaaDoor
open Go.RowKit Go.Sort

set_option maxRecDepth 100000 in
set_option maxHeartbeats 4000000 in
theorem forms_walk {s : ByteArray} {w : World} (hs : s.size ≤ 140737488355328) (ht : TabU w) :
    Calls Tryd.prog 5 #[.string s] w fun e w' => e = .returned (.bool true) ∧ Below w.heap.size w w' := by
  have hkn := known_from ht
  have hpa := parse_any s w hs
  unfold ParsePost at hpa
  cases hp : Po.parse s.data.toList with
  | error f =>
    obtain ⟨er, l, c⟩ := f
    rw [hp] at hpa
    have hpa' := hid hpa
    clear hpa hp ht
    go_enter Tryd.func5, Tryd.ntmps5
    go_wp2_with fail
    refine hpa'.out.mono ?_
    rintro e w1 ⟨⟨rfl, her⟩, hb1⟩
    have Q1 := hid (bthen hb1 (balloc w1 (.cells #[.int .i64 er, .int .i64 l, .int .i64 c] 32)))
    have h1 : ((er : Int) != 0) = true := by rw [bne_iff_ne]; omega
    have h0 : ((er : Int) == 0) = false := by rw [beq_eq_false_iff_ne]; omega
    clear hb1 her
    go_wp2_with fail
    refine (hkn.out _ Q1.out).mono ?_
    rintro e w2 ⟨rfl, hb2⟩
    have Q2 := hid hb2
    clear hb2
    go_wp2_with fail
    go_ret
    exact ⟨rfl, Q2.out⟩
  | ok ds =>
    rw [hp] at hpa
    have hpa' := hid hpa
    obtain ⟨hlen, hsm, hll⟩ := read1 hp
    have hmay := Pt.parse_may hp
    have hsm' := hid hsm
    have hall := hid (Pt.all_may hmay)
    have hpm := Pt.print_may hmay
    obtain ⟨t, htx⟩ : ∃ t : ByteArray, t = ⟨(Pt.printB ds).toArray⟩ := ⟨_, rfl⟩
    have htl : t.data.toList = ds.flatMap Pt.lineB := by rw [htx, txt_bytes, hpm]
    have hts : t.size = (ds.flatMap Pt.lineB).length := by rw [← dat_size, htl]
    have hprt : Hid (∀ (w1 : World) (v : Value), Below w.heap.size w w1 → DSl w1 v ds → Calls Tryd.prog 12 #[v] w1 fun e w' => e = .returned (.string t) ∧ Below w1.heap.size w1 w') := hid (fun w1 v hb hd => by
      rw [htx]; exact printR_any hp hd (tab_ext ht hb))
    have hpt : Hid (∀ w1 : World, Calls Tryd.prog 13 #[.string t] w1 fun e w' => ParsePost t.data.toList e w' ∧ Below w1.heap.size w1 w') := hid (fun w1 => parse_any t w1 (by rw [hts]; exact hll))
    have ht' := hid ht
    have hmay' := hid hmay
    clear hpa hsm hpm htx hmay ht
    by_cases h512 : 512 < t.size
    · have hbad := hid (show Po.parse t.data.toList = .error (2, 1, 1) from by rw [htl]; exact Pt.parse_long (by rw [← hts]; exact h512))
      clear htl hts hp
      go_enter Tryd.func5, Tryd.ntmps5
      go_wp2_with fail
      refine hpa'.out.mono ?_
      rintro e w1 ⟨⟨v, vs, rfl, hds⟩, hb1⟩
      have z1 := balloc w1 (.cells #[.int .i64 0, .int .i64 0, .int .i64 0] 32)
      have D1 := hid (hds.sl.ext z1)
      have Q1 := hid (bthen hb1 z1)
      obtain ⟨vp, vc, rfl⟩ := hds.sl.shape
      clear hds hb1 z1
      go_wp2_with fail
      refine (hprt.out _ _ Q1.out D1.out).mono ?_
      rintro e w2 ⟨rfl, hb2⟩
      have D2 := hid (D1.out.ext hb2)
      have Q2 := hid (bthen Q1.out hb2)
      clear hb2 D1 Q1
      go_wp2_with fail
      refine (hpt.out _).mono ?_
      unfold ParsePost
      rw [hbad.out]
      rintro e w3 ⟨⟨rfl, _⟩, hb3⟩
      have z3 := balloc w3 (.cells #[.int .i64 2, .int .i64 1, .int .i64 1] 32)
      have D3 := hid ((D2.out.ext hb3).ext z3)
      have Q3 := hid (bthen (bthen Q2.out hb3) z3)
      have F3 := hid (Blk.new w3 #[.int .i64 2, .int .i64 1, .int .i64 1] 32)
      clear hb3 z3 D2 Q2
      have h512' : (512 : Int) < t.size := by omega
      go_wp2_with fail
      refine (pright_any D3.out (by omega) hsm'.out).mono ?_
      rw [hall.out]
      rintro e w4 ⟨rfl, hb4⟩
      have D4 := hid (D3.out.ext hb4)
      have Q4 := hid (bthen Q3.out hb4)
      have F4 := hid (F3.out.ext hb4)
      clear hb4 D3 Q3 F3
      go_wp2_with fail
      refine (pright_any D4.out (by omega) hsm'.out).mono ?_
      rw [hall.out]
      rintro e w5 ⟨rfl, hb5⟩
      have Q5 := hid (bthen Q4.out hb5)
      have f0 := (F4.out.ext hb5).cell 0 (v := .int .i64 2) rfl
      clear hb5 D4 Q4 F4
      go_wp2_with fail
      refine (hkn.out _ Q5.out).mono ?_
      rintro e w6 ⟨rfl, hb6⟩
      have Q6 := hid hb6
      clear hb6
      go_wp2_with fail
      go_ret
      exact ⟨rfl, Q6.out⟩
    · obtain ⟨es, hes, hun⟩ := Pt.parse_print hmay'.out (by omega)
      rw [← htl] at hes
      have hes' := hid hes
      have hun' := hid hun
      have hsame := hid (show (⟨(Pt.printB es).toArray⟩ : ByteArray) = t by
        rw [Pt.print_un hun, Pt.print_may hmay'.out, ← htl])
      clear htl hts hp hes hun
      go_enter Tryd.func5, Tryd.ntmps5
      go_wp2_with fail
      refine hpa'.out.mono ?_
      rintro e w1 ⟨⟨v, vs, rfl, hds⟩, hb1⟩
      have z1 := balloc w1 (.cells #[.int .i64 0, .int .i64 0, .int .i64 0] 32)
      have D1 := hid (hds.sl.ext z1)
      have Q1 := hid (bthen hb1 z1)
      obtain ⟨vp, vc, rfl⟩ := hds.sl.shape
      clear hds hb1 z1
      go_wp2_with fail
      refine (hprt.out _ _ Q1.out D1.out).mono ?_
      rintro e w2 ⟨rfl, hb2⟩
      have D2 := hid (D1.out.ext hb2)
      have Q2 := hid (bthen Q1.out hb2)
      clear hb2 D1 Q1
      go_wp2_with fail
      refine (hpt.out _).mono ?_
      unfold ParsePost
      rw [hes'.out]
      rintro e w3 ⟨⟨v3, vs3, rfl, hds3⟩, hb3⟩
      have z3 := balloc w3 (.cells #[.int .i64 0, .int .i64 0, .int .i64 0] 32)
      have D3 := hid ((D2.out.ext hb3).ext z3)
      have E3 := hid (hds3.sl.ext z3)
      have Q3 := hid (bthen (bthen Q2.out hb3) z3)
      have F3 := hid (Blk.new w3 #[.int .i64 0, .int .i64 0, .int .i64 0] 32)
      obtain ⟨vp3, vc3, rfl⟩ := hds3.sl.shape
      clear hb3 z3 D2 Q2 hds3
      have h512' : decide ((512 : Int) < t.size) = false := decide_eq_false (by omega)
      have h512'' : ¬ (512 < t.size) := h512
      go_wp2_with fail
      refine (pright_any D3.out (by omega) hsm'.out).mono ?_
      rw [hall.out]
      rintro e w4 ⟨rfl, hb4⟩
      have D4 := hid (D3.out.ext hb4)
      have E4 := hid (E3.out.ext hb4)
      have Q4 := hid (bthen Q3.out hb4)
      have f0 := (F3.out.ext hb4).cell 0 (v := .int .i64 0) rfl
      clear hb4 D3 Q3 F3 E3
      go_wp2_with fail
      refine (psame_false D4.out E4.out hun'.out.symm (by omega) hsm'.out).mono ?_
      rintro e w5 ⟨rfl, hb5⟩
      have Q5 := hid (bthen Q4.out hb5)
      have E5 := hid (E4.out.ext hb5)
      clear hb5 D4 Q4 E4 f0
      go_wp2_with fail
      refine (printR_any hes'.out E5.out (tab_ext ht'.out Q5.out)).mono ?_
      rw [hsame.out]
      rintro e w6 ⟨rfl, hb6⟩
      have Q6 := hid (bthen Q5.out hb6)
      clear hb6 Q5 E5
      go_wp2_with fail
      refine (hkn.out _ Q6.out).mono ?_
      rintro e w7 ⟨rfl, hb7⟩
      have Q7 := hid hb7
      clear hb7
      go_wp2_with fail
      go_ret
      exact ⟨rfl, Q7.out⟩

end Go.Proofs.YtnoieobjfihbeaaDoor
