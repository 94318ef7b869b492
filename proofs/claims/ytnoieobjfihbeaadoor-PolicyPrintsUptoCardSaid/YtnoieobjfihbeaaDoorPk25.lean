/-
  The walk of PolicyFaults.
  The walk of PolicyPrints.
  The tables of the library that a row lists: what the listing gives, and a world that holds them.
  What comes in, read: rows of rules, of boxes, of declarations, as the walks want them; and that all reads again as it did.
  What comes in, read: declarations.
  What comes in, read under the bound of the second form: declarations.
-/
import Derived.Test.YtnoieobjfihbeaaDoorPk24
import Derived.Test.YtnoieobjfihbeaaDoorPk03
import Derived.Test.YtnoieobjfihbeaaDoorPk20
import Derived.Test.YtnoieobjfihbeaaDoorCards
import Derived.Test.YtnoieobjfihbeaaDoorTie
import Derived.ProofKit
import Derived.OpenShut
import Derived.ShutString
import Derived.SizedLaws
import Derived.Deep.DeepHandedRow
import Derived.Lib.LaidTab
import Derived.Test.YtnoieobjfihbeaaDoorPk15
import Derived.Carry
import Derived.Deep.Slices

namespace Go.Proofs.YtnoieobjfihbeaaDoor
open Go.RowKit Go.Sort

theorem known_from {w : World} (ht : TabU w) : Hid (∀ w1 : World, Below w.heap.size w w1 → Calls Tryd.prog 9 #[] w1 fun e w' => e = .returned (.bool true) ∧ Below w.heap.size w w') :=
  hid (fun w1 h1 => (known11_any w1 (tab_ext ht h1)).mono fun _e _w' ⟨h2, h3⟩ => ⟨h2, h1.trans (h3.mono h1.size)⟩)

set_option maxRecDepth 100000 in
set_option maxHeartbeats 4000000 in
theorem faults_walk {s : ByteArray} {w : World} (hs : s.size ≤ 140737488355328) (ht : TabU w) :
    Calls Tryd.prog 7 #[.string s] w fun e w' => e = .returned (.bool true) ∧ Below w.heap.size w w' := by
  have hkn := known_from ht
  have hpa := parse_any s w hs
  unfold ParsePost at hpa
  clear ht
  cases hp : Po.parse s.data.toList with
  | ok ds =>
    rw [hp] at hpa
    have hpa' := hid hpa
    clear hpa hp
    go_enter Tryd.func7, Tryd.ntmps7
    go_wp2_with fail
    refine hpa'.out.mono ?_
    rintro e w1 ⟨⟨v, vs, rfl, _⟩, hb1⟩
    have Q1 := hid (bthen hb1 (balloc w1 (.cells #[.int .i64 0, .int .i64 0, .int .i64 0] 32)))
    clear hb1
    go_wp2_with fail
    refine (hkn.out _ Q1.out).mono ?_
    rintro e w2 ⟨rfl, hb2⟩
    have Q2 := hid hb2
    clear hb2
    go_wp2_with fail
    go_ret
    exact ⟨rfl, Q2.out⟩
  | error f =>
    obtain ⟨er, l, c⟩ := f
    rw [hp] at hpa
    by_cases h31 : er = 31
    · obtain ⟨i0, hi0, hpo⟩ := Po.parse_fault hp h31
      subst h31
      have hi0' : i0 ≤ s.size := by rw [Array.length_toList] at hi0; exact hi0
      have hpo' := hid hpo
      have hpa' := hid hpa
      clear hpa hp hpo hi0
      go_enter Tryd.func7, Tryd.ntmps7
      go_wp2_with fail
      refine hpa'.out.mono ?_
      rintro e w1 ⟨⟨rfl, _⟩, hb1⟩
      have z1 := balloc w1 (.cells #[.int .i64 31, .int .i64 l, .int .i64 c] 32)
      have Q1 := hid (bthen hb1 z1)
      have F1 := hid (Blk.new w1 #[.int .i64 31, .int .i64 l, .int .i64 c] 32)
      clear hb1 z1
      go_wp2_with fail
      generalize w1.alloc (.cells #[.int .i64 31, .int .i64 l, .int .i64 c] 32) = wa at *
      generalize w1.heap.size = k at *
      go_loopw [5] (fun u wr => ∃ i : Nat, u = .int .i64 i ∧ i ≤ i0 ∧ Below w.heap.size w wr ∧ Blk wr k #[.int .i64 31, .int .i64 l, .int .i64 c] 32) (fun u _ => i0 - (intOf u).toNat)
      case atStart => exact ⟨0, rfl, Nat.zero_le _, Q1.out, F1.out⟩
      case round =>
        obtain ⟨i, rfl, hle, hQ, hF⟩ := hrel
        have Q0 := hid hQ
        have F0 := hid hF
        clear hQ hF Q1 F1
        have i1 : (i : Int) ≤ s.size := by omega
        have hpl : Hid (∀ w2 : World, Calls Tryd.prog 15 #[.string s, .int .i64 i] w2 fun e w' => e = .returned (.agg #[.int .i64 (Lx.posOf (s.data.toList.take i)).1, .int .i64 (Lx.posOf (s.data.toList.take i)).2]) ∧ Below w2.heap.size w2 w') := hid (fun w2 => rplace_nat s i w2 (by omega) hs)
        have hlt := hid (fun h : ¬ Lx.posOf (s.data.toList.take i) = (l, c) => show i < i0 from by
          rcases Nat.lt_or_ge i i0 with h3 | h3
          · exact h3
          · have : i = i0 := by omega
            exact absurd (this ▸ hpo'.out) h)
        generalize Lx.posOf (s.data.toList.take i) = p at *
        obtain ⟨p1, p2⟩ := p
        simp only at hpl
        by_cases e1 : p1 = l
        · by_cases e2 : p2 = c
          · have e1 := e1.symm
            have e2 := e2.symm
            subst e1 e2
            have S0 : wr.drew.cell? ⟨k, 1, none⟩ = some (.int .i64 l) ∧ wr.drew.cell? ⟨k, 1 + 1, none⟩ = some (.int .i64 c) := ⟨F0.out.cell 1 rfl, F0.out.cell 2 rfl⟩
            go_wp2_with fail
            go_region_held3 (fun w' => w'.cell? ⟨k, 1, none⟩ = some (.int .i64 l) ∧ w'.cell? ⟨k, 1 + 1, none⟩ = some (.int .i64 c)) (first | with_reducible assumption | go_keep) (first
              | ((go_at_call 15
                  with_reducible refine (hpl.out _).mono ?_
                  rintro en w3 ⟨rfl, hb⟩
                  have Q3 := hid (Q0.out.trans (((Below.refl _ _).drew.trans hb).mono Q0.out.size))
                  have F3 := hid ((Blk.drew F0.out).ext hb)
                  have S3 : w3.cell? ⟨k, 1, none⟩ = some (.int .i64 l) ∧ w3.cell? ⟨k, 1 + 1, none⟩ = some (.int .i64 c) := ⟨F3.out.cell 1 rfl, F3.out.cell 2 rfl⟩
                  clear hb S0)))
            clear S3
            go_wp2_with fail
            refine (hkn.out _ Q3.out).mono ?_
            rintro e w4 ⟨rfl, hb4⟩
            have Q4 := hid hb4
            clear hb4
            go_wp2_with fail
            go_ret
            exact ⟨rfl, Q4.out⟩
          · have e1 := e1.symm
            subst e1
            have hi := hlt.out (fun h => e2 (Prod.mk.inj h).2)
            have c2 : ((p2 : Int) == c) = false := by rw [beq_eq_false_iff_ne]; omega
            clear e2 hlt
            have S0 : wr.drew.cell? ⟨k, 1, none⟩ = some (.int .i64 l) ∧ wr.drew.cell? ⟨k, 1 + 1, none⟩ = some (.int .i64 c) := ⟨F0.out.cell 1 rfl, F0.out.cell 2 rfl⟩
            go_wp2_with fail
            go_region_held3 (fun w' => w'.cell? ⟨k, 1, none⟩ = some (.int .i64 l) ∧ w'.cell? ⟨k, 1 + 1, none⟩ = some (.int .i64 c)) (first | with_reducible assumption | go_keep) (first
              | ((go_at_call 15
                  with_reducible refine (hpl.out _).mono ?_
                  rintro en w3 ⟨rfl, hb⟩
                  have Q3 := hid (Q0.out.trans (((Below.refl _ _).drew.trans hb).mono Q0.out.size))
                  have F3 := hid ((Blk.drew F0.out).ext hb)
                  have S3 : w3.cell? ⟨k, 1, none⟩ = some (.int .i64 l) ∧ w3.cell? ⟨k, 1 + 1, none⟩ = some (.int .i64 c) := ⟨F3.out.cell 1 rfl, F3.out.cell 2 rfl⟩
                  clear hb S0)))
            clear S3
            go_wp2_with fail
            go_roundw
            case rel => exact ⟨i + 1, by go_num, by omega, Q3.out, F3.out⟩
            case measure => simp [intOf]; omega
        · have hi := hlt.out (fun h => e1 (Prod.mk.inj h).1)
          have c1 : ((p1 : Int) == l) = false := by rw [beq_eq_false_iff_ne]; omega
          clear e1 hlt
          have S0 : wr.drew.cell? ⟨k, 1, none⟩ = some (.int .i64 l) ∧ wr.drew.cell? ⟨k, 1 + 1, none⟩ = some (.int .i64 c) := ⟨F0.out.cell 1 rfl, F0.out.cell 2 rfl⟩
          go_wp2_with fail
          go_region_held3 (fun w' => w'.cell? ⟨k, 1, none⟩ = some (.int .i64 l) ∧ w'.cell? ⟨k, 1 + 1, none⟩ = some (.int .i64 c)) (first | with_reducible assumption | go_keep) (first
            | ((go_at_call 15
                with_reducible refine (hpl.out _).mono ?_
                rintro en w3 ⟨rfl, hb⟩
                have Q3 := hid (Q0.out.trans (((Below.refl _ _).drew.trans hb).mono Q0.out.size))
                have F3 := hid ((Blk.drew F0.out).ext hb)
                have S3 : w3.cell? ⟨k, 1, none⟩ = some (.int .i64 l) ∧ w3.cell? ⟨k, 1 + 1, none⟩ = some (.int .i64 c) := ⟨F3.out.cell 1 rfl, F3.out.cell 2 rfl⟩
                clear hb S0)))
          clear S3
          go_wp2_with fail
          go_roundw
          case rel => exact ⟨i + 1, by go_num, by omega, Q3.out, F3.out⟩
          case measure => simp [intOf]; omega
    · have h0 : ((er : Int) == 31) = false := by rw [beq_eq_false_iff_ne]; omega
      have h1 : ((er : Int) != 31) = true := by rw [bne_iff_ne]; omega
      have hpa' := hid hpa
      clear hpa hp h31
      go_enter Tryd.func7, Tryd.ntmps7
      go_wp2_with fail
      refine hpa'.out.mono ?_
      rintro e w1 ⟨⟨rfl, _⟩, hb1⟩
      have Q1 := hid (bthen hb1 (balloc w1 (.cells #[.int .i64 er, .int .i64 l, .int .i64 c] 32)))
      clear hb1
      go_wp2_with fail
      refine (hkn.out _ Q1.out).mono ?_
      rintro e w2 ⟨rfl, hb2⟩
      have Q2 := hid hb2
      clear hb2
      go_wp2_with fail
      go_ret
      exact ⟨rfl, Q2.out⟩

end Go.Proofs.YtnoieobjfihbeaaDoor

namespace Go.Proofs.YtnoieobjfihbeaaDoor
open Go.RowKit Go.Sort

set_option maxRecDepth 100000 in
set_option maxHeartbeats 4000000 in
theorem prints_walk {w : World} {v : Value} {l : List Po.Decl} (h : DSl w v l) (hn : l.length ≤ 140737488355328) (hs : ∀ d ∈ l, DSmall d) (hlines : l.length ≤ 200 → ∀ i, (l.take i).all Ru.may = true → ((l.take i).flatMap Pt.lineB).length ≤ 140737488355328) (ht : TabU w) :
    Calls Tryd.prog 3 #[v] w fun e w' => e = .returned (.bool true) ∧ Below w.heap.size w w' := by
  have hkn := known_from ht
  have hds := hid h
  obtain ⟨vp, vc, rfl⟩ := h.shape
  by_cases hL : 200 < l.length
  · have hL' : (200 : Int) < l.length := by omega
    clear hds ht h hs hlines
    go_enter Tryd.func3, Tryd.ntmps3
    go_wp2_with fail
    refine (hkn.out _ (Below.refl _ _)).mono ?_
    rintro e w2 ⟨rfl, hb2⟩
    have Q2 := hid hb2
    clear hb2
    go_wp2_with fail
    go_ret
    exact ⟨rfl, Q2.out⟩
  have hd1 : decide ((200 : Int) < l.length) = false := decide_eq_false (by omega)
  have hli := hlines (by omega)
  have hr := hid (lright_any h hn hs hli)
  have hpr := hid (fun (w1 : World) (hb : Below w.heap.size w w1) => pright_any (hds.out.ext hb) hn hs)
  have hpl : Hid (∀ (w1 : World), Below w.heap.size w w1 → Calls Tryd.prog 12 #[.slice vp l.length vc] w1 fun e w' => e = .returned (.string ⟨(Pt.printB l).toArray⟩) ∧ Below w1.heap.size w1 w') := hid (fun w1 hb =>
    print_any (hds.out.ext hb) hn hs (tab_ext ht hb) (fun ha => by
      have := hli l.length (by rw [List.take_length]; exact ha)
      rw [List.take_length] at this
      exact this))
  have hln : l.length ≤ 200 := by omega
  generalize (⟨(Pt.printB l).toArray⟩ : ByteArray) = t at *
  generalize l.all Ru.may = ok at *
  clear h hs hlines ht hL hli
  go_enter Tryd.func3, Tryd.ntmps3
  go_wp2_with fail
  refine hr.out.mono ?_
  rintro e w1 ⟨rfl, hb1⟩
  have Q1 := hid hb1
  clear hb1 hr
  go_wp2_with fail
  refine (hpr.out _ Q1.out).mono ?_
  rintro e w2 ⟨rfl, hb2⟩
  have Q2 := hid (bthen Q1.out hb2)
  clear hb2
  have hbb : (ok == ok) = true := beq_self_eq_true ok
  go_wp2_with fail
  refine (hpl.out _ Q2.out).mono ?_
  rintro e w3 ⟨rfl, hb3⟩
  have Q3 := hid (bthen Q2.out hb3)
  clear hb3
  go_wp2_with fail
  refine (hkn.out _ Q3.out).mono ?_
  rintro e w5 ⟨rfl, hb5⟩
  have Q5 := hid hb5
  clear hb5
  go_wp2_with fail
  go_ret
  exact ⟨rfl, Q5.out⟩

end Go.Proofs.YtnoieobjfihbeaaDoor

namespace Go.Proofs.YtnoieobjfihbeaaDoor
open Go.ChangeShapes Go.WideShapes Go.ChangeAt Go.RowKit

theorem cellsU64 : Tryd.prog.cellsOf 102 = 1 := by kernel_rfl
theorem cellsPow : Tryd.prog.cellsOf 127 = 20 := by kernel_rfl
theorem powName : Tryd.prog.globalNamed "internal/strconv.uint64pow10" = some 0 := by kernel_rfl
theorem powType : (Tryd.prog.globals[0]?).map (·.type) = some 127 := by kernel_rfl
theorem powDatum : (Rows.laid_internal_strconv_uint64pow10 : DataW Unit) = Lib.tabData .u64 Lib.pow10Tab := by kernel_rfl
/-- what a row's list gives: the table of powers of ten -/
theorem table {W : World} (h : laidMetH Tryd.prog [("math/bits.deBruijn32tab", Rows.laid_math_bits_deBruijn32tab), ("math/bits.deBruijn64tab", Rows.laid_math_bits_deBruijn64tab), ("internal/strconv.uint64pow10", Rows.laid_internal_strconv_uint64pow10)] W) : TabU W := by
  have h : laidMet Tryd.prog [("math/bits.deBruijn32tab", Rows.laid_math_bits_deBruijn32tab), ("math/bits.deBruijn64tab", Rows.laid_math_bits_deBruijn64tab), ("internal/strconv.uint64pow10", Rows.laid_internal_strconv_uint64pow10)] W := h
  obtain ⟨ps, ⟨_, _, _, _, _, _, _, _, _, _, ⟨_, _, _, _, _, _, _, _, _, _, ⟨g', t', cs, fuel, p, q, hg', ht', hvar, hd, _, _⟩, _⟩, _⟩, _⟩ := h
  obtain rfl := Option.some.inj (powName.symm.trans hg')
  obtain rfl := Option.some.inj (powType.symm.trans ht')
  rw [powDatum] at hd
  unfold TabU Lib.TabIs
  rw [hvar, ← Lib.cells_of_tab Tryd.underlying127 Tryd.underlying102 cellsU64 cellsPow hd]
def laying (cs : Array Value) : Obj → Obj
  | .cells _ t frozen => .cells cs t frozen
  | o => o
/-- a world for the witness: the settled one, the tables holding what their initialisers lay -/
noncomputable def laidWorld (os : Os) : World :=
  { World.holding Tryd.prog os ⟨#[], #[], []⟩ with heap := (((World.holding Tryd.prog os ⟨#[], #[], []⟩).heap.modify 1 (laying #[.int .u8 0, .int .u8 1, .int .u8 28, .int .u8 2, .int .u8 29, .int .u8 14, .int .u8 24, .int .u8 3, .int .u8 30, .int .u8 22, .int .u8 20, .int .u8 15, .int .u8 25, .int .u8 17, .int .u8 4, .int .u8 8, .int .u8 31, .int .u8 27, .int .u8 13, .int .u8 23, .int .u8 21, .int .u8 19, .int .u8 16, .int .u8 7, .int .u8 26, .int .u8 12, .int .u8 18, .int .u8 6, .int .u8 11, .int .u8 5, .int .u8 10, .int .u8 9])).modify 2 (laying #[.int .u8 0, .int .u8 1, .int .u8 56, .int .u8 2, .int .u8 57, .int .u8 49, .int .u8 28, .int .u8 3, .int .u8 61, .int .u8 58, .int .u8 42, .int .u8 50, .int .u8 38, .int .u8 29, .int .u8 17, .int .u8 4, .int .u8 62, .int .u8 47, .int .u8 59, .int .u8 36, .int .u8 45, .int .u8 43, .int .u8 51, .int .u8 22, .int .u8 53, .int .u8 39, .int .u8 33, .int .u8 30, .int .u8 24, .int .u8 18, .int .u8 12, .int .u8 5, .int .u8 63, .int .u8 55, .int .u8 48, .int .u8 27, .int .u8 60, .int .u8 41, .int .u8 37, .int .u8 16, .int .u8 46, .int .u8 35, .int .u8 44, .int .u8 21, .int .u8 52, .int .u8 32, .int .u8 23, .int .u8 11, .int .u8 54, .int .u8 26, .int .u8 40, .int .u8 15, .int .u8 34, .int .u8 20, .int .u8 31, .int .u8 10, .int .u8 25, .int .u8 14, .int .u8 19, .int .u8 9, .int .u8 13, .int .u8 8, .int .u8 7, .int .u8 6])).modify 0 (laying #[.int .u64 1, .int .u64 10, .int .u64 100, .int .u64 1000, .int .u64 10000, .int .u64 100000, .int .u64 1000000, .int .u64 10000000, .int .u64 100000000, .int .u64 1000000000, .int .u64 10000000000, .int .u64 100000000000, .int .u64 1000000000000, .int .u64 10000000000000, .int .u64 100000000000000, .int .u64 1000000000000000, .int .u64 10000000000000000, .int .u64 100000000000000000, .int .u64 1000000000000000000, .int .u64 10000000000000000000]) }
theorem ownK : ownKnob Tryd.prog.godebug = none := by kernel_rfl

end Go.Proofs.YtnoieobjfihbeaaDoor

namespace Go.Proofs.YtnoieobjfihbeaaDoor
open Go.ChangeShapes Go.WideShapes Go.RowKit

/-! ### general -/
section
variable {H : Type} {P : Program}
def Within (P : Program) (t : TypeId) (d : DataW H) : Prop := ∀ n ∈ d.weights P t, n ≤ reachBytes
theorem mem_weightsAll {e : TypeId} {d : DataW H} {n : Nat} (hn : n ∈ d.weights P e) : ∀ {l : List (DataW H)}, d ∈ l → n ∈ DataW.weightsAll P e l
  | x :: l, h => by
    simp only [DataW.weightsAll, List.mem_append]
    rcases List.mem_cons.1 h with rfl | h
    · exact .inl hn
    · exact .inr (mem_weightsAll hn h)
theorem Within.slice {t e : TypeId} {el sp : List (DataW H)} (h : Within P t (.slice el sp)) (ht : P.underlying t = some (.slice e)) : el.length * P.bytesOf e ≤ reachBytes ∧ ∀ d ∈ el, Within P e d := by
  unfold Within at h
  simp only [DataW.weights, ht] at h
  refine ⟨?_, fun d hd n hn => h n (List.mem_cons_of_mem _ (List.mem_append_left _ (mem_weightsAll hn hd)))⟩
  have := h _ List.mem_cons_self
  rw [Nat.add_mul] at this
  omega
theorem Within.struct {t : TypeId} {fs : Array Field} {parts : List (DataW H)} (h : Within P t (.agg parts)) (ht : P.underlying t = some (.struct fs)) {i : Nat} {f : Field} {d : DataW H} (hf : fs[i]? = some f) (hd : parts[i]? = some d) : Within P f.type d := by
  unfold Within at h
  simp only [DataW.weights, ht] at h
  exact fun n hn => h n (DataW.weights_mem_each (ts := fs.toList.map (·.type)) (j := i) (by simp [hf]) hd n hn)
theorem Within.top {ts : List TypeId} {ds : List (DataW H)} (h : (DataW.weightsEach P ts ds).all (· ≤ reachBytes) = true) {j : Nat} {t : TypeId} {d : DataW H} (ht : ts[j]? = some t) (hd : ds[j]? = some d) : Within P t d :=
  fun n hn => by simpa using List.all_eq_true.1 h n (DataW.weights_mem_each ht hd n hn)
variable {enc : TypeId × Value → H} {w : World} {base : Nat} {spare : Nat → Bool} {held : Bool}
/-- part number i of a struct, by itself -/
theorem struct_part {fs : Array Field} {fuel : Nat} {t : TypeId} {cs : List Value} {x : DataW H × List MemPlace} (ht : P.underlying t = some (.struct fs)) (h : DataW.trod enc P w base spare held fuel t cs = some x) :
    cs.length = P.cellsOf t ∧ ∃ parts n, x.1 = .agg parts ∧ ∀ (i : Nat) (f : Field), fs[i]? = some f → ∃ y, DataW.trod enc P w base spare held n f.type ((cs.drop f.offset).take (P.cellsOf f.type)) = some y ∧ parts[i]? = some y.1 := by
  obtain ⟨xs, n, _, rfl, hlen, hxl, hf⟩ := DataW.trod_struct ht h
  refine ⟨hlen, xs.map (·.1), n, rfl, fun i f hi => ?_⟩
  have hi2 : i < xs.length := by rw [hxl]; exact (Array.getElem?_eq_some_iff.1 hi).1
  refine ⟨xs[i], ?_, ?_⟩
  · rw [hf i f hi, List.getElem?_eq_getElem hi2]
  · rw [List.getElem?_map, List.getElem?_eq_getElem hi2]; rfl
/-- a row's elements lie behind one another in one block -/
theorem rows_at {a : Addr} {len size : Nat} (hpos : 0 < len) (hsz : 0 < size) (F : Nat → List Value) (hF : ∀ i, i < len → w.cells? base (a.add (i * size)) size = some (F i)) :
    ∃ g off, a = ⟨g, off, none⟩ ∧ g < w.heap.size ∧ ∀ i, i < len → (F i).length = size ∧ w.rangeAt g (off + i * size) (F i) := by
  obtain ⟨_, hl0, h0⟩ := World.cells?_some (hF 0 hpos)
  have h1 := h0 0 hsz
  rw [List.getElem?_eq_getElem (by omega)] at h1
  have e0 : (a.add (0 * size)).add 0 = a := by simp [Addr.add]
  rw [e0] at h1
  obtain ⟨g, off, sp⟩ := a
  have hsp : sp = none := by
    unfold World.cell? at h1
    cases sp with
    | none => rfl
    | some s => simp at h1; split at h1 <;> simp at h1
  subst hsp
  refine ⟨g, off, rfl, World.block_lt_of_cell? _ _ h1, fun i hi => ?_⟩
  obtain ⟨_, hl, hc⟩ := World.cells?_some (hF i hi)
  refine ⟨hl, fun j v hj => ?_⟩
  have hj2 : j < size := by rw [← hl]; exact (List.getElem?_eq_some_iff.1 hj).1
  have := hc j hj2
  rw [Go.Deep.add_add, addr_add', hj] at this
  rw [Nat.add_assoc]
  exact this
where
  addr_add' {g off j : Nat} : (⟨g, off, none⟩ : Addr).add j = ⟨g, off + j, none⟩ := by unfold Addr.add; split <;> simp_all
/-- all arguments read again as they did -/
theorem all_again {W W' : World} (hb : Below W.heap.size W W') (hl : laidOutB P = true) : ∀ {ts : List TypeId} {vs : List Value} {ds : List (DataW H)} {p : List MemPlace}, DataW.TrodAll enc P W 0 (fun _ => true) true ts vs ds p → (∀ t ∈ ts, P.readableRec t = true ∧ t < P.types.size) → (∀ x ∈ p, x.block < W.heap.size) →
    DataW.TrodAll enc P W' 0 (fun b => decide (b < W.heap.size)) true ts vs ds p
  | [], vs, ds, p, h, _, _ => by
    obtain ⟨rfl, rfl, rfl⟩ := trodAll_nil h
    exact trodAll_mk0
  | t :: ts, vs, ds, p, h, hr, hp => by
    obtain ⟨v, vs', d, ds', p1, q1, rfl, rfl, rfl, h1, h2⟩ := trodAll_cons h
    obtain ⟨r1, r2⟩ := hr t List.mem_cons_self
    exact trodAll_cons_mk (Below.trod hl r1 r2 h1 hb (fun x hx => hp x (List.mem_append_left _ hx))) (all_again hb hl h2 (fun t ht => hr t (List.mem_cons_of_mem _ ht)) (fun x hx => hp x (List.mem_append_right _ hx)))
end

/-! ### this program's types -/
section
variable {H : Type} {enc : TypeId × Value → H} {w : World} {base : Nat} {spare : Nat → Bool} {held : Bool} {fuel : Nat} {x : DataW H × List MemPlace}
instance : Inhabited Po.Box := ⟨⟨0, 0, 0, 0⟩⟩
instance : Inhabited Ru.Rule := ⟨⟨0, 0, 0, 0, 0, [], 0⟩⟩
theorem boxes_len' (l : List Po.Box) : (boxesCells l).length = l.length * 4 := by
  induction l with
  | nil => rfl
  | cons b l ih =>
    have e : boxesCells (b :: l) = boxCells b ++ boxesCells l := rfl
    rw [e, List.length_append, ih, List.length_cons]
    show 4 + l.length * 4 = _
    omega
theorem cellsInt : Tryd.prog.cellsOf 3 = 1 := by kernel_rfl
theorem cellsRect : Tryd.prog.cellsOf 73 = 4 := by kernel_rfl
theorem cellsRects : Tryd.prog.cellsOf 40 = 1 := by kernel_rfl
theorem bytesRect : Tryd.prog.bytesOf 73 = 32 := by kernel_rfl
theorem rd_int {v : Value} (h : DataW.trod enc Tryd.prog w base spare held fuel 3 [v] = some x) : ∃ n, v = .int .i64 n := by
  obtain ⟨n, h1, _⟩ := DataW.trod_int Tryd.underlying3 h
  exact ⟨n, by simpa using h1⟩
theorem rd_int2 {v : Value} (h : DataW.trod enc Tryd.prog w base spare held fuel 3 [v] = some x) : ∃ n, v = .int .i64 n ∧ -9223372036854775808 ≤ n ∧ n ≤ 9223372036854775807 := by
  obtain ⟨n, h1, _, h2⟩ := DataW.trod_int Tryd.underlying3 h
  refine ⟨n, by simpa using h1, ?_⟩
  have e1 : IntKind.i64.min = -9223372036854775808 := rfl
  have e2 : IntKind.i64.max = 9223372036854775807 := rfl
  simp only [Lit.wf, Bool.and_eq_true, decide_eq_true_eq, e1, e2] at h2
  exact h2
set_option maxRecDepth 100000 in
theorem rd_rect {cs : List Value} (h : DataW.trod enc Tryd.prog w base spare held fuel 73 cs = some x) : ∃ b : Po.Box, cs = boxCells b := by
  obtain ⟨hl, parts, n, _, hp⟩ := struct_part Tryd.underlying73 h
  rw [cellsRect] at hl
  obtain ⟨y0, h0, _⟩ := hp 0 _ rfl
  obtain ⟨y1, h1, _⟩ := hp 1 _ rfl
  obtain ⟨y2, h2, _⟩ := hp 2 _ rfl
  obtain ⟨y3, h3, _⟩ := hp 3 _ rfl
  have h0 : DataW.trod enc Tryd.prog w base spare held n 3 ((cs.drop 0).take (Tryd.prog.cellsOf 3)) = some y0 := h0
  have h1 : DataW.trod enc Tryd.prog w base spare held n 3 ((cs.drop 1).take (Tryd.prog.cellsOf 3)) = some y1 := h1
  have h2 : DataW.trod enc Tryd.prog w base spare held n 3 ((cs.drop 2).take (Tryd.prog.cellsOf 3)) = some y2 := h2
  have h3 : DataW.trod enc Tryd.prog w base spare held n 3 ((cs.drop 3).take (Tryd.prog.cellsOf 3)) = some y3 := h3
  simp only [cellsInt] at h0 h1 h2 h3
  match cs, hl with
  | [a, b, c, d], _ =>
    obtain ⟨n0, rfl⟩ := rd_int h0
    obtain ⟨n1, rfl⟩ := rd_int h1
    obtain ⟨n2, rfl⟩ := rd_int h2
    obtain ⟨n3, rfl⟩ := rd_int h3
    exact ⟨⟨n0, n1, n2, n3⟩, rfl⟩
theorem rd_rects {v : Value} (h : DataW.trod enc Tryd.prog w base spare held fuel 40 [v] = some x) (hs : Within Tryd.prog 40 x.1) : ∃ l : List Po.Box, BRow w v l ∧ l.length * 32 ≤ 140737488355328 := by
  rcases Go.Deep.open_slice Tryd.underlying40 h with ⟨hcs, rfl⟩ | ⟨a, len, cap, m, n, D, Pl, hcs, hb, hl, hm, hmm, rfl, hx⟩
  · simp only [List.cons.injEq, and_true] at hcs
    exact ⟨[], .inl ⟨_, _, hcs, rfl⟩, by decide⟩
  · simp only [List.cons.injEq, and_true] at hcs
    subst hcs
    obtain ⟨hbytes, _⟩ := hs.slice Tryd.underlying40
    rw [bytesRect] at hbytes
    simp only [List.length_map, List.length_range] at hbytes
    rw [cellsRect] at hx
    by_cases h0 : len = 0
    · subst h0
      exact ⟨[], .inl ⟨_, _, rfl, rfl⟩, by decide⟩
    · have hml : len ≤ m := by rw [hmm]; split <;> omega
      obtain ⟨f, hf⟩ := Go.Deep.choose_lt (α := Po.Box) (n := len) (p := fun i b => w.cells? base (a.add (i * 4)) 4 = some (boxCells b)) (fun i hi => by
        obtain ⟨cs', h1, h2⟩ := hx i (by omega)
        obtain ⟨b, rfl⟩ := rd_rect h2
        exact ⟨b, h1⟩)
      obtain ⟨g, off, rfl, hg, hr⟩ := rows_at (by omega) (by decide) (fun i => boxCells (f i)) hf
      refine ⟨(List.range len).map f, .inr ⟨by rw [boxes_len'], .inr ⟨g, off, cap, by simp, by simpa using hl, hg, fun j u hj => ?_⟩⟩, by simp only [List.length_map, List.length_range]; unfold reachBytes at hbytes; omega⟩
      have hjl : j < len * 4 := by
        have := (List.getElem?_eq_some_iff.1 hj).1
        rw [boxes_len'] at this
        simpa using this
      have hi : j / 4 < ((List.range len).map f).length := by simp only [List.length_map, List.length_range]; omega
      have hp := flat_part (f := boxArr) (size := 4) ((List.range len).map f) (fun _ _ => rfl) (j / 4) hi (j % 4) (by omega)
      rw [show j / 4 * 4 + j % 4 = j by omega] at hp
      have hj' : ((List.range len).map f).flatMap (fun x => (boxArr x).toList) = boxesCells ((List.range len).map f) := rfl
      rw [hj', hj] at hp
      have := (hr (j / 4) (by omega)).2 (j % 4) u (by
        have e : (boxArr ((List.range len).map f)[j / 4])[j % 4]? = (boxCells (f (j / 4)))[j % 4]? := by
          simp only [List.getElem_map, List.getElem_range]
          unfold boxArr boxCells
          simp
        rw [← e, ← hp])
      rw [show off + j / 4 * 4 + j % 4 = off + j by omega] at this
      exact this
end

end Go.Proofs.YtnoieobjfihbeaaDoor

namespace Go.Proofs.YtnoieobjfihbeaaDoor
open Go.ChangeShapes Go.WideShapes Go.RowKit

section
variable {H : Type} {enc : TypeId × Value → H} {w : World} {base : Nat} {spare : Nat → Bool} {held : Bool} {fuel : Nat} {x : DataW H × List MemPlace}
instance : Inhabited Po.Who := ⟨⟨false, ⟨#[]⟩, 0, 0, 0⟩⟩
instance : Inhabited Po.Decl := ⟨⟨0, ⟨#[]⟩, 0, [], default, 0, 0, default, default, 0, 0, 0⟩⟩
theorem cellsStr : Tryd.prog.cellsOf 9 = 1 := by kernel_rfl
theorem cellsBool : Tryd.prog.cellsOf 4 = 1 := by kernel_rfl
theorem cellsPos : Tryd.prog.cellsOf 30 = 2 := by kernel_rfl
theorem cellsWho : Tryd.prog.cellsOf 42 = 5 := by kernel_rfl
theorem cellsDecl : Tryd.prog.cellsOf 44 = 24 := by kernel_rfl
theorem bytesDecl : 200 ≤ Tryd.prog.bytesOf 44 := of_decide_eq_true (by kernel_rfl)
theorem rd_str {v : Value} (h : DataW.trod enc Tryd.prog w base spare held fuel 9 [v] = some x) (hs : Within Tryd.prog 9 x.1) : ∃ s : ByteArray, v = .string s ∧ s.size ≤ 140737488355328 := by
  obtain ⟨s, h1, h2, _⟩ := DataW.trod_string Tryd.underlying9 h
  refine ⟨s, by simpa using h1, ?_⟩
  have h3 := hs s.data.toList.length (by rw [h2]; simp [DataW.weights])
  rw [Array.length_toList] at h3
  unfold reachBytes at h3
  have : s.size = s.data.size := rfl
  omega
theorem rd_bool {v : Value} (h : DataW.trod enc Tryd.prog w base spare held fuel 4 [v] = some x) : ∃ b, v = .bool b := by
  obtain ⟨b, h1, _⟩ := DataW.trod_bool Tryd.underlying4 h
  exact ⟨b, by simpa using h1⟩
set_option maxRecDepth 100000 in
theorem rd_pos {cs : List Value} (h : DataW.trod enc Tryd.prog w base spare held fuel 30 cs = some x) : ∃ p q, cs = [.int .i64 p, .int .i64 q] := by
  obtain ⟨hl, parts, n, _, hp⟩ := struct_part Tryd.underlying30 h
  rw [cellsPos] at hl
  obtain ⟨y0, h0, p0⟩ := hp 0 _ rfl
  obtain ⟨y1, h1, p1⟩ := hp 1 _ rfl
  have h0 : DataW.trod enc Tryd.prog w base spare held n 3 ((cs.drop 0).take (Tryd.prog.cellsOf 3)) = some y0 := h0
  have h1 : DataW.trod enc Tryd.prog w base spare held n 3 ((cs.drop 1).take (Tryd.prog.cellsOf 3)) = some y1 := h1
  simp only [cellsInt] at h0 h1
  match cs, hl with
  | [a, b], _ =>
    obtain ⟨n0, rfl⟩ := rd_int h0
    obtain ⟨n1, rfl⟩ := rd_int h1
    exact ⟨n0, n1, rfl⟩
set_option maxRecDepth 100000 in
theorem rd_who {cs : List Value} (h : DataW.trod enc Tryd.prog w base spare held fuel 42 cs = some x) (hs : Within Tryd.prog 42 x.1) : ∃ u : Po.Who, cs = (whoArr u).toList ∧ u.name.size ≤ 140737488355328 := by
  obtain ⟨hl, parts, n, hx1, hp⟩ := struct_part Tryd.underlying42 h
  rw [hx1] at hs
  rw [cellsWho] at hl
  obtain ⟨y0, h0, p0⟩ := hp 0 _ rfl
  obtain ⟨y1, h1, p1⟩ := hp 1 _ rfl
  obtain ⟨y2, h2, p2⟩ := hp 2 _ rfl
  obtain ⟨y3, h3, p3⟩ := hp 3 _ rfl
  have h0 : DataW.trod enc Tryd.prog w base spare held n 4 ((cs.drop 0).take (Tryd.prog.cellsOf 4)) = some y0 := h0
  have h1 : DataW.trod enc Tryd.prog w base spare held n 9 ((cs.drop 1).take (Tryd.prog.cellsOf 9)) = some y1 := h1
  have h2 : DataW.trod enc Tryd.prog w base spare held n 3 ((cs.drop 2).take (Tryd.prog.cellsOf 3)) = some y2 := h2
  have h3 : DataW.trod enc Tryd.prog w base spare held n 30 ((cs.drop 3).take (Tryd.prog.cellsOf 30)) = some y3 := h3
  have s1 : Within Tryd.prog 9 y1.1 := hs.struct Tryd.underlying42 (i := 1) rfl p1
  simp only [cellsInt, cellsBool, cellsStr, cellsPos] at h0 h1 h2 h3
  match cs, hl with
  | [a, b, c, d, e], _ =>
    obtain ⟨n0, rfl⟩ := rd_bool (v := a) h0
    obtain ⟨n1, rfl, hn1⟩ := rd_str (v := b) h1 s1
    obtain ⟨n2, rfl⟩ := rd_int (v := c) h2
    obtain ⟨l, k, hlk⟩ := rd_pos (cs := [d, e]) h3
    cases hlk
    exact ⟨⟨n0, n1, n2, l, k⟩, rfl, hn1⟩
set_option maxRecDepth 100000 in
theorem rd_decl {cs : List Value} (h : DataW.trod enc Tryd.prog w base spare held fuel 44 cs = some x) (hs : Within Tryd.prog 44 x.1) : ∃ (d : Po.Decl) (v : Value), cs = (declCells d v).toList ∧ BRow w v d.boxes ∧ DSmall d := by
  obtain ⟨hl, parts, n, hx1, hp⟩ := struct_part Tryd.underlying44 h
  rw [hx1] at hs
  rw [cellsDecl] at hl
  obtain ⟨y0, h0, p0⟩ := hp 0 _ rfl
  obtain ⟨y1, h1, p1⟩ := hp 1 _ rfl
  obtain ⟨y2, h2, p2⟩ := hp 2 _ rfl
  obtain ⟨y3, h3, p3⟩ := hp 3 _ rfl
  obtain ⟨y4, h4, p4⟩ := hp 4 _ rfl
  obtain ⟨y5, h5, p5⟩ := hp 5 _ rfl
  obtain ⟨y6, h6, p6⟩ := hp 6 _ rfl
  obtain ⟨y7, h7, p7⟩ := hp 7 _ rfl
  obtain ⟨y8, h8, p8⟩ := hp 8 _ rfl
  obtain ⟨y9, h9, p9⟩ := hp 9 _ rfl
  obtain ⟨y10, h10, p10⟩ := hp 10 _ rfl
  have h0 : DataW.trod enc Tryd.prog w base spare held n 3 ((cs.drop 0).take (Tryd.prog.cellsOf 3)) = some y0 := h0
  have h1 : DataW.trod enc Tryd.prog w base spare held n 9 ((cs.drop 1).take (Tryd.prog.cellsOf 9)) = some y1 := h1
  have h2 : DataW.trod enc Tryd.prog w base spare held n 3 ((cs.drop 2).take (Tryd.prog.cellsOf 3)) = some y2 := h2
  have h3 : DataW.trod enc Tryd.prog w base spare held n 40 ((cs.drop 3).take (Tryd.prog.cellsOf 40)) = some y3 := h3
  have h4 : DataW.trod enc Tryd.prog w base spare held n 42 ((cs.drop 4).take (Tryd.prog.cellsOf 42)) = some y4 := h4
  have h5 : DataW.trod enc Tryd.prog w base spare held n 3 ((cs.drop 9).take (Tryd.prog.cellsOf 3)) = some y5 := h5
  have h6 : DataW.trod enc Tryd.prog w base spare held n 3 ((cs.drop 10).take (Tryd.prog.cellsOf 3)) = some y6 := h6
  have h7 : DataW.trod enc Tryd.prog w base spare held n 42 ((cs.drop 11).take (Tryd.prog.cellsOf 42)) = some y7 := h7
  have h8 : DataW.trod enc Tryd.prog w base spare held n 42 ((cs.drop 16).take (Tryd.prog.cellsOf 42)) = some y8 := h8
  have h9 : DataW.trod enc Tryd.prog w base spare held n 3 ((cs.drop 21).take (Tryd.prog.cellsOf 3)) = some y9 := h9
  have h10 : DataW.trod enc Tryd.prog w base spare held n 30 ((cs.drop 22).take (Tryd.prog.cellsOf 30)) = some y10 := h10
  have s1 : Within Tryd.prog 9 y1.1 := hs.struct Tryd.underlying44 (i := 1) rfl p1
  have s3 : Within Tryd.prog 40 y3.1 := hs.struct Tryd.underlying44 (i := 3) rfl p3
  have s4 : Within Tryd.prog 42 y4.1 := hs.struct Tryd.underlying44 (i := 4) rfl p4
  have s7 : Within Tryd.prog 42 y7.1 := hs.struct Tryd.underlying44 (i := 7) rfl p7
  have s8 : Within Tryd.prog 42 y8.1 := hs.struct Tryd.underlying44 (i := 8) rfl p8
  simp only [cellsInt, cellsStr, cellsPos, cellsWho, cellsRects] at h0 h1 h2 h3 h4 h5 h6 h7 h8 h9 h10
  match cs, hl with
  | [c0, c1, c2, c3, c4, c5, c6, c7, c8, c9, c10, c11, c12, c13, c14, c15, c16, c17, c18, c19, c20, c21, c22, c23], _ =>
    obtain ⟨n0, rfl⟩ := rd_int (v := c0) h0
    obtain ⟨n1, rfl, hn1⟩ := rd_str (v := c1) h1 s1
    obtain ⟨n2, rfl⟩ := rd_int (v := c2) h2
    obtain ⟨l, hb, hbl⟩ := rd_rects (v := c3) h3 s3
    obtain ⟨u4, e4, hu4⟩ := rd_who (cs := [c4, c5, c6, c7, c8]) h4 s4
    obtain ⟨n5, rfl⟩ := rd_int (v := c9) h5
    obtain ⟨n6, rfl⟩ := rd_int (v := c10) h6
    obtain ⟨u7, e7, hu7⟩ := rd_who (cs := [c11, c12, c13, c14, c15]) h7 s7
    obtain ⟨u8, e8, hu8⟩ := rd_who (cs := [c16, c17, c18, c19, c20]) h8 s8
    obtain ⟨n9, rfl⟩ := rd_int (v := c21) h9
    obtain ⟨p, q, e10⟩ := rd_pos (cs := [c22, c23]) h10
    cases e4
    cases e7
    cases e8
    cases e10
    exact ⟨⟨n0, n1, n2, l, u4, n5, n6, u7, u8, n9, p, q⟩, c3, rfl, hb, ⟨hn1, hu4, hu7, hu8, hbl⟩⟩
set_option maxRecDepth 100000 in
theorem rd_decls {v : Value} {d : DataW H} {ps : List MemPlace} (hval : Value.okWide Tryd.prog w .any base 22 v) (h : DataW.Trod enc Tryd.prog w 0 spare held 22 v d ps) (hs : Within Tryd.prog 22 d) :
    ∃ l : List Po.Decl, DSl w v l ∧ l.length ≤ 140737488355328 ∧ ∀ r ∈ l, DSmall r := by
  obtain ⟨va, vl, vc, rfl⟩ := okWide_slice Tryd.underlying22 hval
  obtain ⟨fuel, hf⟩ := h
  have hcl : (Value.slice va vl vc).cells.toList = [.slice va vl vc] := by simp [Value.cells]
  rw [hcl] at hf
  rcases Go.Deep.open_slice Tryd.underlying22 hf with ⟨hcs, _⟩ | ⟨a, len, cap, m, n, D, Pl, hcs, hb, hl, hm, hmm, hd, hx⟩
  · simp only [List.cons.injEq, and_true] at hcs
    exact ⟨[], .inl ⟨hcs, rfl⟩, by simp, by simp⟩
  · simp only [List.cons.injEq, and_true] at hcs
    obtain ⟨rfl, rfl, rfl⟩ : some a = va ∧ len = vl ∧ cap = vc := by simp only [Value.slice.injEq] at hcs; exact ⟨hcs.1.symm, hcs.2.1.symm, hcs.2.2.symm⟩
    have hd1 := congrArg Prod.fst hd
    simp only at hd1
    subst hd1
    obtain ⟨hbytes, hel⟩ := hs.slice Tryd.underlying22
    have hlen : len * 200 ≤ reachBytes := Nat.le_trans (Nat.mul_le_mul_left len bytesDecl) (by simpa using hbytes)
    clear hbytes
    rw [cellsDecl] at hx
    by_cases h0 : len = 0
    · subst h0
      have hval' := hval
      simp only [Value.okWide, Tryd.underlying22, Cell.okWide, Cell.ok] at hval'
      obtain ⟨_, _, hhas⟩ := hval'
      obtain ⟨_, hsp, row, cells, hshape, _⟩ := hhas
      obtain ⟨g, off, sp⟩ := a
      simp only at hsp hshape
      subst hsp
      refine ⟨[], .inr ⟨g, off, cap, rfl, Nat.zero_le _, ?_, fun i hi => by simp at hi⟩, by simp, by simp⟩
      unfold World.shape? at hshape
      rcases Nat.lt_or_ge g w.heap.size with hlt | hge
      · exact hlt
      · rw [Array.getElem?_eq_none hge] at hshape; cases hshape
    · have hml : len ≤ m := by rw [hmm]; split <;> omega
      obtain ⟨f, hf2⟩ := Go.Deep.choose_lt (α := Po.Decl × Value) (n := len) (p := fun i q => w.cells? 0 (a.add (i * 24)) 24 = some (declCells q.1 q.2).toList ∧ BRow w q.2 q.1.boxes ∧ DSmall q.1) (fun i hi => by
        obtain ⟨cs', h1, h2⟩ := hx i (by omega)
        obtain ⟨r, v, rfl, h3, h4⟩ := rd_decl h2 (hel (D i) (List.mem_map.2 ⟨i, List.mem_range.2 hi, rfl⟩))
        exact ⟨(r, v), h1, h3, h4⟩)
      obtain ⟨g, off, rfl, hg, hr⟩ := rows_at (by omega) (by decide) (fun i => (declCells (f i).1 (f i).2).toList) (fun i hi => (hf2 i hi).1)
      refine ⟨(List.range len).map fun i => (f i).1, .inr ⟨g, off, cap, by simp, by simpa using hl, hg, fun i hi => ?_⟩, by simp only [List.length_map, List.length_range]; unfold reachBytes at hlen; omega, fun r hr' => ?_⟩
      · simp only [List.length_map, List.length_range] at hi
        obtain ⟨_, h3, h4⟩ := hf2 i hi
        simp only [List.getElem_map, List.getElem_range]
        exact ⟨(f i).2, (hr i hi).2, h3⟩
      · obtain ⟨i, hi, rfl⟩ := List.mem_map.1 hr'
        exact (hf2 i (List.mem_range.1 hi)).2.2
theorem readDecls : Tryd.prog.readableRec 22 = true ∧ 22 < Tryd.prog.types.size := ⟨by kernel_rfl, of_decide_eq_true (by kernel_rfl)⟩
end

end Go.Proofs.YtnoieobjfihbeaaDoor

namespace Go.Proofs.YtnoieobjfihbeaaDoor
open Go.ChangeShapes Go.WideShapes Go.RowKit

theorem bulk_one {H : Type} (d : DataW H) : 1 ≤ Rows.uptoBulk d := by
  cases d with
  | lit l => cases l <;> simp [Rows.uptoBulk]
  | nil => simp [Rows.uptoBulk]
  | ptr d => simp [Rows.uptoBulk]
  | slice elems spare => simp [Rows.uptoBulk]
  | agg parts => simp [Rows.uptoBulk]
  | iface t d => simp [Rows.uptoBulk]
  | map entries => simp [Rows.uptoBulk]
  | held h => simp [Rows.uptoBulk]
theorem bulk_len {H : Type} (l : List (DataW H)) : l.length ≤ Rows.uptoBulkAll l := by
  induction l with
  | nil => simp [Rows.uptoBulkAll]
  | cons d l ih => have := bulk_one d; simp only [List.length_cons, Rows.uptoBulkAll]; omega
theorem bulk_part {H : Type} {d : DataW H} {l : List (DataW H)} (h : d ∈ l) : Rows.uptoBulk d ≤ Rows.uptoBulkAll l := by
  induction l with
  | nil => cases h
  | cons x r ih =>
    simp only [Rows.uptoBulkAll]
    rcases List.mem_cons.1 h with e | e
    · subst e; omega
    · have := ih e; omega

section
variable {H : Type} {enc : TypeId × Value → H} {w : World} {base : Nat} {spare : Nat → Bool} {held : Bool} {fuel : Nat} {x : DataW H × List MemPlace}
theorem rects_bulk {p : Option Addr} {n c : Nat} (h : DataW.trod enc Tryd.prog w base spare held fuel 40 [.slice p n c] = some x) : n ≤ Rows.uptoBulk x.1 := by
  rcases Go.Deep.open_slice Tryd.underlying40 h with ⟨hcs, _⟩ | ⟨a, len, cap, m, nn, D, Pl, hcs, hb, hl, hm, hmm, hd, hx⟩
  · simp only [List.cons.injEq, and_true, Value.slice.injEq] at hcs
    rw [hcs.2.1]
    exact Nat.zero_le _
  · simp only [List.cons.injEq, and_true, Value.slice.injEq] at hcs
    have hd1 := congrArg Prod.fst hd
    simp only at hd1
    rw [hd1, hcs.2.1]
    have := bulk_len ((List.range len).map D)
    simp only [List.length_map, List.length_range] at this
    simp only [Rows.uptoBulk]
    omega
set_option maxRecDepth 100000 in
theorem decl_bulk {d : Po.Decl} {v : Value} (h : DataW.trod enc Tryd.prog w base spare held fuel 44 (declCells d v).toList = some x) (hv : BRow w v d.boxes) : d.boxes.length ≤ Rows.uptoBulk x.1 := by
  obtain ⟨hl, parts, n, hx1, hp⟩ := struct_part Tryd.underlying44 h
  obtain ⟨y3, h3, p3⟩ := hp 3 _ rfl
  have h3 : DataW.trod enc Tryd.prog w base spare held n 40 (((declCells d v).toList.drop 3).take (Tryd.prog.cellsOf 40)) = some y3 := h3
  rw [cellsRects] at h3
  obtain ⟨p, c, rfl⟩ := hv.shape
  have h4 : DataW.trod enc Tryd.prog w base spare held n 40 [.slice p d.boxes.length c] = some y3 := h3
  have h5 := rects_bulk h4
  have h6 := bulk_part (List.mem_of_getElem? p3)
  rw [hx1]
  simp only [Rows.uptoBulk]
  omega
set_option maxRecDepth 100000 in
theorem rd_declsU {v : Value} {d : DataW H} {ps : List MemPlace} (hval : Value.okWide Tryd.prog w .any base 22 v) (h : DataW.Trod enc Tryd.prog w 0 spare held 22 v d ps) (hs : Within Tryd.prog 22 d) :
    ∃ l : List Po.Decl, DSl w v l ∧ l.length ≤ 140737488355328 ∧ ∀ r ∈ l, DSmall r ∧ r.boxes.length ≤ Rows.uptoBulk d := by
  obtain ⟨va, vl, vc, rfl⟩ := okWide_slice Tryd.underlying22 hval
  obtain ⟨fuel, hf⟩ := h
  have hcl : (Value.slice va vl vc).cells.toList = [.slice va vl vc] := by simp [Value.cells]
  rw [hcl] at hf
  rcases Go.Deep.open_slice Tryd.underlying22 hf with ⟨hcs, _⟩ | ⟨a, len, cap, m, n, D, Pl, hcs, hb, hl, hm, hmm, hd, hx⟩
  · simp only [List.cons.injEq, and_true] at hcs
    exact ⟨[], .inl ⟨hcs, rfl⟩, by simp, by simp⟩
  · simp only [List.cons.injEq, and_true] at hcs
    obtain ⟨rfl, rfl, rfl⟩ : some a = va ∧ len = vl ∧ cap = vc := by simp only [Value.slice.injEq] at hcs; exact ⟨hcs.1.symm, hcs.2.1.symm, hcs.2.2.symm⟩
    have hd1 := congrArg Prod.fst hd
    simp only at hd1
    subst hd1
    obtain ⟨hbytes, hel⟩ := hs.slice Tryd.underlying22
    have hlen : len * 200 ≤ reachBytes := Nat.le_trans (Nat.mul_le_mul_left len bytesDecl) (by simpa using hbytes)
    clear hbytes
    rw [cellsDecl] at hx
    by_cases h0 : len = 0
    · subst h0
      have hval' := hval
      simp only [Value.okWide, Tryd.underlying22, Cell.okWide, Cell.ok] at hval'
      obtain ⟨_, _, hhas⟩ := hval'
      obtain ⟨_, hsp, row, cells, hshape, _⟩ := hhas
      obtain ⟨g, off, sp⟩ := a
      simp only at hsp hshape
      subst hsp
      refine ⟨[], .inr ⟨g, off, cap, rfl, Nat.zero_le _, ?_, fun i hi => by simp at hi⟩, by simp, by simp⟩
      unfold World.shape? at hshape
      rcases Nat.lt_or_ge g w.heap.size with hlt | hge
      · exact hlt
      · rw [Array.getElem?_eq_none hge] at hshape; cases hshape
    · have hml : len ≤ m := by rw [hmm]; split <;> omega
      obtain ⟨f, hf2⟩ := Go.Deep.choose_lt (α := Po.Decl × Value) (n := len) (p := fun i q => w.cells? 0 (a.add (i * 24)) 24 = some (declCells q.1 q.2).toList ∧ BRow w q.2 q.1.boxes ∧ DSmall q.1 ∧ q.1.boxes.length ≤ Rows.uptoBulk (D i)) (fun i hi => by
        obtain ⟨cs', h1, h2⟩ := hx i (by omega)
        obtain ⟨r, v, rfl, h3, h4⟩ := rd_decl h2 (hel (D i) (List.mem_map.2 ⟨i, List.mem_range.2 hi, rfl⟩))
        exact ⟨(r, v), h1, h3, h4, decl_bulk h2 h3⟩)
      obtain ⟨g, off, rfl, hg, hr⟩ := rows_at (by omega) (by decide) (fun i => (declCells (f i).1 (f i).2).toList) (fun i hi => (hf2 i hi).1)
      refine ⟨(List.range len).map fun i => (f i).1, .inr ⟨g, off, cap, by simp, by simpa using hl, hg, fun i hi => ?_⟩, by simp only [List.length_map, List.length_range]; unfold reachBytes at hlen; omega, fun r hr' => ?_⟩
      · simp only [List.length_map, List.length_range] at hi
        obtain ⟨_, h3, h4, _⟩ := hf2 i hi
        simp only [List.getElem_map, List.getElem_range]
        exact ⟨(f i).2, (hr i hi).2, h3⟩
      · obtain ⟨i, hi, rfl⟩ := List.mem_map.1 hr'
        have h9 := hf2 i (List.mem_range.1 hi)
        refine ⟨h9.2.2.1, Nat.le_trans h9.2.2.2 ?_⟩
        simp only [Rows.uptoBulk]
        have := bulk_part (show D i ∈ (List.range len).map D from List.mem_map.2 ⟨i, hi, rfl⟩)
        omega
end

end Go.Proofs.YtnoieobjfihbeaaDoor
