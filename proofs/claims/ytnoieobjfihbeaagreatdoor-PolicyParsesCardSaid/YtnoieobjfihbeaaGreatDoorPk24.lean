/-
  The walk of RulesForms.
  The tables of the library that a row lists: what the listing gives, and a world that holds them.
-/
import Derived.Test.YtnoieobjfihbeaaGreatDoorPk18
import Derived.Test.YtnoieobjfihbeaaGreatDoorPk23
import Derived.Test.YtnoieobjfihbeaaGreatDoorPk01
import Derived.Test.YtnoieobjfihbeaaGreatDoorCards
import Derived.Test.YtnoieobjfihbeaaGreatDoorTie
import Derived.ProofKit
import Derived.OpenShut
import Derived.ShutString
import Derived.SizedLaws
import Derived.Deep.DeepHandedRow
import Derived.Lib.LaidTab

namespace Go.Proofs.YtnoieobjfihbeaaGreatDoor
open Go.RowKit Go.Sort Go.Maps

/-- the rules of declarations, none at a fault; the fault -/
def uRs (l : List Po.Decl) : List Ru.Rule := match Ru.checkV l with | .ok rs => rs | .error _ => []
def uFt (l : List Po.Decl) : Ru.F3 := match Ru.checkV l with | .ok _ => (0, 0, 0) | .error f => f
theorem read_ok {B : Nat} {L : Lx.Bytes} {ds : List Po.Decl} {e : Ending} {w' : World} (hp : Po.parse L = .ok ds) (h : ReadPost B L e w') :
    ∃ v, e = .returned (.tuple #[v, .agg #[.int .i64 (uFt ds).1, .int .i64 (uFt ds).2.1, .int .i64 (uFt ds).2.2]]) ∧ (∀ w'', Above B w' w'' → RSl w'' v (uRs ds)) ∧ (uRs ds).length ≤ 33 := by
  unfold ReadPost at h
  rw [hp] at h
  simp only at h
  unfold CheckPost at h
  unfold uRs uFt
  cases hc : Ru.checkV ds with
  | ok rs => rw [hc] at h; exact h
  | error f =>
    obtain ⟨er, x, y⟩ := f
    rw [hc] at h
    exact ⟨_, h, fun w'' _ => .inl ⟨rfl, rfl⟩, by simp⟩
theorem un_eq {l m : List Po.Decl} (h : Pt.unR (Ru.checkV l) = Pt.unR (Ru.checkV m)) : uRs l = uRs m ∧ (uFt l).1 = (uFt m).1 := by
  unfold uRs uFt
  cases h1 : Ru.checkV l with
  | ok a =>
    cases h2 : Ru.checkV m with
    | ok b => rw [h1, h2] at h; simp only [Pt.unR, Except.ok.injEq] at h; exact ⟨h, rfl⟩
    | error f => rw [h1, h2] at h; simp [Pt.unR] at h
  | error f =>
    cases h2 : Ru.checkV m with
    | ok b => rw [h1, h2] at h; simp [Pt.unR] at h
    | error g =>
      rw [h1, h2] at h
      simp only [Pt.unR, Pt.unF, Except.error.injEq, Prod.mk.injEq, and_true] at h
      exact ⟨rfl, h⟩

set_option maxRecDepth 100000 in
set_option maxHeartbeats 4000000 in
theorem rforms_walk {s : ByteArray} {w : World} (hs : s.size ≤ 140737488355328) (ht : TabU w) :
    Calls Tryz.prog 4 #[.string s] w fun e w' => e = .returned (.bool true) ∧ Below w.heap.size w w' := by
  have hkn : Hid (∀ w1 : World, Below w.heap.size w w1 → Calls Tryz.prog 10 #[] w1 fun e w' => e = .returned (.bool true) ∧ Below w.heap.size w w') :=
    hid (fun w1 h1 => (known_any w1).mono fun e w' ⟨h2, h3⟩ => ⟨h2, h1.trans (h3.mono h1.size)⟩)
  have hpa := parse_any s w hs
  unfold ParsePost at hpa
  cases hp : Po.parse s.data.toList with
  | error f =>
    obtain ⟨er, l, c⟩ := f
    rw [hp] at hpa
    have hpa' := hid hpa
    have hpr : Hid (∀ w1 : World, Below w.heap.size w w1 → Calls Tryz.prog 9 #[.slice none 0 0] w1 fun e w' => e = .returned (.string ⟨#[]⟩) ∧ Below w1.heap.size w1 w') := hid (fun w1 h1 =>
      print_any (l := []) (.inl ⟨rfl, rfl⟩) (by simp) (by simp) (tab_ext ht h1) (fun _ => by simp))
    clear hpa hp ht
    go_enter Tryz.func4, Tryz.ntmps4
    go_wp2_with fail
    refine hpa'.out.mono ?_
    rintro e w1 ⟨⟨rfl, her⟩, hb1⟩
    have z1 := balloc w1 (.cells #[.int .i64 er, .int .i64 l, .int .i64 c] 27)
    have Q1 := hid (bthen hb1 z1)
    have F1 := hid (Blk.new w1 #[.int .i64 er, .int .i64 l, .int .i64 c] 27)
    have h1 : ((er : Int) != 0) = true := by rw [bne_iff_ne]; omega
    clear hb1 her z1
    go_wp2_with fail
    refine (hpr.out _ Q1.out).mono ?_
    rintro e w2 ⟨rfl, hb2⟩
    have Q2 := hid (bthen Q1.out hb2)
    have f0 := (F1.out.ext hb2).cell 0 (v := .int .i64 er) rfl
    clear hb2 Q1 F1
    go_wp2_with fail
    refine (hkn.out _ Q2.out).mono ?_
    rintro e w3 ⟨rfl, hb3⟩
    have Q3 := hid hb3
    clear hb3
    go_wp2_with fail
    go_ret
    exact ⟨rfl, Q3.out⟩
  | ok ds =>
    rw [hp] at hpa
    have hpa' := hid hpa
    have hp' := hid hp
    obtain ⟨hlen, hsm, hll⟩ := read1 hp
    have hmay := Pt.parse_may hp
    have hpm := Pt.print_may hmay
    obtain ⟨t, htx⟩ : ∃ t : ByteArray, t = ⟨(Pt.printB ds).toArray⟩ := ⟨_, rfl⟩
    have htl : t.data.toList = ds.flatMap Pt.lineB := by rw [htx, txt_bytes, hpm]
    have hts : t.size = (ds.flatMap Pt.lineB).length := by rw [← dat_size, htl]
    have hprt : Hid (∀ (w1 : World) (v : Value), Below w.heap.size w w1 → DSl w1 v ds → Calls Tryz.prog 9 #[v] w1 fun e w' => e = .returned (.string t) ∧ Below w1.heap.size w1 w') := hid (fun w1 v hb hd => by
      rw [htx]; exact printR_any hp hd (tab_ext ht hb))
    have hmay' := hid hmay
    clear hpa hsm hpm htx hmay ht
    go_enter Tryz.func4, Tryz.ntmps4
    go_wp2_with fail
    refine hpa'.out.mono ?_
    rintro e w1 ⟨⟨v, vs, rfl, hds⟩, hb1⟩
    have z1 := balloc w1 (.cells #[.int .i64 0, .int .i64 0, .int .i64 0] 27)
    have D1 := hid (hds.sl.ext z1)
    have Q1 := hid (bthen hb1 z1)
    have F1 := hid (Blk.new w1 #[.int .i64 0, .int .i64 0, .int .i64 0] 27)
    obtain ⟨vp, vc, rfl⟩ := hds.sl.shape
    clear hds hb1 z1
    go_wp2_with fail
    refine (hprt.out _ _ Q1.out D1.out).mono ?_
    rintro e w2 ⟨rfl, hb2⟩
    have Q2 := hid (bthen Q1.out hb2)
    have f0 := (F1.out.ext hb2).cell 0 (v := .int .i64 0) rfl
    clear hb2 D1 Q1 F1
    by_cases h512 : 512 < t.size
    · have h512' : (512 : Int) < t.size := by omega
      clear htl hts hp
      go_wp2_with fail
      refine (hkn.out _ Q2.out).mono ?_
      rintro e w3 ⟨rfl, hb3⟩
      have Q3 := hid hb3
      clear hb3
      go_wp2_with fail
      go_ret
      exact ⟨rfl, Q3.out⟩
    · obtain ⟨es, hes, hun⟩ := Pt.parse_print hmay'.out (by omega)
      rw [← htl] at hes
      have hes' := hid hes
      obtain ⟨hu1, hu2⟩ := un_eq (Pt.check_un hun)
      have ha1 : Hid (∀ w3 : World, Calls Tryz.prog 11 #[.string s] w3 fun e w' => (∃ v, e = .returned (.tuple #[v, .agg #[.int .i64 (uFt ds).1, .int .i64 (uFt ds).2.1, .int .i64 (uFt ds).2.2]]) ∧ (∀ w'', Above w3.heap.size w' w'' → RSl w'' v (uRs ds)) ∧ (uRs ds).length ≤ 33) ∧ Below w3.heap.size w3 w') :=
        hid (fun w3 => (read_any s w3 hs).mono fun e w' ⟨h1, h2⟩ => ⟨read_ok hp'.out h1, h2⟩)
      have ha2 : Hid (∀ w3 : World, Calls Tryz.prog 11 #[.string t] w3 fun e w' => (∃ v, e = .returned (.tuple #[v, .agg #[.int .i64 (uFt ds).1, .int .i64 (uFt es).2.1, .int .i64 (uFt es).2.2]]) ∧ (∀ w'', Above w3.heap.size w' w'' → RSl w'' v (uRs ds)) ∧ (uRs ds).length ≤ 33) ∧ Below w3.heap.size w3 w') :=
        hid (fun w3 => (read_any t w3 (by omega)).mono fun e w' ⟨h1, h2⟩ => ⟨by rw [← hu1, ← hu2]; exact read_ok hes'.out h1, h2⟩)
      have h512' : ¬ ((512 : Int) < t.size) := by omega
      clear htl hts hp hes hun hu1 hu2
      generalize uRs ds = rs at *
      generalize uFt ds = F at *
      generalize uFt es = G at *
      obtain ⟨er, x, y⟩ := F
      obtain ⟨er', x', y'⟩ := G
      simp only at ha1 ha2
      go_wp2_with fail
      refine (ha1.out _).mono ?_
      rintro e w3 ⟨⟨v3, rfl, hr3, hl3⟩, hb3⟩
      have z3 := balloc w3 (.cells #[.int .i64 er, .int .i64 x, .int .i64 y] 27)
      have Q3 := hid (bthen (bthen Q2.out hb3) z3)
      have A3 := hid (Blk.new w3 #[.int .i64 er, .int .i64 x, .int .i64 y] 27)
      have R3 := hid (hr3 _ (Above.below z3))
      clear hr3 hb3 z3 Q2 f0
      go_wp2_with fail
      refine (ha2.out _).mono ?_
      rintro e w4 ⟨⟨v4, rfl, hr4, _⟩, hb4⟩
      have z4 := balloc w4 (.cells #[.int .i64 er, .int .i64 x', .int .i64 y'] 27)
      have Q4 := hid (bthen (bthen Q3.out hb4) z4)
      have a0 := ((A3.out.ext hb4).ext z4).cell 0 (v := .int .i64 er) rfl
      have b0 := (Blk.new w4 #[.int .i64 er, .int .i64 x', .int .i64 y'] 27).cell 0 (v := .int .i64 er) rfl
      have R4 := hid ((R3.out.ext hb4).ext z4)
      have S4 := hid (hr4 _ (Above.below z4))
      clear hr4 hb4 z4 Q3 A3 R3
      go_wp2_with fail
      refine (rsame_any R4.out S4.out (by omega)).mono ?_
      rintro e w5 ⟨rfl, hb5⟩
      have Q5 := hid (bthen Q4.out hb5)
      clear hb5 a0 b0 R4 S4 Q4
      go_wp2_with fail
      refine (hkn.out _ Q5.out).mono ?_
      rintro e w6 ⟨rfl, hb6⟩
      have Q6 := hid hb6
      clear hb6
      go_wp2_with fail
      go_ret
      exact ⟨rfl, Q6.out⟩

end Go.Proofs.YtnoieobjfihbeaaGreatDoor

namespace Go.Proofs.YtnoieobjfihbeaaGreatDoor
open Go.ChangeShapes Go.WideShapes Go.ChangeAt Go.RowKit

theorem cellsU64 : Tryz.prog.cellsOf 160 = 1 := by kernel_rfl
theorem cellsPow : Tryz.prog.cellsOf 169 = 20 := by kernel_rfl
theorem powName : Tryz.prog.globalNamed "internal/strconv.uint64pow10" = some 0 := by kernel_rfl
theorem powType : (Tryz.prog.globals[0]?).map (·.type) = some 169 := by kernel_rfl
theorem powDatum : (Rows.laid_internal_strconv_uint64pow10 : DataW Unit) = Lib.tabData .u64 Lib.pow10Tab := by kernel_rfl
/-- what a row's list gives: the table of powers of ten -/
theorem table {W : World} (h : laidMetH Tryz.prog [("math/bits.deBruijn32tab", Rows.laid_math_bits_deBruijn32tab), ("math/bits.deBruijn64tab", Rows.laid_math_bits_deBruijn64tab), ("internal/strconv.uint64pow10", Rows.laid_internal_strconv_uint64pow10)] W) : TabU W := by
  have h : laidMet Tryz.prog [("math/bits.deBruijn32tab", Rows.laid_math_bits_deBruijn32tab), ("math/bits.deBruijn64tab", Rows.laid_math_bits_deBruijn64tab), ("internal/strconv.uint64pow10", Rows.laid_internal_strconv_uint64pow10)] W := h
  obtain ⟨ps, ⟨_, _, _, _, _, _, _, _, _, _, ⟨_, _, _, _, _, _, _, _, _, _, ⟨g', t', cs, fuel, p, q, hg', ht', hvar, hd, _, _⟩, _⟩, _⟩, _⟩ := h
  obtain rfl := Option.some.inj (powName.symm.trans hg')
  obtain rfl := Option.some.inj (powType.symm.trans ht')
  rw [powDatum] at hd
  unfold TabU Lib.TabIs
  rw [hvar, ← Lib.cells_of_tab Tryz.underlying169 Tryz.underlying160 cellsU64 cellsPow hd]
def laying (cs : Array Value) : Obj → Obj
  | .cells _ t frozen => .cells cs t frozen
  | o => o
/-- a world for the witness: the settled one, the tables holding what their initialisers lay -/
noncomputable def laidWorld (os : Os) : World :=
  { World.holding Tryz.prog os ⟨#[], #[], []⟩ with heap := (((World.holding Tryz.prog os ⟨#[], #[], []⟩).heap.modify 1 (laying #[.int .u8 0, .int .u8 1, .int .u8 28, .int .u8 2, .int .u8 29, .int .u8 14, .int .u8 24, .int .u8 3, .int .u8 30, .int .u8 22, .int .u8 20, .int .u8 15, .int .u8 25, .int .u8 17, .int .u8 4, .int .u8 8, .int .u8 31, .int .u8 27, .int .u8 13, .int .u8 23, .int .u8 21, .int .u8 19, .int .u8 16, .int .u8 7, .int .u8 26, .int .u8 12, .int .u8 18, .int .u8 6, .int .u8 11, .int .u8 5, .int .u8 10, .int .u8 9])).modify 2 (laying #[.int .u8 0, .int .u8 1, .int .u8 56, .int .u8 2, .int .u8 57, .int .u8 49, .int .u8 28, .int .u8 3, .int .u8 61, .int .u8 58, .int .u8 42, .int .u8 50, .int .u8 38, .int .u8 29, .int .u8 17, .int .u8 4, .int .u8 62, .int .u8 47, .int .u8 59, .int .u8 36, .int .u8 45, .int .u8 43, .int .u8 51, .int .u8 22, .int .u8 53, .int .u8 39, .int .u8 33, .int .u8 30, .int .u8 24, .int .u8 18, .int .u8 12, .int .u8 5, .int .u8 63, .int .u8 55, .int .u8 48, .int .u8 27, .int .u8 60, .int .u8 41, .int .u8 37, .int .u8 16, .int .u8 46, .int .u8 35, .int .u8 44, .int .u8 21, .int .u8 52, .int .u8 32, .int .u8 23, .int .u8 11, .int .u8 54, .int .u8 26, .int .u8 40, .int .u8 15, .int .u8 34, .int .u8 20, .int .u8 31, .int .u8 10, .int .u8 25, .int .u8 14, .int .u8 19, .int .u8 9, .int .u8 13, .int .u8 8, .int .u8 7, .int .u8 6])).modify 0 (laying #[.int .u64 1, .int .u64 10, .int .u64 100, .int .u64 1000, .int .u64 10000, .int .u64 100000, .int .u64 1000000, .int .u64 10000000, .int .u64 100000000, .int .u64 1000000000, .int .u64 10000000000, .int .u64 100000000000, .int .u64 1000000000000, .int .u64 10000000000000, .int .u64 100000000000000, .int .u64 1000000000000000, .int .u64 10000000000000000, .int .u64 100000000000000000, .int .u64 1000000000000000000, .int .u64 10000000000000000000]) }
theorem ownK : ownKnob Tryz.prog.godebug = none := by kernel_rfl

end Go.Proofs.YtnoieobjfihbeaaGreatDoor
