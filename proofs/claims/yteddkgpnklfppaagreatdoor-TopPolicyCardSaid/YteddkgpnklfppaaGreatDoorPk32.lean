/-
  The walk of TopPolicy: every text.
  What comes in, read: a viewer, a point, a rectangle.
  The tables of the library that a row lists: what the listing gives, and a world that holds them.
-/
import Derived.Test.YteddkgpnklfppaaGreatDoorPk30
import Derived.Test.YteddkgpnklfppaaGreatDoorPk31
import Derived.ProofKit
import Derived.OpenShut
import Derived.ShutString
import Derived.SizedLaws
import Derived.Carry
import Derived.Deep.Slices
import Derived.Test.YteddkgpnklfppaaGreatDoorPk25
import Derived.Test.YteddkgpnklfppaaGreatDoorCards
import Derived.Test.YteddkgpnklfppaaGreatDoorTie
import Derived.Deep.DeepHandedRow
import Derived.Lib.LaidTab

namespace Go.Proofs.YteddkgpnklfppaaGreatDoor
open Go.RowKit Go.Sort Go.Maps

theorem un_ok {l m : List Po.Decl} {rs : List Ru.Rule} (h : Ru.checkV l = .ok rs) (hu : Pt.unR (Ru.checkV l) = Pt.unR (Ru.checkV m)) : Ru.checkV m = .ok rs := by
  rw [h] at hu
  cases h2 : Ru.checkV m with
  | ok b => rw [h2] at hu; simp only [Pt.unR, Except.ok.injEq] at hu; rw [hu]
  | error f => rw [h2] at hu; simp [Pt.unR] at hu
theorem read_rules {L : Lx.Bytes} {ds : List Po.Decl} {rs : List Ru.Rule} (hp : Po.parse L = .ok ds) (hc : Ru.checkV ds = .ok rs) {B : Nat} {e : Ending} {w' : World} (h : ReadPost B L e w') :
    ∃ v, e = .returned (.tuple #[v, .agg #[.int .i64 0, .int .i64 0, .int .i64 0]]) ∧ (∀ w'', Above B w' w'' → RSl w'' v rs) := by
  unfold ReadPost at h
  rw [hp] at h
  simp only at h
  unfold CheckPost at h
  rw [hc] at h
  simp only at h
  obtain ⟨v, h1, h2, _⟩ := h
  exact ⟨v, h1, h2⟩
theorem tpolicy_walk {s : ByteArray} {w : World} (hs : s.size ≤ 140737488355328) (ht : TabU w) (a b c x y x0 y0 x1 y1 : Int) :
    Calls Tryz.prog 3 #[.string s, .agg #[.int .i64 a, .int .i64 b, .int .i64 c], .agg #[.int .i64 x, .int .i64 y], .agg #[.int .i64 x0, .int .i64 y0, .int .i64 x1, .int .i64 y1]] w fun e w' => e = .returned (.bool true) ∧ Below w.heap.size w w' := by
  cases hp : Po.parse s.data.toList with
  | error f =>
    obtain ⟨er, l, k⟩ := f
    refine tpolicy_bad a b c x y x0 y0 x1 y1 (fun w1 => (read_any s w1 hs).mono fun e w' ⟨h1, h2⟩ => ⟨?_, h2⟩)
    unfold ReadPost at h1
    rw [hp] at h1
    simp only at h1
    exact ⟨er, l, k, h1.1, fun e0 => h1.2 (by exact_mod_cast e0)⟩
  | ok ds =>
    cases hc : Ru.checkV ds with
    | error f =>
      obtain ⟨er, l, k⟩ := f
      refine tpolicy_bad a b c x y x0 y0 x1 y1 (fun w1 => (read_any s w1 hs).mono fun e w' ⟨h1, h2⟩ => ⟨?_, h2⟩)
      unfold ReadPost at h1
      rw [hp] at h1
      simp only at h1
      unfold CheckPost at h1
      rw [hc] at h1
      simp only at h1
      exact ⟨er, l, k, h1, Ru.check_err hc⟩
    | ok rs =>
      obtain ⟨hl, hF, hok⟩ := Ru.check_few hc
      have hmay := Pt.parse_may hp
      have hpm := Pt.print_may hmay
      obtain ⟨_, _, hll⟩ := read1 hp
      obtain ⟨t, htx⟩ : ∃ t : ByteArray, t = ⟨(Pt.printB ds).toArray⟩ := ⟨_, rfl⟩
      have htl : t.data.toList = ds.flatMap Pt.lineB := by rw [htx, txt_bytes, hpm]
      have hts : t.size = (ds.flatMap Pt.lineB).length := by rw [← dat_size, htl]
      have hrd : ∀ w1 : World, Calls Tryz.prog 4 #[.string s] w1 fun e w' => (∃ v, e = .returned (.tuple #[v, .agg #[.int .i64 0, .int .i64 0, .int .i64 0]]) ∧ (∀ w'', Above w1.heap.size w' w'' → RSl w'' v rs)) ∧ Below w1.heap.size w1 w' :=
        fun w1 => (read_any s w1 hs).mono fun e w' ⟨h1, h2⟩ => ⟨read_rules hp hc h1, h2⟩
      have hpa : ∀ w1 : World, Calls Tryz.prog 11 #[.string s] w1 fun e w' => (∃ v, e = .returned (.tuple #[v, .agg #[.int .i64 0, .int .i64 0, .int .i64 0]]) ∧ DSl w' v ds) ∧ Below w1.heap.size w1 w' := fun w1 => by
        have h := parse_any s w1 hs
        unfold ParsePost at h
        rw [hp] at h
        exact h.mono fun e w' ⟨⟨v, vs, h1, h2⟩, h3⟩ => ⟨⟨v, h1, h2.sl⟩, h3⟩
      have hpr : ∀ (w1 : World) (v : Value), Below w.heap.size w w1 → DSl w1 v ds → Calls Tryz.prog 12 #[v] w1 fun e w' => e = .returned (.string t) ∧ Below w1.heap.size w1 w' := fun w1 v hb hd => by
        rw [htx]; exact printR_any hp hd (tab_ext ht hb)
      have hz1 := zoomT_is hok a b c x y
      by_cases h512 : 512 < (ds.flatMap Pt.lineB).length
      · have hrt : ∀ w1 : World, Calls Tryz.prog 4 #[.string t] w1 fun e w' => e = .returned (.tuple #[.slice none 0 0, .agg #[.int .i64 2, .int .i64 1, .int .i64 1]]) ∧ Below w1.heap.size w1 w' := fun w1 =>
          (read_any t w1 (by omega)).mono fun e w' ⟨h1, h2⟩ => ⟨by
            unfold ReadPost at h1
            rw [htl, parse_long h512] at h1
            exact h1.1, h2⟩
        cases hbx : Ru.boxHas ⟨x0, y0, x1, y1⟩ x y with
        | false => exact tpolicy_fl a b c x y x0 y0 x1 y1 _ 0 hl hF hok hz1 rfl hbx hrd hpa hpr hrt
        | true => exact tpolicy_tl a b c x y x0 y0 x1 y1 _ _ hl hF hok hz1 rfl hbx rfl (hz1 ▸ ofT_le hok a b c hbx) hrd hpa hpr hrt
      · obtain ⟨es, hes, hun⟩ := Pt.parse_print hmay (by omega)
        rw [← htl] at hes
        have hce := un_ok hc (Pt.check_un hun).symm
        have hrt : ∀ w1 : World, Calls Tryz.prog 4 #[.string t] w1 fun e w' => (∃ v, e = .returned (.tuple #[v, .agg #[.int .i64 0, .int .i64 0, .int .i64 0]]) ∧ (∀ w'', Above w1.heap.size w' w'' → RSl w'' v rs)) ∧ Below w1.heap.size w1 w' :=
          fun w1 => (read_any t w1 (by omega)).mono fun e w' ⟨h1, h2⟩ => ⟨read_rules hes hce h1, h2⟩
        cases hbx : Ru.boxHas ⟨x0, y0, x1, y1⟩ x y with
        | false => exact tpolicy_fs a b c x y x0 y0 x1 y1 _ 0 hl hF hok hz1 rfl hbx hrd hpa hpr hrt
        | true => exact tpolicy_ts a b c x y x0 y0 x1 y1 _ _ hl hF hok hz1 rfl hbx rfl (hz1 ▸ ofT_le hok a b c hbx) hrd hpa hpr hrt

end Go.Proofs.YteddkgpnklfppaaGreatDoor

namespace Go.Proofs.YteddkgpnklfppaaGreatDoor
open Go.ChangeShapes Go.WideShapes Go.RowKit

/-! ### general -/
section
variable {H : Type} {P : Program}
variable {enc : TypeId × Value → H} {w : World} {base : Nat} {spare : Nat → Bool} {held : Bool}
/-- part number i of a struct, by itself -/
theorem struct_part {fs : Array Field} {fuel : Nat} {t : TypeId} {cs : List Value} {x : DataW H × List MemPlace} (ht : P.underlying t = some (.struct fs)) (h : DataW.trod enc P w base spare held fuel t cs = some x) :
    cs.length = P.cellsOf t ∧ ∃ parts n, x.1 = .agg parts ∧ ∀ (i : Nat) (f : Field), fs[i]? = some f → ∃ y, DataW.trod enc P w base spare held n f.type ((cs.drop f.offset).take (P.cellsOf f.type)) = some y ∧ parts[i]? = some y.1 := by
  obtain ⟨xs, n, _, rfl, hlen, hxl, hf⟩ := DataW.trod_struct ht h
  refine ⟨hlen, xs.map (·.1), n, rfl, fun i f hi => ?_⟩
  have hi2 : i < xs.length := by rw [hxl]; exact (Array.getElem?_eq_some_iff.1 hi).1
  refine ⟨xs[i], ?_, ?_⟩
  · rw [hf i f hi, List.getElem?_eq_getElem hi2]
  · rw [List.getElem?_map, List.getElem?_eq_getElem hi2]; rfl
/-- a row's elements lie behind one another in one block -/
theorem rows_at {a : Addr} {len size : Nat} (hpos : 0 < len) (hsz : 0 < size) (F : Nat → List Value) (hF : ∀ i, i < len → w.cells? base (a.add (i * size)) size = some (F i)) :
    ∃ g off, a = ⟨g, off, none⟩ ∧ g < w.heap.size ∧ ∀ i, i < len → (F i).length = size ∧ w.rangeAt g (off + i * size) (F i) := by
  obtain ⟨_, hl0, h0⟩ := World.cells?_some (hF 0 hpos)
  have h1 := h0 0 hsz
  rw [List.getElem?_eq_getElem (by omega)] at h1
  have e0 : (a.add (0 * size)).add 0 = a := by simp [Addr.add]
  rw [e0] at h1
  obtain ⟨g, off, sp⟩ := a
  have hsp : sp = none := by
    unfold World.cell? at h1
    cases sp with
    | none => rfl
    | some s => simp at h1; split at h1 <;> simp at h1
  subst hsp
  refine ⟨g, off, rfl, World.block_lt_of_cell? _ _ h1, fun i hi => ?_⟩
  obtain ⟨_, hl, hc⟩ := World.cells?_some (hF i hi)
  refine ⟨hl, fun j v hj => ?_⟩
  have hj2 : j < size := by rw [← hl]; exact (List.getElem?_eq_some_iff.1 hj).1
  have := hc j hj2
  rw [Go.Deep.add_add, addr_add', hj] at this
  rw [Nat.add_assoc]
  exact this
where
  addr_add' {g off j : Nat} : (⟨g, off, none⟩ : Addr).add j = ⟨g, off + j, none⟩ := by unfold Addr.add; split <;> simp_all
/-- all arguments read again as they did -/
theorem all_again {W W' : World} (hb : Below W.heap.size W W') (hl : laidOutB P = true) : ∀ {ts : List TypeId} {vs : List Value} {ds : List (DataW H)} {p : List MemPlace}, DataW.TrodAll enc P W 0 (fun _ => true) true ts vs ds p → (∀ t ∈ ts, P.readableRec t = true ∧ t < P.types.size) → (∀ x ∈ p, x.block < W.heap.size) →
    DataW.TrodAll enc P W' 0 (fun b => decide (b < W.heap.size)) true ts vs ds p
  | [], vs, ds, p, h, _, _ => by
    obtain ⟨rfl, rfl, rfl⟩ := trodAll_nil h
    exact trodAll_mk0
  | t :: ts, vs, ds, p, h, hr, hp => by
    obtain ⟨v, vs', d, ds', p1, q1, rfl, rfl, rfl, h1, h2⟩ := trodAll_cons h
    obtain ⟨r1, r2⟩ := hr t List.mem_cons_self
    exact trodAll_cons_mk (Below.trod hl r1 r2 h1 hb (fun x hx => hp x (List.mem_append_left _ hx))) (all_again hb hl h2 (fun t ht => hr t (List.mem_cons_of_mem _ ht)) (fun x hx => hp x (List.mem_append_right _ hx)))
end

/-! ### this program's types -/
section
variable {H : Type} {enc : TypeId × Value → H} {w : World} {base : Nat} {spare : Nat → Bool} {held : Bool} {fuel : Nat} {x : DataW H × List MemPlace}
theorem cellsInt : Tryz.prog.cellsOf 3 = 1 := by kernel_rfl
theorem rd_int {v : Value} (h : DataW.trod enc Tryz.prog w base spare held fuel 3 [v] = some x) : ∃ n, v = .int .i64 n := by
  obtain ⟨n, h1, _⟩ := DataW.trod_int Tryz.underlying3 h
  exact ⟨n, by simpa using h1⟩
set_option maxRecDepth 100000 in
theorem rd_view1 {v : Value} {d : DataW H} {ps : List MemPlace} (hval : Value.okWide Tryz.prog w .any base 23 v) (h : DataW.Trod enc Tryz.prog w 0 spare held 23 v d ps) : ∃ a0 a1 a2, v = .agg #[.int .i64 a0, .int .i64 a1, .int .i64 a2] := by
  obtain ⟨cs, rfl, hcs⟩ := okWide_struct Tryz.underlying23 hval
  obtain ⟨fuel, hf⟩ := h
  have hcl : (Value.agg cs).cells.toList = cs.toList := by simp [Value.cells]
  rw [hcl] at hf
  obtain ⟨hl, parts, n, _, hp⟩ := struct_part Tryz.underlying23 hf
  rw [show Tryz.prog.cellsOf 23 = 3 by kernel_rfl] at hl
  obtain ⟨y0, h0, _⟩ := hp 0 _ rfl
  obtain ⟨y1, h1, _⟩ := hp 1 _ rfl
  obtain ⟨y2, h2, _⟩ := hp 2 _ rfl
  have h0 : DataW.trod enc Tryz.prog w 0 spare held n 3 ((cs.toList.drop 0).take (Tryz.prog.cellsOf 3)) = some y0 := h0
  have h1 : DataW.trod enc Tryz.prog w 0 spare held n 3 ((cs.toList.drop 1).take (Tryz.prog.cellsOf 3)) = some y1 := h1
  have h2 : DataW.trod enc Tryz.prog w 0 spare held n 3 ((cs.toList.drop 2).take (Tryz.prog.cellsOf 3)) = some y2 := h2
  simp only [cellsInt] at h0 h1 h2
  obtain ⟨cl⟩ := cs
  simp only at h0 h1 h2 hl
  match cl, hl with
  | [a, b, c], _ =>
    obtain ⟨n0, rfl⟩ := rd_int h0
    obtain ⟨n1, rfl⟩ := rd_int h1
    obtain ⟨n2, rfl⟩ := rd_int h2
    exact ⟨n0, n1, n2, rfl⟩
set_option maxRecDepth 100000 in
theorem rd_point1 {v : Value} {d : DataW H} {ps : List MemPlace} (hval : Value.okWide Tryz.prog w .any base 25 v) (h : DataW.Trod enc Tryz.prog w 0 spare held 25 v d ps) : ∃ a0 a1, v = .agg #[.int .i64 a0, .int .i64 a1] := by
  obtain ⟨cs, rfl, hcs⟩ := okWide_struct Tryz.underlying25 hval
  obtain ⟨fuel, hf⟩ := h
  have hcl : (Value.agg cs).cells.toList = cs.toList := by simp [Value.cells]
  rw [hcl] at hf
  obtain ⟨hl, parts, n, _, hp⟩ := struct_part Tryz.underlying25 hf
  rw [show Tryz.prog.cellsOf 25 = 2 by kernel_rfl] at hl
  obtain ⟨y0, h0, _⟩ := hp 0 _ rfl
  obtain ⟨y1, h1, _⟩ := hp 1 _ rfl
  have h0 : DataW.trod enc Tryz.prog w 0 spare held n 3 ((cs.toList.drop 0).take (Tryz.prog.cellsOf 3)) = some y0 := h0
  have h1 : DataW.trod enc Tryz.prog w 0 spare held n 3 ((cs.toList.drop 1).take (Tryz.prog.cellsOf 3)) = some y1 := h1
  simp only [cellsInt] at h0 h1
  obtain ⟨cl⟩ := cs
  simp only at h0 h1 hl
  match cl, hl with
  | [a, b], _ =>
    obtain ⟨n0, rfl⟩ := rd_int h0
    obtain ⟨n1, rfl⟩ := rd_int h1
    exact ⟨n0, n1, rfl⟩
set_option maxRecDepth 100000 in
theorem rd_rect1 {v : Value} {d : DataW H} {ps : List MemPlace} (hval : Value.okWide Tryz.prog w .any base 27 v) (h : DataW.Trod enc Tryz.prog w 0 spare held 27 v d ps) : ∃ a0 a1 a2 a3, v = .agg #[.int .i64 a0, .int .i64 a1, .int .i64 a2, .int .i64 a3] := by
  obtain ⟨cs, rfl, hcs⟩ := okWide_struct Tryz.underlying27 hval
  obtain ⟨fuel, hf⟩ := h
  have hcl : (Value.agg cs).cells.toList = cs.toList := by simp [Value.cells]
  rw [hcl] at hf
  obtain ⟨hl, parts, n, _, hp⟩ := struct_part Tryz.underlying27 hf
  rw [show Tryz.prog.cellsOf 27 = 4 by kernel_rfl] at hl
  obtain ⟨y0, h0, _⟩ := hp 0 _ rfl
  obtain ⟨y1, h1, _⟩ := hp 1 _ rfl
  obtain ⟨y2, h2, _⟩ := hp 2 _ rfl
  obtain ⟨y3, h3, _⟩ := hp 3 _ rfl
  have h0 : DataW.trod enc Tryz.prog w 0 spare held n 3 ((cs.toList.drop 0).take (Tryz.prog.cellsOf 3)) = some y0 := h0
  have h1 : DataW.trod enc Tryz.prog w 0 spare held n 3 ((cs.toList.drop 1).take (Tryz.prog.cellsOf 3)) = some y1 := h1
  have h2 : DataW.trod enc Tryz.prog w 0 spare held n 3 ((cs.toList.drop 2).take (Tryz.prog.cellsOf 3)) = some y2 := h2
  have h3 : DataW.trod enc Tryz.prog w 0 spare held n 3 ((cs.toList.drop 3).take (Tryz.prog.cellsOf 3)) = some y3 := h3
  simp only [cellsInt] at h0 h1 h2 h3
  obtain ⟨cl⟩ := cs
  simp only at h0 h1 h2 h3 hl
  match cl, hl with
  | [a, b, c, d], _ =>
    obtain ⟨n0, rfl⟩ := rd_int h0
    obtain ⟨n1, rfl⟩ := rd_int h1
    obtain ⟨n2, rfl⟩ := rd_int h2
    obtain ⟨n3, rfl⟩ := rd_int h3
    exact ⟨n0, n1, n2, n3, rfl⟩
theorem laid : laidOutB Tryz.prog = true := by kernel_rfl
theorem readStr : Tryz.prog.readableRec 9 = true ∧ 9 < Tryz.prog.types.size := ⟨by kernel_rfl, of_decide_eq_true (by kernel_rfl)⟩
theorem readView : Tryz.prog.readableRec 23 = true ∧ 23 < Tryz.prog.types.size := ⟨by kernel_rfl, of_decide_eq_true (by kernel_rfl)⟩
theorem readPoint : Tryz.prog.readableRec 25 = true ∧ 25 < Tryz.prog.types.size := ⟨by kernel_rfl, of_decide_eq_true (by kernel_rfl)⟩
theorem readRect : Tryz.prog.readableRec 27 = true ∧ 27 < Tryz.prog.types.size := ⟨by kernel_rfl, of_decide_eq_true (by kernel_rfl)⟩
end

end Go.Proofs.YteddkgpnklfppaaGreatDoor

namespace Go.Proofs.YteddkgpnklfppaaGreatDoor
open Go.ChangeShapes Go.WideShapes Go.ChangeAt Go.RowKit

theorem cellsU64 : Tryz.prog.cellsOf 69 = 1 := by kernel_rfl
theorem cellsPow : Tryz.prog.cellsOf 202 = 20 := by kernel_rfl
theorem powName : Tryz.prog.globalNamed "internal/strconv.uint64pow10" = some 0 := by kernel_rfl
theorem powType : (Tryz.prog.globals[0]?).map (·.type) = some 202 := by kernel_rfl
theorem powDatum : (Rows.laid_internal_strconv_uint64pow10 : DataW Unit) = Lib.tabData .u64 Lib.pow10Tab := by kernel_rfl
/-- what a row's list gives: the table of powers of ten -/
theorem table {W : World} (h : laidMetH Tryz.prog [("math/bits.deBruijn32tab", Rows.laid_math_bits_deBruijn32tab), ("math/bits.deBruijn64tab", Rows.laid_math_bits_deBruijn64tab), ("internal/strconv.uint64pow10", Rows.laid_internal_strconv_uint64pow10)] W) : TabU W := by
  have h : laidMet Tryz.prog [("math/bits.deBruijn32tab", Rows.laid_math_bits_deBruijn32tab), ("math/bits.deBruijn64tab", Rows.laid_math_bits_deBruijn64tab), ("internal/strconv.uint64pow10", Rows.laid_internal_strconv_uint64pow10)] W := h
  obtain ⟨ps, ⟨_, _, _, _, _, _, _, _, _, _, ⟨_, _, _, _, _, _, _, _, _, _, ⟨g', t', cs, fuel, p, q, hg', ht', hvar, hd, _, _⟩, _⟩, _⟩, _⟩ := h
  obtain rfl := Option.some.inj (powName.symm.trans hg')
  obtain rfl := Option.some.inj (powType.symm.trans ht')
  rw [powDatum] at hd
  unfold TabU Lib.TabIs
  rw [hvar, ← Lib.cells_of_tab Tryz.underlying202 Tryz.underlying69 cellsU64 cellsPow hd]
def laying (cs : Array Value) : Obj → Obj
  | .cells _ t frozen => .cells cs t frozen
  | o => o
/-- a world for the witness: the settled one, the tables holding what their initialisers lay -/
noncomputable def laidWorld (os : Os) : World :=
  { World.holding Tryz.prog os ⟨#[], #[], []⟩ with heap := (((World.holding Tryz.prog os ⟨#[], #[], []⟩).heap.modify 1 (laying #[.int .u8 0, .int .u8 1, .int .u8 28, .int .u8 2, .int .u8 29, .int .u8 14, .int .u8 24, .int .u8 3, .int .u8 30, .int .u8 22, .int .u8 20, .int .u8 15, .int .u8 25, .int .u8 17, .int .u8 4, .int .u8 8, .int .u8 31, .int .u8 27, .int .u8 13, .int .u8 23, .int .u8 21, .int .u8 19, .int .u8 16, .int .u8 7, .int .u8 26, .int .u8 12, .int .u8 18, .int .u8 6, .int .u8 11, .int .u8 5, .int .u8 10, .int .u8 9])).modify 2 (laying #[.int .u8 0, .int .u8 1, .int .u8 56, .int .u8 2, .int .u8 57, .int .u8 49, .int .u8 28, .int .u8 3, .int .u8 61, .int .u8 58, .int .u8 42, .int .u8 50, .int .u8 38, .int .u8 29, .int .u8 17, .int .u8 4, .int .u8 62, .int .u8 47, .int .u8 59, .int .u8 36, .int .u8 45, .int .u8 43, .int .u8 51, .int .u8 22, .int .u8 53, .int .u8 39, .int .u8 33, .int .u8 30, .int .u8 24, .int .u8 18, .int .u8 12, .int .u8 5, .int .u8 63, .int .u8 55, .int .u8 48, .int .u8 27, .int .u8 60, .int .u8 41, .int .u8 37, .int .u8 16, .int .u8 46, .int .u8 35, .int .u8 44, .int .u8 21, .int .u8 52, .int .u8 32, .int .u8 23, .int .u8 11, .int .u8 54, .int .u8 26, .int .u8 40, .int .u8 15, .int .u8 34, .int .u8 20, .int .u8 31, .int .u8 10, .int .u8 25, .int .u8 14, .int .u8 19, .int .u8 9, .int .u8 13, .int .u8 8, .int .u8 7, .int .u8 6])).modify 0 (laying #[.int .u64 1, .int .u64 10, .int .u64 100, .int .u64 1000, .int .u64 10000, .int .u64 100000, .int .u64 1000000, .int .u64 10000000, .int .u64 100000000, .int .u64 1000000000, .int .u64 10000000000, .int .u64 100000000000, .int .u64 1000000000000, .int .u64 10000000000000, .int .u64 100000000000000, .int .u64 1000000000000000, .int .u64 10000000000000000, .int .u64 100000000000000000, .int .u64 1000000000000000000, .int .u64 10000000000000000000]) }
theorem ownK : ownKnob Tryz.prog.godebug = none := by kernel_rfl

end Go.Proofs.YteddkgpnklfppaaGreatDoor
