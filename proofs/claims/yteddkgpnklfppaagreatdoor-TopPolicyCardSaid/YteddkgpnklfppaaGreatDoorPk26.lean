/-
  The policy's writer, a strings.Builder that is a struct's first field: copyCheck, WriteString, String.
  The policy's writer: numbers, words, a who, tiers.
-/
import Derived.Test.YteddkgpnklfppaaGreatDoorPk25
import Derived.Lib.Builder
import Derived.Lib.AppendStr
import Derived.Lib.UnsafeStr
import Derived.Lib.OthersKept
import Derived.Lib.ItoaNum
import Derived.Lib.LaidTab
import Derived.Lib.Itoa
import Derived.Test.YteddkgpnklfppaaGreatDoorPk24
import Derived.Test.YteddkgpnklfppaaGreatDoorPk14

namespace Go.Proofs.YteddkgpnklfppaaGreatDoor
open Go.RowKit Go.Sort

theorem tab_below {B : Nat} {w w' : World} (h : TabU w) (hb : Below B w w') (hB : 0 < B) : TabU w' := by
  unfold TabU Lib.TabIs World.var? at *
  rw [show Tryz.prog.globalNamed "internal/strconv.uint64pow10" = some 0 by kernel_rfl] at *
  simp only [Option.bind_some] at *
  rw [hb.block _ hB]
  exact h
theorem tab_lt {w : World} (h : TabU w) : 0 < w.heap.size := by
  unfold TabU Lib.TabIs World.var? at h
  rw [show Tryz.prog.globalNamed "internal/strconv.uint64pow10" = some 0 by kernel_rfl] at h
  simp only [Option.bind_some] at h
  rcases Nat.lt_or_ge 0 w.heap.size with h1 | h1
  · exact h1
  · rw [Array.getElem?_eq_none h1] at h; cases h
theorem tab_ext {w w' : World} (h : TabU w) (hb : Below w.heap.size w w') : TabU w' := tab_below h hb (tab_lt h)
/-- a writer in block b that holds these bytes; all that it makes lies from B on -/
structure WB (B b : Nat) (l : List UInt8) (w : World) : Prop where
  isb : Lib.IsBuilder 92 5 B b (Lib.byteCells l) w
  le : B ≤ w.heap.size
  tab : TabU w
  far : 0 < B
/-- what a writing leaves as it was -/
structure Wrote (B b : Nat) (w w' : World) : Prop where
  bel : Below B w w'
  kept : Lib.OthersKept 5 (some b) w w'
theorem Wrote.refl (B b : Nat) (w : World) : Wrote B b w w := ⟨Below.refl _ _, Lib.OthersKept.refl _ _ _⟩
theorem Wrote.trans {B b : Nat} {x y z : World} (h : Wrote B b x y) (k : Wrote B b y z) : Wrote B b x z := ⟨h.bel.trans k.bel, h.kept.trans k.kept⟩
theorem kept_ext {b : Option Nat} {e : TypeId} {w w' : World} (h : Below w.heap.size w w') : Lib.OthersKept e b w w' := fun k _o hk _ _ => (h.block k (lt_of_block hk)).trans hk
theorem Wrote.ext {B b : Nat} {w w' : World} (hB : B ≤ w.heap.size) (h : Below w.heap.size w w') : Wrote B b w w' := ⟨h.mono hB, kept_ext h⟩
theorem Wrote.drew_iff {B b : Nat} {a w : World} : Wrote B b a w.drew ↔ Wrote B b a w := ⟨fun h => ⟨below_drew_iff.1 h.bel, h.kept⟩, fun h => ⟨h.bel.drew, h.kept⟩⟩
theorem Wrote.drewN_iff {B b : Nat} {a w : World} (n : Nat) : Wrote B b a (w.drewN n) ↔ Wrote B b a w := ⟨fun h => ⟨(below_drewN_iff n).1 h.bel, h.kept⟩, fun h => ⟨bdrewN h.bel n, h.kept⟩⟩
/-- a block that is neither the writer's nor a row of bytes -/
theorem Blk.wrote {B b k : Nat} {w w' : World} {cs : Array Value} {t : TypeId} (h : Blk w k cs t) (hw : Wrote B b w w') (hk : k ≠ b) (ht : t ≠ 5) : Blk w' k cs t :=
  hw.kept k _ h (by simpa using hk) (fun c fz e => by cases e; exact ht rfl)
theorem builder_ext {T e : TypeId} {B b : Nat} {p : Value} {bs : List Value} {w w' : World} (h : Lib.BuilderAt T e B b p bs w) (hb : Below w.heap.size w w') : Lib.BuilderAt T e B b p bs w' := by
  have hlt := h.lt
  obtain ⟨hB, v, hbk, hown, hne⟩ := h
  exact ⟨hB, v, (hb.block b hlt).trans hbk, owns_ext hown hb, hne⟩
theorem WB.ext {B b : Nat} {l : List UInt8} {w w' : World} (h : WB B b l w) (hb : Below w.heap.size w w') : WB B b l w' :=
  ⟨h.isb.imp (fun h => builder_ext h hb) (fun h => builder_ext h hb), Nat.le_trans h.le hb.size, tab_ext h.tab hb, h.far⟩
theorem WB.lt {B b : Nat} {l : List UInt8} {w : World} (h : WB B b l w) : b < w.heap.size := by
  rcases h.isb with h | h
  · exact h.lt
  · exact h.lt
theorem WB.ge {B b : Nat} {l : List UInt8} {w : World} (h : WB B b l w) : B ≤ b := by
  rcases h.isb with h | h
  · exact h.1
  · exact h.1
theorem WB.new {w : World} (h : TabU w) : WB w.heap.size w.heap.size [] (w.alloc (.cells #[.pointer none, .slice none 0 0] 92)) := ⟨Lib.fresh_isBuilder _ _ w, by simp, tab_ext h (balloc w _), tab_lt h⟩
theorem WB.blk {B b : Nat} {l : List UInt8} {w : World} (h : WB B b l w) : ∃ p v, Blk w b #[p, v] 92 := by
  rcases h.isb with h | h
  · obtain ⟨_, v, hb, _⟩ := h; exact ⟨_, v, hb⟩
  · obtain ⟨_, v, hb, _⟩ := h; exact ⟨_, v, hb⟩

theorem Tryz.sizeBuilder : (Tryz.prog.info? 90).map (·.size) = some 2 := by kernel_rfl
theorem Tryz.liesWriter : liesAt Tryz.prog Tryz.prog.depth 92 (2 / Tryz.prog.cellsOf 92) 0 90 1 = true := by kernel_rfl

set_option maxRecDepth 100000 in
set_option maxHeartbeats 1000000 in
theorem bcheck_used (b : Nat) (w : World) (h0 : w.cell? ⟨b, 0, none⟩ = some (.pointer (some ⟨b, 0, none⟩))) :
    Calls Tryz.prog 60 #[.pointer (some ⟨b, 0, none⟩)] w fun e w' => e = .returned (.tuple #[]) ∧ w' = w := by
  obtain ⟨j, hj, _⟩ := Option.map_eq_some_iff.1 Tryz.sizeBuilder
  go_enter Tryz.func60, Tryz.ntmps60
  go_wp2
  rw [Lib.run_neq_ptr_same w _ Tryz.underlying87 hj]
  go_wp2
  go_end0
  exact ⟨rfl, rfl⟩

set_option maxRecDepth 100000 in
set_option maxHeartbeats 1000000 in
theorem bcheck_fresh (b : Nat) (w : World) (h0 : w.cell? ⟨b, 0, none⟩ = some (.pointer none)) (hsh : w.shape? b = some (92, 2)) (hfz : w.frozen? ⟨b, 0, none⟩ = false) :
    Calls Tryz.prog 60 #[.pointer (some ⟨b, 0, none⟩)] w fun e w' => e = .returned (.tuple #[]) ∧ w' = w.setCell ⟨b, 0, none⟩ (.pointer (some ⟨b, 0, none⟩)) := by
  obtain ⟨j, hj, hjs⟩ := Option.map_eq_some_iff.1 Tryz.sizeBuilder
  go_enter Tryz.func60, Tryz.ntmps60
  go_wp2
  rw [Lib.run_to_unsafe w ⟨b, 0, none⟩ Tryz.underlying87 Tryz.underlying156 hj (by rw [hjs]; decide) hsh (Nat.zero_lt_succ 1)]
  simp only [Result.andThen]
  rw [Oper.upon_value]
  go_wp2
  rw [run_callFunc_extern Tryz.func103 (by kernel_rfl) (by kernel_rfl) (by kernel_rfl) (e := Extern.AbiNoEscape.same) (by kernel_rfl)]
  rw [Lib.run_noEscape]
  simp only [Result.andThen]
  rw [Oper.upon_value]
  go_wp2
  rw [Lib.run_from_unsafe w ⟨b, 0, none⟩ Tryz.underlying156 Tryz.underlying87 hj hsh Tryz.liesWriter]
  simp only [Result.andThen]
  rw [Oper.upon_value]
  go_wp2
  go_end0
  exact ⟨rfl, rfl⟩

theorem bcheck_any {B b : Nat} {l : List UInt8} {w : World} (h : WB B b l w) :
    Calls Tryz.prog 60 #[.pointer (some ⟨b, 0, none⟩)] w fun e w' => e = .returned (.tuple #[]) ∧ Lib.BuilderAt 92 5 B b (.pointer (some ⟨b, 0, none⟩)) (Lib.byteCells l) w' ∧ Wrote B b w w' := by
  rcases h.isb with h | h
  · refine (bcheck_fresh b w h.cell0 h.shape h.frozen0).mono ?_
    rintro e w' ⟨rfl, rfl⟩
    exact ⟨rfl, h.used _, (Below.refl B w).setCell (p := ⟨b, 0, none⟩) h.1 _, (Lib.OthersKept.refl _ _ w).setCell ⟨b, 0, none⟩ rfl _⟩
  · refine (bcheck_used b w h.cell0).mono ?_
    rintro e w' ⟨rfl, rfl⟩
    exact ⟨rfl, h, Wrote.refl _ _ _⟩

theorem Tryz.infoU8 : (Tryz.prog.info? 5).map (fun i => (i.zero, i.size, i.bytes)) = some (some (.int .u8 0), 1, 1) := by kernel_rfl
theorem ownsRow_kind {w : World} {B : Nat} {e : TypeId} {v : Value} {n : Nat} {xs : List Value} (h : w.ownsRow B e 1 v n xs) : ∀ g, v.ownBlock = some g → ∃ c fz, w.heap[g]? = some (.cells c e fz) :=
  Lib.ownsRowF_kind (World.ownsRowF_of h)

set_option maxRecDepth 100000 in
set_option maxHeartbeats 2000000 in
theorem bwrite_any {B b : Nat} {l : List UInt8} {w : World} (h : WB B b l w) (s : ByteArray) (hlen : l.length + s.size ≤ 140737488355328) :
    Calls Tryz.prog 32 #[.pointer (some ⟨b, 0, none⟩), .string s] w fun e w' => e = .returned (.tuple #[.int .i64 s.size, .nilIface]) ∧ WB B b (l ++ s.data.toList) w' ∧ Wrote B b w w' := by
  obtain ⟨i0, hi, hz0, hz1, hz2⟩ := info_parts Tryz.infoU8
  have hBw := h.le
  have hT := hid h.tab
  have hF := h.far
  go_enter Tryz.func32, Tryz.ntmps32
  go_wp2_with fail
  refine (bcheck_any h).mono ?_
  rintro e w1 ⟨rfl, h1, k1⟩
  obtain ⟨hB, v, hbk, hown, hne⟩ := h1
  have hsz1 := k1.bel.size
  rw [Lib.byteCells_length] at hown
  have c0 : w1.cell? ⟨b, 0, none⟩ = some (.pointer (some ⟨b, 0, none⟩)) := by rw [Lib.cell_of_heap hbk]; rfl
  have c1 : w1.cell? ⟨b, 1, none⟩ = some v := by rw [Lib.cell_of_heap hbk]; rfl
  go_wp2_with (at_builtin; refine Lib.wpList_append_own_string _ rfl _ _ 88 9 rfl B 5 i0 Tryz.underlying88 Tryz.underlying9 hi hz0 hz1 hz2 _ _ _ rfl hown s rfl ?c3 ?c4 ?c5 ?_)
  case c3 => unfold maxLen; omega
  case c4 => omega
  case c5 => omega
  intro v' w2 hown' hgrow _
  have hlt : b < w1.heap.size := lt_of_block hbk
  have hb2 : w2.heap[b]? = some (.cells #[.pointer (some ⟨b, 0, none⟩), v] 92 (0, 0)) := by
    rw [hgrow.block b hlt (fun e => hne e.symm)]
    exact hbk
  have d0 : w2.cell? ⟨b, 0, none⟩ = some (.pointer (some ⟨b, 0, none⟩)) := by rw [Lib.cell_of_heap hb2]; rfl
  have d1 : w2.cell? ⟨b, 1, none⟩ = some v := by rw [Lib.cell_of_heap hb2]; rfl
  have f1 : w2.frozen? ⟨b, 1, none⟩ = false := Lib.frozen_of_heap hb2 1
  have hsz2 := hgrow.size
  obtain ⟨ao, n', cap, rfl⟩ : ∃ ao n' cap, v' = .slice ao n' cap := by
    rcases hown'.2 with ⟨hv, _⟩ | ⟨g, cap, cur, hv, _⟩
    · exact ⟨_, _, _, hv⟩
    · exact ⟨_, _, _, hv⟩
  have hcells : Lib.byteCells l ++ Lib.strCells s = Lib.byteCells (l ++ s.data.toList) := by rw [Lib.byteCells_append]; rfl
  rw [hcells] at hown'
  have hput := Lib.BuilderAt.put (T := 92) (e := 5) hB hb2 (bs' := Lib.byteCells (l ++ s.data.toList)) (by rw [Lib.byteCells_length, List.length_append]; exact hown') (by decide)
  have hput' := hid hput
  have hwr : Hid (Wrote B b w (w2.setCell ⟨b, 1, none⟩ (.slice ao n' cap))) := hid ⟨((k1.bel).grown hgrow (by omega) (fun k hk => (hown.lt k hk).1)).setCell (p := ⟨b, 1, none⟩) hB _, (k1.kept.grown hgrow (ownsRow_kind hown)).setCell ⟨b, 1, none⟩ rfl _⟩
  clear hput hcells hown' hgrow
  go_wp2_with fail
  go_ret2
  exact ⟨rfl, ⟨.inr hput'.out, by simp [World.setCell]; omega, tab_below hT.out hwr.out.bel hF, hF⟩, hwr.out⟩

theorem Tryz.cellsU8 : Tryz.prog.cellsOf 5 = 1 := by kernel_rfl
theorem WB.at_ {B b : Nat} {l : List UInt8} {w : World} (h : WB B b l w) : ∃ p, Lib.BuilderAt 92 5 B b p (Lib.byteCells l) w := by
  rcases h.isb with h | h
  · exact ⟨_, h⟩
  · exact ⟨_, h⟩
set_option maxRecDepth 100000 in
set_option maxHeartbeats 2000000 in
theorem bstring_some {B b : Nat} {l : List UInt8} {w : World} (h : WB B b l w) (h0 : l ≠ []) :
    Calls Tryz.prog 35 #[.pointer (some ⟨b, 0, none⟩)] w fun e w' => e = .returned (.string ⟨l.toArray⟩) ∧ Below B w w' := by
  obtain ⟨p, hB, v, hbk, hown, hne⟩ := h.at_
  have hl0 : l.length ≠ 0 := by simpa using h0
  rw [Lib.byteCells_length] at hown
  obtain ⟨g, cap, cur, rfl, hbg, hg, hnc, hcm, hcs, htake⟩ : ∃ g cap cur, v = .slice (some ⟨g, 0, none⟩) l.length cap ∧ B ≤ g ∧ w.heap[g]? = some (.cells cur 5 (0, 0)) ∧ l.length ≤ cap ∧ cap ≤ maxLen ∧ cur.size = cap * 1 ∧ cur.toList.take (l.length * 1) = Lib.byteCells l := by
    rcases hown.2 with ⟨_, hz⟩ | ⟨g, cap, cur, hv, r⟩
    · exact absurd hz hl0
    · exact ⟨g, cap, cur, hv, r⟩
  have c1 : w.drew.cell? ⟨b, 1, none⟩ = some (.slice (some ⟨g, 0, none⟩) l.length cap) := by
    have : w.drew.heap[b]? = some (.cells #[p, .slice (some ⟨g, 0, none⟩) l.length cap] 92 (0, 0)) := hbk
    rw [Lib.cell_of_heap this]; rfl
  have hSD : (Builtin.unsafeSliceData_ #[88] 139 #[.slice (some ⟨g, 0, none⟩) l.length cap]).run Tryz.prog w.drew = .ok (.pointer (some ⟨g, 0, none⟩)) w.drew :=
    Lib.run_unsafeSliceData_row _ _ _ _ _ _ (by omega)
  have hUS : (Builtin.unsafeString_ #[139, 3] 9 #[.pointer (some ⟨g, 0, none⟩), .int .i64 l.length]).run Tryz.prog w.drew = .ok (.string ⟨l.toArray⟩) (w.drew.freeze ⟨g, 0, none⟩ l.length) := by
    refine Lib.run_unsafeString_row w.drew 139 3 9 5 Tryz.underlying139 Tryz.cellsU8 g cur.size (by have hg' : w.drew.heap[g]? = some (.cells cur 5 (0, 0)) := hg; simp [World.shape?, hg']) l h0 (by omega) (by unfold maxLen at hcm; omega) ?_
    intro j x hx
    have := hown.cells (g := g) rfl j (.int .u8 x.toNat) (by simp [Lib.byteCells, hx])
    exact this
  clear hown htake hl0
  go_enter Tryz.func35, Tryz.ntmps35
  go_wp2
  go_region
  all_goals (go_wp2; go_ret; exact ⟨rfl, Lib.below_freeze (Below.drew (Below.refl B w)) (p := ⟨g, 0, none⟩) hbg _⟩)
set_option maxRecDepth 100000 in
set_option maxHeartbeats 2000000 in
theorem bstring_nil {B b : Nat} {p : Value} {w : World} (hbk : Blk w b #[p, .slice none 0 0] 92) :
    Calls Tryz.prog 35 #[.pointer (some ⟨b, 0, none⟩)] w fun e w' => e = .returned (.string ⟨#[]⟩) ∧ Below B w w' := by
  have hUS : ∀ (W : World) (q : Option Addr), (Builtin.unsafeString_ #[139, 3] 9 #[.pointer q, .int .i64 0]).run Tryz.prog W = .ok (.string .empty) W := fun W q => Lib.run_unsafeString_none W _ _ _ q
  have c1 : w.drew.cell? ⟨b, 1, none⟩ = some (.slice none 0 0) := hbk.cell 1 rfl
  have hSD : (Builtin.unsafeSliceData_ #[88] 139 #[.slice none 0 0]).run Tryz.prog w.drew = .ok (.pointer none) w.drew := rfl
  go_enter Tryz.func35, Tryz.ntmps35
  go_wp2
  go_region
  all_goals (go_wp2; go_ret; exact ⟨rfl, Below.drew (Below.refl B w)⟩)

end Go.Proofs.YteddkgpnklfppaaGreatDoor

namespace Go.Proofs.YteddkgpnklfppaaGreatDoor
open Go.RowKit Go.Sort

/-- a number that may be written -/
theorem num_any {B b : Nat} {l : List UInt8} {w : World} (h : WB B b l w) (n : Int) (hn : Ru.num n = true) :
    Calls Tryz.prog 62 #[.int .i64 n] w fun e w' => e = .returned (.string ⟨(Lib.itoa n).toArray⟩) ∧ Below w.heap.size w w' := by
  have hr : 0 ≤ n ∧ n ≤ 65535 := by unfold Ru.num at hn; simpa using hn
  have hc := hid (itoa_any (w := w) n (by omega) (by omega) h.tab)
  clear h hn hr
  go_enter Tryz.func62, Tryz.ntmps62
  go_wp2_with fail
  refine hc.out.mono ?_
  rintro e w1 ⟨rfl, hb⟩
  have Q := hid hb
  clear hb
  go_wp2_with fail
  go_ret
  exact ⟨rfl, Q.out⟩

def bts (ws : List ByteArray) : List Lx.Bytes := ws.map (·.data.toList)
theorem bts_snoc (ws : List ByteArray) (s : ByteArray) : bts (ws ++ [s]) = bts ws ++ [s.data.toList] := by unfold bts; simp
theorem put_app (l m : List Lx.Bytes) : Pt.put (l ++ m) = Pt.put l ++ Pt.put m := by unfold Pt.put; simp
theorem put_one (s : Lx.Bytes) : Pt.put [s] = 32 :: s := by unfold Pt.put; simp
theorem put_take {ws : List ByteArray} {k : Nat} (h : k < ws.length) : Pt.put (bts (ws.take (k + 1))) = Pt.put (bts (ws.take k)) ++ ([32] ++ ws[k].data.toList) := by
  rw [(List.take_append_getElem h).symm, bts_snoc, put_app, put_one]; rfl
theorem put_le {ws : List ByteArray} {k : Nat} (h : k < ws.length) : (Pt.put (bts (ws.take k))).length + 1 + ws[k].size ≤ (Pt.put (bts ws)).length := by
  have e : bts ws = bts (ws.take (k + 1)) ++ bts (ws.drop (k + 1)) := by unfold bts; rw [← List.map_append, List.take_append_drop]
  rw [e, put_app, put_take h, List.length_append, List.length_append, List.length_append]
  have : ws[k].data.toList.length = ws[k].size := by rw [Array.length_toList]; rfl
  rw [this, List.length_singleton]
  omega

theorem put_ge (ws : List ByteArray) : ws.length ≤ (Pt.put (bts ws)).length := by
  induction ws with
  | nil => exact Nat.zero_le _
  | cons s ws ih =>
    have e : Pt.put (bts (s :: ws)) = Pt.put [s.data.toList] ++ Pt.put (bts ws) := by rw [← put_app]; rfl
    rw [e, put_one, List.length_append, List.length_cons, List.length_cons]
    omega
set_option maxRecDepth 100000 in
set_option maxHeartbeats 2000000 in
theorem put_any {B b g : Nat} {l : List UInt8} {w : World} {ws : List ByteArray} (h : WB B b l w) (hg : Blk w g (ws.map Value.string).toArray 9) (hgb : g ≠ b) (hlen : l.length + (Pt.put (bts ws)).length ≤ 140737488355328) (n c : Nat) (hn : n = ws.length) :
    Calls Tryz.prog 61 #[.pointer (some ⟨b, 0, none⟩), .slice (some ⟨g, 0, none⟩) n c] w fun e w' => e = .returned (.tuple #[]) ∧ WB B b (l ++ Pt.put (bts ws)) w' ∧ Wrote B b w w' := by
  subst hn
  have hsm : ws.length ≤ 140737488355328 := by have := put_ge ws; omega
  have h' := hid h
  have hg' := hid hg
  have hlen' := hid hlen
  have hst := hid (show WB B b (l ++ Pt.put (bts (ws.take 0))) w by rw [List.take_zero]; show WB B b (l ++ []) w; rw [List.append_nil]; exact h)
  clear h hg hlen
  go_enter Tryz.func61, Tryz.ntmps61
  go_wp2_with fail
  go_loopw [8] (fun u wr => ∃ k : Nat, u = .int .i64 k ∧ k ≤ ws.length ∧ WB B b (l ++ Pt.put (bts (ws.take k))) wr ∧ Wrote B b w wr) (fun u _ => ws.length - (intOf u).toNat)
  case atStart => exact ⟨0, rfl, Nat.zero_le _, hst.out, Wrote.refl _ _ _⟩
  case round =>
    obtain ⟨k, rfl, hle, hB, hW⟩ := hrel
    have hB' := hid hB
    have hW' := hid hW
    clear hB hW hst
    by_cases hlt : k < ws.length
    · have k0 : (0 : Int) ≤ k := by omega
      have k1 : (k : Int) < ws.length := by omega
      have hpl := put_le hlt
      have hpt := hid (put_take hlt)
      have c0 := (hg'.out.wrote hW'.out hgb (by decide)).cell k (v := .string ws[k]) (by simp [hlt])
      have hll := hlen'.out
      have hl1 : Hid ((l ++ Pt.put (bts (ws.take k))).length + (⟨#[32]⟩ : ByteArray).size ≤ 140737488355328) := hid (by rw [List.length_append]; show _ + 1 ≤ _; omega)
      have hl2 : Hid (((l ++ Pt.put (bts (ws.take k))) ++ (⟨#[32]⟩ : ByteArray).data.toList).length + ws[k].size ≤ 140737488355328) := hid (by rw [List.length_append, List.length_append]; show _ + 1 + _ ≤ _; omega)
      clear hll hpl
      generalize ws[k] = s at *
      go_wp2_with fail
      refine (bwrite_any hB'.out ⟨#[32]⟩ hl1.out).mono ?_
      rintro e w1 ⟨rfl, h1, q1⟩
      have H1 := hid h1
      have Q1 := hid (hW'.out.trans q1)
      clear h1 q1 c0 hl1
      go_wp2_with fail
      refine (bwrite_any H1.out s hl2.out).mono ?_
      rintro e w2 ⟨rfl, h2, q2⟩
      have H2 := hid h2
      have Q2 := hid (Q1.out.trans q2)
      clear h2 q2 hl2
      go_wp2_with fail
      go_roundw
      case rel => exact ⟨k + 1, by go_num, by omega, by rw [hpt.out, ← List.append_assoc, ← List.append_assoc]; exact H2.out, Q2.out⟩
      case measure => simp [intOf]; omega
    · obtain rfl : k = ws.length := by omega
      have hE := hid (show WB B b (l ++ Pt.put (bts ws)) wr by have h := hB'.out; rwa [List.take_of_length_le (Nat.le_refl _)] at h)
      clear hB'
      go_wp2_with fail
      go_end0
      exact ⟨rfl, hE.out, hW'.out⟩

/-- the words that a building lays -/
theorem put1_any {B b : Nat} {l : List UInt8} {w : World} (h : WB B b l w) (s : ByteArray) (hlen : l.length + (1 + s.size) ≤ 140737488355328) (k : Nat) (hk : k = w.heap.size) :
    Calls Tryz.prog 61 #[.pointer (some ⟨b, 0, none⟩), .slice (some ⟨k, 0, none⟩) 1 1] (w.alloc (.cells #[.string s] 9)) fun e w' => e = .returned (.tuple #[]) ∧ WB B b (l ++ Pt.put [s.data.toList]) w' ∧ Wrote B b w w' := by
  have hz := balloc w (.cells #[.string s] 9)
  have hlt := h.lt
  have hs : s.data.toList.length = s.size := by rw [Array.length_toList]; rfl
  refine (put_any (ws := [s]) (h.ext hz) (Blk.newAt hk #[.string s] _) (by omega) (by rw [show bts [s] = [s.data.toList] from rfl, put_one, List.length_cons, hs]; omega) 1 1 rfl).mono ?_
  rintro e w' ⟨h1, h2, h3⟩
  exact ⟨h1, h2, (Wrote.ext h.le hz).trans h3⟩
theorem put2_any {B b : Nat} {l : List UInt8} {w : World} (h : WB B b l w) (s t : ByteArray) (hlen : l.length + (2 + s.size + t.size) ≤ 140737488355328) (k : Nat) (hk : k = w.heap.size) :
    Calls Tryz.prog 61 #[.pointer (some ⟨b, 0, none⟩), .slice (some ⟨k, 0, none⟩) 2 2] (w.alloc (.cells #[.string s, .string t] 9)) fun e w' => e = .returned (.tuple #[]) ∧ WB B b (l ++ Pt.put [s.data.toList, t.data.toList]) w' ∧ Wrote B b w w' := by
  have hz := balloc w (.cells #[.string s, .string t] 9)
  have hlt := h.lt
  have hs : s.data.toList.length = s.size := by rw [Array.length_toList]; rfl
  have ht : t.data.toList.length = t.size := by rw [Array.length_toList]; rfl
  refine (put_any (ws := [s, t]) (h.ext hz) (Blk.newAt hk #[.string s, .string t] _) (by omega) (by rw [show bts [s, t] = [s.data.toList] ++ [t.data.toList] from rfl, put_app, put_one, put_one, List.length_append, List.length_cons, List.length_cons, hs, ht]; omega) 2 2 rfl).mono ?_
  rintro e w' ⟨h1, h2, h3⟩
  exact ⟨h1, h2, (Wrote.ext h.le hz).trans h3⟩
theorem put3_any {B b : Nat} {l : List UInt8} {w : World} (h : WB B b l w) (s t u : ByteArray) (hlen : l.length + (3 + s.size + t.size + u.size) ≤ 140737488355328) (k : Nat) (hk : k = w.heap.size) :
    Calls Tryz.prog 61 #[.pointer (some ⟨b, 0, none⟩), .slice (some ⟨k, 0, none⟩) 3 3] (w.alloc (.cells #[.string s, .string t, .string u] 9)) fun e w' => e = .returned (.tuple #[]) ∧ WB B b (l ++ Pt.put [s.data.toList, t.data.toList, u.data.toList]) w' ∧ Wrote B b w w' := by
  have hz := balloc w (.cells #[.string s, .string t, .string u] 9)
  have hlt := h.lt
  have hs : s.data.toList.length = s.size := by rw [Array.length_toList]; rfl
  have ht : t.data.toList.length = t.size := by rw [Array.length_toList]; rfl
  have hu : u.data.toList.length = u.size := by rw [Array.length_toList]; rfl
  refine (put_any (ws := [s, t, u]) (h.ext hz) (Blk.newAt hk #[.string s, .string t, .string u] _) (by omega) (by rw [show bts [s, t, u] = ([s.data.toList] ++ [t.data.toList]) ++ [u.data.toList] from rfl, put_app, put_app, put_one, put_one, put_one, List.length_append, List.length_append, List.length_cons, List.length_cons, List.length_cons, hs, ht, hu]; omega) 3 3 rfl).mono ?_
  rintro e w' ⟨h1, h2, h3⟩
  exact ⟨h1, h2, (Wrote.ext h.le hz).trans h3⟩
theorem put4_any {B b : Nat} {l : List UInt8} {w : World} (h : WB B b l w) (s t u v : ByteArray) (hlen : l.length + (4 + s.size + t.size + u.size + v.size) ≤ 140737488355328) (k : Nat) (hk : k = w.heap.size) :
    Calls Tryz.prog 61 #[.pointer (some ⟨b, 0, none⟩), .slice (some ⟨k, 0, none⟩) 4 4] (w.alloc (.cells #[.string s, .string t, .string u, .string v] 9)) fun e w' => e = .returned (.tuple #[]) ∧ WB B b (l ++ Pt.put [s.data.toList, t.data.toList, u.data.toList, v.data.toList]) w' ∧ Wrote B b w w' := by
  have hz := balloc w (.cells #[.string s, .string t, .string u, .string v] 9)
  have hlt := h.lt
  have hs : s.data.toList.length = s.size := by rw [Array.length_toList]; rfl
  have ht : t.data.toList.length = t.size := by rw [Array.length_toList]; rfl
  have hu : u.data.toList.length = u.size := by rw [Array.length_toList]; rfl
  have hv : v.data.toList.length = v.size := by rw [Array.length_toList]; rfl
  refine (put_any (ws := [s, t, u, v]) (h.ext hz) (Blk.newAt hk #[.string s, .string t, .string u, .string v] _) (by omega) (by rw [show bts [s, t, u, v] = (([s.data.toList] ++ [t.data.toList]) ++ [u.data.toList]) ++ [v.data.toList] from rfl, put_app, put_app, put_app, put_one, put_one, put_one, put_one, List.length_append, List.length_append, List.length_append, List.length_cons, List.length_cons, List.length_cons, List.length_cons, hs, ht, hu, hv]; omega) 4 4 rfl).mono ?_
  rintro e w' ⟨h1, h2, h3⟩
  exact ⟨h1, h2, (Wrote.ext h.le hz).trans h3⟩

end Go.Proofs.YteddkgpnklfppaaGreatDoor
