/-
  What comes in, read under the bound of the second form: declarations.
  The walk of PolicyBack.
-/
import Derived.Test.YtnoieobjfihbeaaDoorPk20
import Derived.Test.YtnoieobjfihbeaaDoorPk18

namespace Go.Proofs.YtnoieobjfihbeaaDoor
open Go.ChangeShapes Go.WideShapes Go.RowKit

theorem bulk_one {H : Type} (d : DataW H) : 1 ≤ Rows.uptoBulk d := by
  cases d with
  | lit l => cases l <;> simp [Rows.uptoBulk]
  | nil => simp [Rows.uptoBulk]
  | ptr d => simp [Rows.uptoBulk]
  | slice elems spare => simp [Rows.uptoBulk]
  | agg parts => simp [Rows.uptoBulk]
  | iface t d => simp [Rows.uptoBulk]
  | map entries => simp [Rows.uptoBulk]
  | held h => simp [Rows.uptoBulk]
theorem bulk_len {H : Type} (l : List (DataW H)) : l.length ≤ Rows.uptoBulkAll l := by
  induction l with
  | nil => simp [Rows.uptoBulkAll]
  | cons d l ih => have := bulk_one d; simp only [List.length_cons, Rows.uptoBulkAll]; omega
theorem bulk_part {H : Type} {d : DataW H} {l : List (DataW H)} (h : d ∈ l) : Rows.uptoBulk d ≤ Rows.uptoBulkAll l := by
  induction l with
  | nil => cases h
  | cons x r ih =>
    simp only [Rows.uptoBulkAll]
    rcases List.mem_cons.1 h with e | e
    · subst e; omega
    · have := ih e; omega

section
variable {H : Type} {enc : TypeId × Value → H} {w : World} {base : Nat} {spare : Nat → Bool} {held : Bool} {fuel : Nat} {x : DataW H × List MemPlace}
theorem rects_bulk {p : Option Addr} {n c : Nat} (h : DataW.trod enc Tryd.prog w base spare held fuel 40 [.slice p n c] = some x) : n ≤ Rows.uptoBulk x.1 := by
  rcases Go.Deep.open_slice Tryd.underlying40 h with ⟨hcs, _⟩ | ⟨a, len, cap, m, nn, D, Pl, hcs, hb, hl, hm, hmm, hd, hx⟩
  · simp only [List.cons.injEq, and_true, Value.slice.injEq] at hcs
    rw [hcs.2.1]
    exact Nat.zero_le _
  · simp only [List.cons.injEq, and_true, Value.slice.injEq] at hcs
    have hd1 := congrArg Prod.fst hd
    simp only at hd1
    rw [hd1, hcs.2.1]
    have := bulk_len ((List.range len).map D)
    simp only [List.length_map, List.length_range] at this
    simp only [Rows.uptoBulk]
    omega
set_option maxRecDepth 100000 in
theorem decl_bulk {d : Po.Decl} {v : Value} (h : DataW.trod enc Tryd.prog w base spare held fuel 44 (declCells d v).toList = some x) (hv : BRow w v d.boxes) : d.boxes.length ≤ Rows.uptoBulk x.1 := by
  obtain ⟨hl, parts, n, hx1, hp⟩ := struct_part Tryd.underlying44 h
  obtain ⟨y3, h3, p3⟩ := hp 3 _ rfl
  have h3 : DataW.trod enc Tryd.prog w base spare held n 40 (((declCells d v).toList.drop 3).take (Tryd.prog.cellsOf 40)) = some y3 := h3
  rw [cellsRects] at h3
  obtain ⟨p, c, rfl⟩ := hv.shape
  have h4 : DataW.trod enc Tryd.prog w base spare held n 40 [.slice p d.boxes.length c] = some y3 := h3
  have h5 := rects_bulk h4
  have h6 := bulk_part (List.mem_of_getElem? p3)
  rw [hx1]
  simp only [Rows.uptoBulk]
  omega
set_option maxRecDepth 100000 in
theorem rd_declsU {v : Value} {d : DataW H} {ps : List MemPlace} (hval : Value.okWide Tryd.prog w .any base 22 v) (h : DataW.Trod enc Tryd.prog w 0 spare held 22 v d ps) (hs : Within Tryd.prog 22 d) :
    ∃ l : List Po.Decl, DSl w v l ∧ l.length ≤ 140737488355328 ∧ ∀ r ∈ l, DSmall r ∧ r.boxes.length ≤ Rows.uptoBulk d := by
  obtain ⟨va, vl, vc, rfl⟩ := okWide_slice Tryd.underlying22 hval
  obtain ⟨fuel, hf⟩ := h
  have hcl : (Value.slice va vl vc).cells.toList = [.slice va vl vc] := by simp [Value.cells]
  rw [hcl] at hf
  rcases Go.Deep.open_slice Tryd.underlying22 hf with ⟨hcs, _⟩ | ⟨a, len, cap, m, n, D, Pl, hcs, hb, hl, hm, hmm, hd, hx⟩
  · simp only [List.cons.injEq, and_true] at hcs
    exact ⟨[], .inl ⟨hcs, rfl⟩, by simp, by simp⟩
  · simp only [List.cons.injEq, and_true] at hcs
    obtain ⟨rfl, rfl, rfl⟩ : some a = va ∧ len = vl ∧ cap = vc := by simp only [Value.slice.injEq] at hcs; exact ⟨hcs.1.symm, hcs.2.1.symm, hcs.2.2.symm⟩
    have hd1 := congrArg Prod.fst hd
    simp only at hd1
    subst hd1
    obtain ⟨hbytes, hel⟩ := hs.slice Tryd.underlying22
    have hlen : len * 200 ≤ reachBytes := Nat.le_trans (Nat.mul_le_mul_left len bytesDecl) (by simpa using hbytes)
    clear hbytes
    rw [cellsDecl] at hx
    by_cases h0 : len = 0
    · subst h0
      have hval' := hval
      simp only [Value.okWide, Tryd.underlying22, Cell.okWide, Cell.ok] at hval'
      obtain ⟨_, _, hhas⟩ := hval'
      obtain ⟨_, hsp, row, cells, hshape, _⟩ := hhas
      obtain ⟨g, off, sp⟩ := a
      simp only at hsp hshape
      subst hsp
      refine ⟨[], .inr ⟨g, off, cap, rfl, Nat.zero_le _, ?_, fun i hi => by simp at hi⟩, by simp, by simp⟩
      unfold World.shape? at hshape
      rcases Nat.lt_or_ge g w.heap.size with hlt | hge
      · exact hlt
      · rw [Array.getElem?_eq_none hge] at hshape; cases hshape
    · have hml : len ≤ m := by rw [hmm]; split <;> omega
      obtain ⟨f, hf2⟩ := Go.Deep.choose_lt (α := Po.Decl × Value) (n := len) (p := fun i q => w.cells? 0 (a.add (i * 24)) 24 = some (declCells q.1 q.2).toList ∧ BRow w q.2 q.1.boxes ∧ DSmall q.1 ∧ q.1.boxes.length ≤ Rows.uptoBulk (D i)) (fun i hi => by
        obtain ⟨cs', h1, h2⟩ := hx i (by omega)
        obtain ⟨r, v, rfl, h3, h4⟩ := rd_decl h2 (hel (D i) (List.mem_map.2 ⟨i, List.mem_range.2 hi, rfl⟩))
        exact ⟨(r, v), h1, h3, h4, decl_bulk h2 h3⟩)
      obtain ⟨g, off, rfl, hg, hr⟩ := rows_at (by omega) (by decide) (fun i => (declCells (f i).1 (f i).2).toList) (fun i hi => (hf2 i hi).1)
      refine ⟨(List.range len).map fun i => (f i).1, .inr ⟨g, off, cap, by simp, by simpa using hl, hg, fun i hi => ?_⟩, by simp only [List.length_map, List.length_range]; unfold reachBytes at hlen; omega, fun r hr' => ?_⟩
      · simp only [List.length_map, List.length_range] at hi
        obtain ⟨_, h3, h4, _⟩ := hf2 i hi
        simp only [List.getElem_map, List.getElem_range]
        exact ⟨(f i).2, (hr i hi).2, h3⟩
      · obtain ⟨i, hi, rfl⟩ := List.mem_map.1 hr'
        have h9 := hf2 i (List.mem_range.1 hi)
        refine ⟨h9.2.2.1, Nat.le_trans h9.2.2.2 ?_⟩
        simp only [Rows.uptoBulk]
        have := bulk_part (show D i ∈ (List.range len).map D from List.mem_map.2 ⟨i, hi, rfl⟩)
        omega
end

end Go.Proofs.YtnoieobjfihbeaaDoor

namespace Go.Proofs.YtnoieobjfihbeaaDoor
open Go.RowKit Go.Sort

set_option maxRecDepth 100000 in
set_option maxHeartbeats 4000000 in
theorem back_walk {w : World} {v : Value} {l : List Po.Decl} (h : DSl w v l) (hn : l.length ≤ 140737488355328) (hs : ∀ d ∈ l, DSmall d) (hlines : l.length ≤ 200 → l.all Ru.may = true → (l.flatMap Pt.lineB).length ≤ 140737488355328) (ht : TabU w) :
    Calls Tryd.prog 4 #[v] w fun e w' => e = .returned (.bool true) ∧ Below w.heap.size w w' := by
  have hkn := known_from ht
  have hds := hid h
  have hs' := hid hs
  have hpr := hid (pright_any h hn hs)
  obtain ⟨vp, vc, rfl⟩ := h.shape
  clear h hs
  by_cases hL : 200 < l.length
  · have hL' : (200 : Int) < l.length := by omega
    clear hpr hds ht
    go_enter Tryd.func4, Tryd.ntmps4
    go_wp2_with fail
    refine (hkn.out _ (Below.refl _ _)).mono ?_
    rintro e w2 ⟨rfl, hb2⟩
    have Q2 := hid hb2
    clear hb2
    go_wp2_with fail
    go_ret
    exact ⟨rfl, Q2.out⟩
  have hd1 : decide ((200 : Int) < l.length) = false := decide_eq_false (by omega)
  have hlines' := hid (hlines (by omega))
  clear hlines
  cases ha : l.all Ru.may with
  | false =>
    rw [ha] at hpr
    clear ha hlines' ht hL
    go_enter Tryd.func4, Tryd.ntmps4
    go_wp2_with fail
    refine hpr.out.mono ?_
    rintro e w1 ⟨rfl, hb1⟩
    have Q1 := hid hb1
    clear hb1
    go_wp2_with fail
    refine (hkn.out _ Q1.out).mono ?_
    rintro e w2 ⟨rfl, hb2⟩
    have Q2 := hid hb2
    clear hb2
    go_wp2_with fail
    go_ret
    exact ⟨rfl, Q2.out⟩
  | true =>
    rw [ha] at hpr
    have hll := hlines'.out ha
    have hmay : ∀ d ∈ l, Ru.may d = true := List.all_eq_true.1 ha
    have hpm := Pt.print_may hmay
    obtain ⟨t, htx⟩ : ∃ t : ByteArray, t = ⟨(Pt.printB l).toArray⟩ := ⟨_, rfl⟩
    have htl : t.data.toList = l.flatMap Pt.lineB := by rw [htx, txt_bytes, hpm]
    have hts : t.size = (l.flatMap Pt.lineB).length := by rw [← dat_size, htl]
    have hprt : Hid (∀ (w1 : World), Below w.heap.size w w1 → Calls Tryd.prog 12 #[.slice vp l.length vc] w1 fun e w' => e = .returned (.string t) ∧ Below w1.heap.size w1 w') := hid (fun w1 hb => by
      rw [htx]; exact print_any (hds.out.ext hb) hn hs'.out (tab_ext ht hb) (fun _ => hll))
    have hpt : Hid (∀ w1 : World, Calls Tryd.prog 13 #[.string t] w1 fun e w' => ParsePost t.data.toList e w' ∧ Below w1.heap.size w1 w') := hid (fun w1 => parse_any t w1 (by rw [hts]; exact hll))
    have hmay' := hid hmay
    clear hll hmay hpm htx hlines' ha ht hL
    by_cases h512 : 512 < t.size
    · have hbad := hid (show Po.parse t.data.toList = .error (2, 1, 1) from by rw [htl]; exact Pt.parse_long (by rw [← hts]; exact h512))
      have h512' : (512 : Int) < t.size := by omega
      clear htl hts
      go_enter Tryd.func4, Tryd.ntmps4
      go_wp2_with fail
      refine hpr.out.mono ?_
      rintro e w1 ⟨rfl, hb1⟩
      have Q1 := hid hb1
      clear hb1
      go_wp2_with fail
      refine (hprt.out _ Q1.out).mono ?_
      rintro e w2 ⟨rfl, hb2⟩
      have Q2 := hid (bthen Q1.out hb2)
      clear hb2 Q1
      go_wp2_with fail
      refine (hpt.out _).mono ?_
      unfold ParsePost
      rw [hbad.out]
      rintro e w3 ⟨⟨rfl, _⟩, hb3⟩
      have z3 := balloc w3 (.cells #[.int .i64 2, .int .i64 1, .int .i64 1] 32)
      have Q3 := hid (bthen (bthen Q2.out hb3) z3)
      clear hb3 z3 Q2
      go_wp2_with fail
      refine (hkn.out _ Q3.out).mono ?_
      rintro e w6 ⟨rfl, hb6⟩
      have Q6 := hid hb6
      clear hb6
      go_wp2_with fail
      go_ret
      exact ⟨rfl, Q6.out⟩
    · obtain ⟨es, hes, hun⟩ := Pt.parse_print hmay'.out (by omega)
      rw [← htl] at hes
      have hes' := hid hes
      have hun' := hid hun
      obtain ⟨hel, hesm, _⟩ := read1 hes
      have hesm' := hid hesm
      have h512' : ¬ ((512 : Int) < t.size) := by omega
      clear htl hts hes hun hesm
      go_enter Tryd.func4, Tryd.ntmps4
      go_wp2_with fail
      refine hpr.out.mono ?_
      rintro e w1 ⟨rfl, hb1⟩
      have Q1 := hid hb1
      clear hb1
      go_wp2_with fail
      refine (hprt.out _ Q1.out).mono ?_
      rintro e w2 ⟨rfl, hb2⟩
      have Q2 := hid (bthen Q1.out hb2)
      clear hb2 Q1
      go_wp2_with fail
      refine (hpt.out _).mono ?_
      unfold ParsePost
      rw [hes'.out]
      rintro e w3 ⟨⟨v3, vs3, rfl, hds3⟩, hb3⟩
      have z3 := balloc w3 (.cells #[.int .i64 0, .int .i64 0, .int .i64 0] 32)
      have Q3 := hid (bthen (bthen Q2.out hb3) z3)
      have D3 := hid (hds.out.ext Q3.out)
      have E3 := hid (hds3.sl.ext z3)
      obtain ⟨vp3, vc3, rfl⟩ := hds3.sl.shape
      clear hb3 z3 Q2 hds3
      go_wp2_with fail
      refine (psame_false E3.out D3.out hun'.out (by omega) hesm'.out).mono ?_
      rintro e w5 ⟨rfl, hb5⟩
      have Q5 := hid (bthen Q3.out hb5)
      clear hb5 D3 E3 Q3
      go_wp2_with fail
      refine (hkn.out _ Q5.out).mono ?_
      rintro e w7 ⟨rfl, hb7⟩
      have Q7 := hid hb7
      clear hb7
      go_wp2_with fail
      go_ret
      exact ⟨rfl, Q7.out⟩

end Go.Proofs.YtnoieobjfihbeaaDoor
