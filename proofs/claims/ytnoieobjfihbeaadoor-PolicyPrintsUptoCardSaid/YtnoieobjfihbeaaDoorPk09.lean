/-
  The walks of the policy's reader: box, boxes.
  The walks of the policy's reader: named, region, cloak, rule: each fills a declaration.
  Whole structs by value: laid into a block, stored, loaded, handed back, without a look at their cells.
-/
import Derived.Test.YtnoieobjfihbeaaDoorPk08
import Derived.Test.YtnoieobjfihbeaaDoorPk05
import Derived.Great.BuildSlice
import Derived.Deep.MidRow
import Derived.Deep.WholeRow

namespace Go.Proofs.YtnoieobjfihbeaaDoor
open Go.RowKit Go.Sort

theorem Blk.four {w : World} {b : Nat} {x y z u : Value} {t : TypeId} (h : Blk w b #[x, y, z, u] t) : w.cell? ⟨b, 0, none⟩ = some x ∧ w.cell? ⟨b, 1, none⟩ = some y ∧ w.cell? ⟨b, 2, none⟩ = some z ∧ w.cell? ⟨b, 3, none⟩ = some u ∧ (∀ o, w.frozen? ⟨b, o, none⟩ = false) ∧ b < w.heap.size :=
  ⟨h.cell 0 rfl, h.cell 1 rfl, h.cell 2 rfl, h.cell 3 rfl, h.free, h.lt⟩
def pboxV (x : Po.Box) : Value := .agg #[.int .i64 x.x0, .int .i64 x.y0, .int .i64 x.x1, .int .i64 x.y1]

set_option maxRecDepth 100000 in
set_option maxHeartbeats 4000000 in
theorem pbox_any {w : World} {b : Nat} {pa : Option Addr} {cp : Nat} {T : List Lx.Tok} {e : Nat × Nat} {st : Po.St} (h : PRd w b pa cp T e st) :
    Calls Tryd.prog 96 #[.pointer (some ⟨b, 0, none⟩)] w fun en w' => en = .returned (pboxV (Po.boxV T e st)) ∧ PRd w' b pa cp T e (Po.boxS T e st) ∧ Touch b w w' := by
  have h' := hid h
  have hblt : b < w.heap.size := h.blk.lt
  have hn1 := Nat.le_refl w.heap.size
  have hn2 : w.heap.size ≤ w.heap.size + 1 := by omega
  have hnb : w.heap.size ≠ b := by omega
  have hnb1 : w.heap.size + 1 ≠ b := by omega
  have hne : w.heap.size ≠ w.heap.size + 1 := by omega
  have hne' : w.heap.size + 1 ≠ w.heap.size := by omega
  have hz1 := balloc w (.cells #[.int .i64 0, .int .i64 0, .int .i64 0, .int .i64 0] 73)
  have hz2 := balloc (w.alloc (.cells #[.int .i64 0, .int .i64 0, .int .i64 0, .int .i64 0] 73)) (.cells #[.int .i64 0, .int .i64 0, .int .i64 0, .int .i64 0] 119)
  have ha := hid ((h.ext hz1).ext hz2)
  have qa := hid ((Touch.of_below (b := b) hz1).below hz2)
  have ra := hid ((Blk.new w #[.int .i64 0, .int .i64 0, .int .i64 0, .int .i64 0] 73).ext hz2)
  have ba := hid (Blk.newAt (w := w.alloc (.cells #[.int .i64 0, .int .i64 0, .int .i64 0, .int .i64 0] 73)) (k := w.heap.size + 1) (by simp) #[.int .i64 0, .int .i64 0, .int .i64 0, .int .i64 0] 119)
  clear h hz1 hz2
  go_enter Tryd.func96, Tryd.ntmps96
  go_wp2_with fail
  go_loopg [5] 4 (fun g u wr => ∃ k : Nat, u = .int .i64 k ∧ k + g = 4 ∧ PRd wr b pa cp T e (Po.nth T e st k) ∧
    Blk wr (w.heap.size + 1) #[.int .i64 (Po.upto T e st k 0), .int .i64 (Po.upto T e st k 1), .int .i64 (Po.upto T e st k 2), .int .i64 (Po.upto T e st k 3)] 119 ∧ Blk wr w.heap.size #[.int .i64 0, .int .i64 0, .int .i64 0, .int .i64 0] 73 ∧ Touch b w wr)
  case atStart => exact ⟨0, rfl, rfl, ha.out, ba.out, ra.out, qa.out⟩
  case round =>
    obtain ⟨k, rfl, hk, hP, hB, hR, hQ⟩ := hrel
    have hk5 : k = 0 ∨ k = 1 ∨ k = 2 ∨ k = 3 ∨ k = 4 := by omega
    rcases hk5 with rfl | rfl | rfl | rfl | rfl
    · have hB2 := hid (show Blk wr (w.heap.size + 1) #[.int .i64 (0 : Nat), .int .i64 (0 : Nat), .int .i64 (0 : Nat), .int .i64 (0 : Nat)] 119 from hB)
      have hP' := hid hP
      have hR' := hid hR
      have hQ' := hid hQ
      clear hB hP hR hQ
      go_wp2_with fail
      refine (pnumber_any hP'.out).mono ?_
      rintro en w2 ⟨rfl, h2, t2⟩
      have h2' := hid h2
      have q2 := hid (hQ'.out.trans t2)
      have b2 := hid (hB2.out.touch t2 hnb1)
      have r2 := hid (hR'.out.touch t2 hnb)
      clear h2 t2
      obtain ⟨y0, y1, y2, y3, yf, yz⟩ := b2.out.four
      go_wp2_with fail
      go_roundg 3
      case measure => omega
      case rel => exact ⟨1, rfl, rfl, (by simp only [PRd.setOld_iff h'.out hn2]; exact h2'.out), b2.out.set 0 _, r2.out.setOther hne _ _, (by simp only [Touch.setNew_iff hn2]; exact q2.out)⟩
    · have hB2 := hid (show Blk wr (w.heap.size + 1) #[.int .i64 (Po.num T e st 0 : Nat), .int .i64 (0 : Nat), .int .i64 (0 : Nat), .int .i64 (0 : Nat)] 119 from hB)
      have hP' := hid hP
      have hR' := hid hR
      have hQ' := hid hQ
      clear hB hP hR hQ
      go_wp2_with fail
      refine (pnumber_any hP'.out).mono ?_
      rintro en w2 ⟨rfl, h2, t2⟩
      have h2' := hid h2
      have q2 := hid (hQ'.out.trans t2)
      have b2 := hid (hB2.out.touch t2 hnb1)
      have r2 := hid (hR'.out.touch t2 hnb)
      clear h2 t2
      obtain ⟨y0, y1, y2, y3, yf, yz⟩ := b2.out.four
      go_wp2_with fail
      go_roundg 2
      case measure => omega
      case rel => exact ⟨2, rfl, rfl, (by simp only [PRd.setOld_iff h'.out hn2]; exact h2'.out), b2.out.set 1 _, r2.out.setOther hne _ _, (by simp only [Touch.setNew_iff hn2]; exact q2.out)⟩
    · have hB2 := hid (show Blk wr (w.heap.size + 1) #[.int .i64 (Po.num T e st 0 : Nat), .int .i64 (Po.num T e st 1 : Nat), .int .i64 (0 : Nat), .int .i64 (0 : Nat)] 119 from hB)
      have hP' := hid hP
      have hR' := hid hR
      have hQ' := hid hQ
      clear hB hP hR hQ
      go_wp2_with fail
      refine (pnumber_any hP'.out).mono ?_
      rintro en w2 ⟨rfl, h2, t2⟩
      have h2' := hid h2
      have q2 := hid (hQ'.out.trans t2)
      have b2 := hid (hB2.out.touch t2 hnb1)
      have r2 := hid (hR'.out.touch t2 hnb)
      clear h2 t2
      obtain ⟨y0, y1, y2, y3, yf, yz⟩ := b2.out.four
      go_wp2_with fail
      go_roundg 1
      case measure => omega
      case rel => exact ⟨3, rfl, rfl, (by simp only [PRd.setOld_iff h'.out hn2]; exact h2'.out), b2.out.set 2 _, r2.out.setOther hne _ _, (by simp only [Touch.setNew_iff hn2]; exact q2.out)⟩
    · have hB2 := hid (show Blk wr (w.heap.size + 1) #[.int .i64 (Po.num T e st 0 : Nat), .int .i64 (Po.num T e st 1 : Nat), .int .i64 (Po.num T e st 2 : Nat), .int .i64 (0 : Nat)] 119 from hB)
      have hP' := hid hP
      have hR' := hid hR
      have hQ' := hid hQ
      clear hB hP hR hQ
      go_wp2_with fail
      refine (pnumber_any hP'.out).mono ?_
      rintro en w2 ⟨rfl, h2, t2⟩
      have h2' := hid h2
      have q2 := hid (hQ'.out.trans t2)
      have b2 := hid (hB2.out.touch t2 hnb1)
      have r2 := hid (hR'.out.touch t2 hnb)
      clear h2 t2
      obtain ⟨y0, y1, y2, y3, yf, yz⟩ := b2.out.four
      go_wp2_with fail
      go_roundg 0
      case measure => omega
      case rel => exact ⟨4, rfl, rfl, (by simp only [PRd.setOld_iff h'.out hn2]; exact h2'.out), b2.out.set 3 _, r2.out.setOther hne _ _, (by simp only [Touch.setNew_iff hn2]; exact q2.out)⟩
    · have hB2 := hid (show Blk wr (w.heap.size + 1) #[.int .i64 (Po.num T e st 0 : Nat), .int .i64 (Po.num T e st 1 : Nat), .int .i64 (Po.num T e st 2 : Nat), .int .i64 (Po.num T e st 3 : Nat)] 119 from hB)
      have hP' := hid hP
      have hR' := hid hR
      have hQ' := hid hQ
      clear hB hP hR hQ
      obtain ⟨y0, y1, y2, y3, yf, yz⟩ := hB2.out.four
      obtain ⟨x0, x1, x2, x3, xf, xz⟩ := hR'.out.four
      go_wp2_with fail
      exact bodyPost_ret (v := .agg #[.int .i64 (Po.num T e st 0 : Nat), .int .i64 (Po.num T e st 1 : Nat), .int .i64 (Po.num T e st 2 : Nat), .int .i64 (Po.num T e st 3 : Nat)]) (by simp [results, Tryd.results96, go_sem, x0, x1, x2, x3]) rfl ⟨rfl, (by simp only [PRd.setOld_iff h'.out hn1]; exact hP'.out), (by simp only [Touch.setNew_iff hn1]; exact hQ'.out)⟩

theorem Tryd.infoRect : (Tryd.prog.info? 73).map (fun i => (i.zero, i.size, i.bytes)) = some (some (.agg #[.int .i64 0, .int .i64 0, .int .i64 0, .int .i64 0]), 4, 32) := by kernel_rfl
def boxCells (x : Po.Box) : List Value := [.int .i64 x.x0, .int .i64 x.y0, .int .i64 x.x1, .int .i64 x.y1]
def boxesCells (l : List Po.Box) : List Value := l.flatMap boxCells
theorem boxesCells_snoc (l : List Po.Box) (x : Po.Box) : boxesCells (l ++ [x]) = boxesCells l ++ boxCells x := by simp [boxesCells, boxCells]
theorem boxCells_one (x : Po.Box) : ∀ u ∈ boxCells x, u.oneCell' = true := by
  intro u hu
  simp only [boxCells, List.mem_cons, List.not_mem_nil, or_false] at hu
  rcases hu with rfl | rfl | rfl | rfl <;> rfl

set_option maxRecDepth 100000 in
set_option maxHeartbeats 4000000 in
theorem pboxes_any {w : World} {b : Nat} {pa : Option Addr} {cp : Nat} {T : List Lx.Tok} {e : Nat × Nat} {st : Po.St} (h : PRd w b pa cp T e st) :
    Calls Tryd.prog 89 #[.pointer (some ⟨b, 0, none⟩)] w fun en w' => ∃ v, en = .returned v ∧ Row w' v (Po.boxesV T e st).length 4 (boxesCells (Po.boxesV T e st)) ∧ (∀ k, v.ownBlock = some k → w.heap.size ≤ k) ∧ PRd w' b pa cp T e (Po.boxesS T e st) ∧ Touch b w w' := by
  obtain ⟨i0, hinf, hz0, hz1, hz2⟩ := info_parts Tryd.infoRect
  have h' := hid h
  have hsm := h.small
  have hblt : b < w.heap.size := h.blk.lt
  have hn1 := Nat.le_refl w.heap.size
  have hbeg := hid (Po.Boxing.begin T e st)
  clear h
  go_enter Tryd.func89, Tryd.ntmps89
  go_wp2_with fail
  refine (pbox_any h'.out).mono ?_
  rintro en w1 ⟨rfl, h1, t1⟩
  have hsz1 := t1.size
  have hza := balloc w1 (.cells (boxCells (Po.boxV T e st)).toArray 73)
  have ha := hid (h1.ext hza)
  have qa := hid (t1.below hza)
  have oa := hid (World.ownsRow_lit (base := w.heap.size) (size := 4) (e := 73) w1 (boxCells (Po.boxV T e st)).toArray 1 hsz1 (by decide) rfl)
  clear h1 t1 hza
  unfold pboxV
  go_wp2_with fail
  go_loopg [3] (T.length + 1) (fun g u wr => ∃ (n : Nat) (bs : List Po.Box) (s : Po.St), n = bs.length ∧ n + g = T.length + 2 ∧ Po.Boxing T e st g bs s ∧ PRd wr b pa cp T e s ∧ wr.ownsRow w.heap.size 73 4 u n (boxesCells bs) ∧ Touch b w wr)
  case atStart => exact ⟨1, [Po.boxV T e st], _, rfl, by omega, hbeg.out, ha.out, (by rw [show boxesCells [Po.boxV T e st] = boxCells (Po.boxV T e st) from by simp [boxesCells]]; exact oa.out), qa.out⟩
  case round =>
    obtain ⟨n, bs, s, hn, hng, hB, hP, hO, hQ⟩ := hrel
    have hn' := hid hn
    have hB' := hid hB
    have hP' := hid hP
    have hO' := hid hO
    have hQ' := hid hQ
    clear hn hB hP hO hQ
    cases hi : Po.is T [43] s with
    | true =>
      have hg := hB'.out.pos hi
      obtain ⟨gk', rfl⟩ : ∃ g', gk = g' + 1 := ⟨gk - 1, by omega⟩
      have hB2 := hid (hB'.out.step hi)
      have hc := hid (ptook_yes (s := ⟨#[43]⟩) hP'.out hi)
      clear hi
      go_wp2_with fail
      refine hc.out.mono ?_
      rintro en w2 ⟨rfl, h2, t2⟩
      have h2' := hid h2
      have o2 := hid (owns_touch hO'.out t2 hblt)
      have q2 := hid (hQ'.out.trans t2)
      clear h2 t2 hc
      go_wp2_with fail
      refine (pbox_any h2'.out).mono ?_
      rintro en w3 ⟨rfl, h3, t3⟩
      have h3' := hid h3
      have o3 := hid (owns_touch o2.out t3 hblt)
      have q3 := hid (q2.out.trans t3)
      clear h3 t3
      generalize hbx : Po.boxV T e (Po.on s) = bx at *
      have hcap : n + 1 ≤ maxLen := by unfold maxLen; omega
      have hc1 := hid (cells_new w3 (boxCells bx) 73 (k := w3.heap.size) rfl)
      have hal := hid (o3.out.alloc (.cells (boxCells bx).toArray 73))
      have hz3 := q3.out.size
      unfold pboxV
      go_wp2_with (first | (at_builtin; refine wpList_append_own _ rfl _ _ 40 rfl w.heap.size 73 i0 (.agg #[.int .i64 0, .int .i64 0, .int .i64 0, .int .i64 0]) 4 32 Tryd.underlying40 hinf hz0 hz1 hz2 rfl (by decide) _ _ _ rfl hal.out ⟨w3.heap.size, 0, none⟩ 1 1 (boxCells bx) rfl rfl hc1.out (boxCells_one _) hcap (by omega) (by simp; omega) ?_; intro v' w5 hown5 hgrow _))
      go_roundg gk'
      case measure => omega
      case rel =>
        refine ⟨n + 1, bs ++ [bx], _, by rw [List.length_append, ← hn'.out]; rfl, by omega, hB2.out, ?_, ?_, ?_⟩
        · exact PRd.grown h'.out (h3'.out.ext (balloc w3 _)) hgrow (fun k hk => (hal.out.lt k hk).1)
        · rw [boxesCells_snoc]; exact hown5
        · exact (q3.out.alloc _).grown hgrow (fun k hk => (hal.out.lt k hk).1)
    | false =>
      have hB2 := hid (hB'.out.stop hi)
      have hc := hid (ptook_no (s := ⟨#[43]⟩) hP'.out hi)
      clear hi
      go_wp2_with fail
      refine hc.out.mono ?_
      rintro en w2 ⟨rfl, h2, t2⟩
      have h2' := hid h2
      have o2 := hid (owns_touch hO'.out t2 hblt)
      have q2 := hid (hQ'.out.trans t2)
      clear h2 t2 hc
      go_wp2_with fail
      go_ret
      rw [hB2.out.1, hB2.out.2]
      refine ⟨_, rfl, ?_, fun k hk => (o2.out.lt k hk).1, h2'.out, q2.out⟩
      rw [← hn'.out]
      exact Row.of_owns o2.out

end Go.Proofs.YtnoieobjfihbeaaDoor

namespace Go.Proofs.YtnoieobjfihbeaaDoor
open Go.RowKit Go.Sort

/-- only blocks b and d of what was there may have changed -/
structure Touch2 (b d : Nat) (w w' : World) : Prop where
  os : w'.os = w.os
  tape : w'.tape = w.tape
  output : w'.output = w.output
  size : w.heap.size ≤ w'.heap.size
  block : ∀ k, k < w.heap.size → k ≠ b → k ≠ d → w'.heap[k]? = w.heap[k]?
theorem Touch2.refl (b d : Nat) (w : World) : Touch2 b d w w := ⟨rfl, rfl, rfl, Nat.le_refl _, fun _ _ _ _ => rfl⟩
theorem Touch2.of {b d : Nat} {w w' : World} (h : Touch b w w') : Touch2 b d w w' := ⟨h.os, h.tape, h.output, h.size, fun k hk hb _ => h.block k hk hb⟩
theorem Touch2.trans {b d : Nat} {x y z : World} (h : Touch2 b d x y) (k : Touch2 b d y z) : Touch2 b d x z :=
  ⟨k.os.trans h.os, k.tape.trans h.tape, k.output.trans h.output, Nat.le_trans h.size k.size, fun i hi hn hm => (k.block i (Nat.lt_of_lt_of_le hi h.size) hn hm).trans (h.block i hi hn hm)⟩
theorem Touch2.touch {b d : Nat} {x y z : World} (h : Touch2 b d x y) (k : Touch b y z) : Touch2 b d x z := h.trans (.of k)
theorem Touch2.setD_iff {b d : Nat} {a w : World} (o : Nat) (u : Value) : Touch2 b d a (w.setCell ⟨d, o, none⟩ u) ↔ Touch2 b d a w :=
  ⟨fun h => ⟨h.os, h.tape, h.output, by simpa [World.setCell] using h.size, fun i hi hn hm => (Below.heap_setCell _ _ _ _ (show i ≠ (⟨d, o, none⟩ : Addr).block by simpa using hm)).symm.trans (h.block i hi hn hm)⟩,
   fun h => ⟨h.os, h.tape, h.output, by simpa [World.setCell] using h.size, fun i hi hn hm => (Below.heap_setCell _ _ _ _ (show i ≠ (⟨d, o, none⟩ : Addr).block by simpa using hm)).trans (h.block i hi hn hm)⟩⟩
/-- where d is of the call's own -/
theorem Touch2.own {b d : Nat} {x y : World} (h : Touch2 b d x y) (hd : x.heap.size ≤ d) : Touch b x y := ⟨h.os, h.tape, h.output, h.size, fun k hk hn => h.block k hk hn (by omega)⟩

theorem Row.shape {w : World} {v : Value} {n size : Nat} {xs : List Value} (h : Row w v n size xs) : ∃ p l c, v = .slice p l c := by
  rcases h.2 with ⟨rfl, _⟩ | ⟨g, off, cap, rfl, _⟩
  · exact ⟨_, _, _, rfl⟩
  · exact ⟨_, _, _, rfl⟩
/-- block d is none of the reader's -/
structure Free (b d : Nat) (pa : Option Addr) (T : List Lx.Tok) : Prop where
  ne : b ≠ d
  row : T = [] ∨ ∀ g off, pa = some ⟨g, off, none⟩ → g ≠ d
theorem PRd.setD {w : World} {b d : Nat} {pa : Option Addr} {cp : Nat} {T : List Lx.Tok} {e : Nat × Nat} {st : Po.St} (hf : Free b d pa T) (h : PRd w b pa cp T e st) {w' : World} (ht : Touch d w w') : PRd w' b pa cp T e st := by
  refine ⟨h.blk.touch ht hf.ne, ?_, h.le, h.small⟩
  rcases hf.row with h1 | h1
  · exact .inl h1
  · rcases h.row with h2 | ⟨g, off, hp, hr, hn⟩
    · exact .inl h2
    · exact .inr ⟨g, off, hp, hr.touch ht (h1 g off hp), hn⟩
theorem PRd.setD_iff {w : World} {b d : Nat} {pa : Option Addr} {cp : Nat} {T : List Lx.Tok} {e : Nat × Nat} {st : Po.St} (hf : Free b d pa T) (o : Nat) (u : Value) : PRd (w.setCell ⟨d, o, none⟩ u) b pa cp T e st ↔ PRd w b pa cp T e st := by
  have ht : Touch d w (w.setCell ⟨d, o, none⟩ u) := (Touch.refl d w).setCell o u
  exact ⟨fun h => PRd.setD hf h ⟨ht.os.symm, ht.tape.symm, ht.output.symm, by simp [World.setCell], fun i hi hn => (ht.block i (by simpa [World.setCell] using hi) hn).symm⟩, fun h => PRd.setD hf h ht⟩

def declCells (D : Po.Decl) (bv : Value) : Array Value :=
  #[.int .i64 D.kind, .string D.name, .int .i64 D.n, bv, .bool D.role.any, .string D.role.name, .int .i64 D.role.n, .int .i64 D.role.line, .int .i64 D.role.col, .int .i64 D.lo, .int .i64 D.hi,
    .bool D.label.any, .string D.label.name, .int .i64 D.label.n, .int .i64 D.label.line, .int .i64 D.label.col, .bool D.place.any, .string D.place.name, .int .i64 D.place.n, .int .i64 D.place.line, .int .i64 D.place.col,
    .int .i64 D.zoom, .int .i64 D.line, .int .i64 D.col]
def DBlk (w : World) (d : Nat) (D : Po.Decl) (bv : Value) : Prop := Blk w d (declCells D bv) 44

set_option maxRecDepth 100000 in
set_option maxHeartbeats 4000000 in
theorem pnamed_any {w : World} {b d : Nat} {pa : Option Addr} {cp : Nat} {T : List Lx.Tok} {e : Nat × Nat} {st : Po.St} {D : Po.Decl} {bv : Value} (h : PRd w b pa cp T e st) (hf : Free b d pa T) (hd : DBlk w d D bv) :
    Calls Tryd.prog 59 #[.pointer (some ⟨b, 0, none⟩), .pointer (some ⟨d, 0, none⟩)] w fun en w' => en = .returned (.tuple #[]) ∧ PRd w' b pa cp T e (Po.namedS T e st) ∧ DBlk w' d (Po.namedV T e D st) bv ∧ Touch2 b d w w' := by
  have h' := hid h
  have hf' := hid hf
  have hd' := hid hd
  have hdb : d ≠ b := hf.ne.symm
  clear h hf hd
  go_enter Tryd.func59, Tryd.ntmps59
  go_wp2_with fail
  refine (pname_any h'.out).mono ?_
  rintro en w1 ⟨rfl, h1, t1⟩
  have h1' := hid h1
  have q1 := hid (Touch2.of (d := d) t1)
  have d1 := hid (Blk.touch hd'.out t1 hdb)
  clear h1 t1
  have y1 := d1.out.cell 1 (v := .string D.name) rfl
  have yf := d1.out.free
  have yz := d1.out.lt
  have h2 := hid ((PRd.setD_iff hf'.out 1 (.string (Po.txt (Po.takeTok T 1 st).text))).2 h1'.out)
  have q2 := hid ((Touch2.setD_iff 1 (.string (Po.txt (Po.takeTok T 1 st).text))).2 q1.out)
  have d2 := hid (d1.out.set 1 (.string (Po.txt (Po.takeTok T 1 st).text)))
  go_wp2_with fail
  clear y1 yf yz
  refine (pwant_any h2.out _).mono ?_
  rintro en w3 ⟨rfl, h3, t3⟩
  have h3' := hid h3
  have q3 := hid (q2.out.touch t3)
  have d3 := hid (Blk.touch d2.out t3 hdb)
  clear h3 t3
  go_wp2_with fail
  refine (pnumber_any h3'.out).mono ?_
  rintro en w4 ⟨rfl, h4, t4⟩
  have h4' := hid h4
  have q4 := hid (q3.out.touch t4)
  have d4 := hid (Blk.touch d3.out t4 hdb)
  clear h4 t4
  have y1 := d4.out.cell 2 (v := .int .i64 D.n) rfl
  have yf := d4.out.free
  have yz := d4.out.lt
  go_wp2_with fail
  go_end0
  exact ⟨rfl, (PRd.setD_iff hf'.out _ _).2 h4'.out, d4.out.set 2 _, (Touch2.setD_iff _ _).2 q4.out⟩

set_option maxRecDepth 100000 in
set_option maxHeartbeats 4000000 in
theorem pregion_any {w : World} {b d : Nat} {pa : Option Addr} {cp : Nat} {T : List Lx.Tok} {e : Nat × Nat} {st : Po.St} {D : Po.Decl} {bv : Value} (h : PRd w b pa cp T e st) (hf : Free b d pa T) (hd : DBlk w d D bv) :
    Calls Tryd.prog 60 #[.pointer (some ⟨b, 0, none⟩), .pointer (some ⟨d, 0, none⟩)] w fun en w' => en = .returned (.tuple #[]) ∧ ∃ v, PRd w' b pa cp T e (Po.regionS T e st) ∧ DBlk w' d (Po.regionV T e D st) v ∧
      Row w' v (Po.regionV T e D st).boxes.length 4 (boxesCells (Po.regionV T e D st).boxes) ∧ (∀ k, v.ownBlock = some k → w.heap.size ≤ k) ∧ Touch2 b d w w' := by
  have h' := hid h
  have hf' := hid hf
  have hd' := hid hd
  have hdb : d ≠ b := hf.ne.symm
  have hdlt : d < w.heap.size := Blk.lt hd
  clear h hf hd
  go_enter Tryd.func60, Tryd.ntmps60
  go_wp2_with fail
  refine (pname_any h'.out).mono ?_
  rintro en w1 ⟨rfl, h1, t1⟩
  have h1' := hid h1
  have q1 := hid (Touch2.of (d := d) t1)
  have d1 := hid (Blk.touch hd'.out t1 hdb)
  clear h1 t1
  have y1 := d1.out.cell 1 (v := .string D.name) rfl
  have yf := d1.out.free
  have yz := d1.out.lt
  have h2 := hid ((PRd.setD_iff hf'.out 1 (.string (Po.txt (Po.takeTok T 1 st).text))).2 h1'.out)
  have q2 := hid ((Touch2.setD_iff 1 (.string (Po.txt (Po.takeTok T 1 st).text))).2 q1.out)
  have d2 := hid (d1.out.set 1 (.string (Po.txt (Po.takeTok T 1 st).text)))
  go_wp2_with fail
  clear y1 yf yz
  refine (pwant_any h2.out _).mono ?_
  rintro en w3 ⟨rfl, h3, t3⟩
  have h3' := hid h3
  have q3 := hid (q2.out.touch t3)
  have d3 := hid (Blk.touch d2.out t3 hdb)
  clear h3 t3
  go_wp2_with fail
  refine (pboxes_any h3'.out).mono ?_
  rintro en w4 ⟨v, rfl, hrow, hown, h4, t4⟩
  obtain ⟨vp, vl, vc, rfl⟩ := Row.shape hrow
  have h4' := hid h4
  have q4 := hid (q3.out.touch t4)
  have d4 := hid (Blk.touch d3.out t4 hdb)
  have hrow' := hid hrow
  have hown' := hid hown
  have hs3 := q3.out.size
  clear h4 t4 hrow hown
  have y1 := d4.out.cell 3 (v := bv) rfl
  have yf := d4.out.free
  have yz := d4.out.lt
  go_wp2_with fail
  go_end0
  exact ⟨rfl, _, (PRd.setD_iff hf'.out _ _).2 h4'.out, d4.out.set 3 _, hrow'.out.touch ((Touch.refl d w4).setCell _ _) (fun e => by have := hown'.out _ e; omega), fun k hk => Nat.le_trans hs3 (hown'.out k hk), (Touch2.setD_iff _ _).2 q4.out⟩

set_option maxRecDepth 100000 in
set_option maxHeartbeats 4000000 in
theorem pcloak_any {w : World} {b d : Nat} {pa : Option Addr} {cp : Nat} {T : List Lx.Tok} {e : Nat × Nat} {st : Po.St} {D : Po.Decl} {bv : Value} (h : PRd w b pa cp T e st) (hf : Free b d pa T) (hd : DBlk w d D bv) :
    Calls Tryd.prog 61 #[.pointer (some ⟨b, 0, none⟩), .pointer (some ⟨d, 0, none⟩)] w fun en w' => en = .returned (.tuple #[]) ∧ PRd w' b pa cp T e (Po.cloakS T e st) ∧ DBlk w' d (Po.cloakV T e D st) bv ∧ Touch2 b d w w' := by
  have h' := hid h
  have hf' := hid hf
  have hd' := hid hd
  have hdb : d ≠ b := hf.ne.symm
  clear h hf hd
  go_enter Tryd.func61, Tryd.ntmps61
  go_wp2_with fail
  refine (pwant_any h'.out _).mono ?_
  rintro en w1 ⟨rfl, h1, t1⟩
  have h1' := hid h1
  have q1 := hid (Touch2.of (d := d) t1)
  have d1 := hid (Blk.touch hd'.out t1 hdb)
  clear h1 t1
  go_wp2_with fail
  refine (pwho_any h1'.out).mono ?_
  rintro en w2 ⟨rfl, h2, t2⟩
  have h2' := hid h2
  have q2 := hid (q1.out.touch t2)
  have d2 := hid (Blk.touch d1.out t2 hdb)
  clear h2 t2
  have y0 := d2.out.cell 4 (v := .bool D.role.any) rfl
  have y1 := d2.out.cell 5 (v := .string D.role.name) rfl
  have y2 := d2.out.cell 6 (v := .int .i64 D.role.n) rfl
  have y3 := d2.out.cell 7 (v := .int .i64 D.role.line) rfl
  have y4 := d2.out.cell 8 (v := .int .i64 D.role.col) rfl
  have yf := d2.out.free
  have yz := d2.out.lt
  unfold pwhoV
  go_wp2_with fail
  go_end0
  exact ⟨rfl, (by simp only [PRd.setD_iff hf'.out]; exact h2'.out), ((((d2.out.set 4 _).set 5 _).set 6 _).set 7 _).set 8 _, (by simp only [Touch2.setD_iff]; exact q2.out)⟩

set_option maxRecDepth 100000 in
set_option maxHeartbeats 8000000 in
theorem prule_any {w : World} {b d : Nat} {pa : Option Addr} {cp : Nat} {T : List Lx.Tok} {e : Nat × Nat} {st : Po.St} {D : Po.Decl} {bv : Value} (h : PRd w b pa cp T e st) (hf : Free b d pa T) (hd : DBlk w d D bv) :
    Calls Tryd.prog 57 #[.pointer (some ⟨b, 0, none⟩), .pointer (some ⟨d, 0, none⟩)] w fun en w' => en = .returned (.tuple #[]) ∧ PRd w' b pa cp T e (Po.ruleS T e st) ∧ DBlk w' d (Po.ruleV T e D st) bv ∧ Touch2 b d w w' := by
  have h' := hid h
  have hf' := hid hf
  have hd' := hid hd
  have hdb : d ≠ b := hf.ne.symm
  clear h hf hd
  have es := hid (show Po.ruleS T e st = Po.takeSt T e 3 (Po.rs4 T e st) from rfl)
  have ed := hid (show Po.ruleV T e D st = { D with role := Po.whoV T e (Po.want T e Po.wRole st), lo := Po.loV T (Po.rs1 T e st), hi := Po.hiV T e (Po.rs1 T e st), label := Po.whoV T e (Po.rs2 T e st), place := Po.whereV T e (Po.rs3 T e st), zoom := (Po.takeTok T 3 (Po.rs4 T e st)).n } from rfl)
  have ec := hid (show Po.cloakV T e D st = { D with role := Po.whoV T e (Po.want T e Po.wRole st) } from rfl)
  have e1 := hid (show Po.want T e Po.wTier (Po.cloakS T e st) = Po.rs1 T e st from rfl)
  have e2 := hid (show Po.want T e Po.wLabel (Po.tiersS T e (Po.rs1 T e st)) = Po.rs2 T e st from rfl)
  have e3 := hid (show Po.want T e Po.wIn (Po.whoS T e (Po.rs2 T e st)) = Po.rs3 T e st from rfl)
  have e4 := hid (show Po.want T e Po.wZoom (Po.whereS T e (Po.rs3 T e st)) = Po.rs4 T e st from rfl)
  go_enter Tryd.func57, Tryd.ntmps57
  go_wp2_with fail
  refine (pcloak_any h'.out hf'.out hd'.out).mono ?_
  rintro en w1 ⟨rfl, h1, d1, q1⟩
  have h1' := hid h1
  have d1' := hid d1
  have q1' := hid q1
  rw [ec.out] at d1'
  clear h1 d1 q1 ec
  go_wp2_with fail
  refine (pwant_any h1'.out _).mono ?_
  rintro en w2 ⟨rfl, h2, t2⟩
  have h2' := hid (e1.out ▸ (show PRd w2 b pa cp T e _ from h2))
  have q2' := hid (q1'.out.touch t2)
  have d2' := hid (Blk.touch d1'.out t2 hdb)
  clear h2 t2
  go_wp2_with fail
  refine (ptiers_any h2'.out).mono ?_
  rintro en w3 ⟨rfl, h3, t3⟩
  have h3' := hid h3
  have q3' := hid (q2'.out.touch t3)
  have d3' := hid (Blk.touch d2'.out t3 hdb)
  clear h3 t3
  have y9 := Blk.cell d3'.out 9 (v := .int .i64 D.lo) rfl
  have y10 := Blk.cell d3'.out 10 (v := .int .i64 D.hi) rfl
  have yf := Blk.free d3'.out
  have yz := Blk.lt d3'.out
  have h30' := hid (show PRd (((w3).setCell ⟨d, 9, none⟩ (.int .i64 (Po.loV T (Po.rs1 T e st)))).setCell ⟨d, 10, none⟩ (.int .i64 (Po.hiV T e (Po.rs1 T e st)))) b pa cp T e _ from (by simp only [PRd.setD_iff hf'.out]; exact h3'.out))
  have q30' := hid (show Touch2 b d w (((w3).setCell ⟨d, 9, none⟩ (.int .i64 (Po.loV T (Po.rs1 T e st)))).setCell ⟨d, 10, none⟩ (.int .i64 (Po.hiV T e (Po.rs1 T e st)))) from (by simp only [Touch2.setD_iff]; exact q3'.out))
  have d30' := hid (show DBlk (((w3).setCell ⟨d, 9, none⟩ (.int .i64 (Po.loV T (Po.rs1 T e st)))).setCell ⟨d, 10, none⟩ (.int .i64 (Po.hiV T e (Po.rs1 T e st)))) d ({ D with role := Po.whoV T e (Po.want T e Po.wRole st), lo := Po.loV T (Po.rs1 T e st), hi := Po.hiV T e (Po.rs1 T e st) }) bv from (Blk.set ((Blk.set (d3'.out) 9 (.int .i64 (Po.loV T (Po.rs1 T e st))))) 10 (.int .i64 (Po.hiV T e (Po.rs1 T e st)))))
  clear h3' q3' d3'
  go_wp2_with fail
  clear y9 y10 yf yz
  refine (pwant_any h30'.out _).mono ?_
  rintro en w4 ⟨rfl, h4, t4⟩
  have h4' := hid (e2.out ▸ (show PRd w4 b pa cp T e _ from h4))
  have q4' := hid (q30'.out.touch t4)
  have d4' := hid (Blk.touch d30'.out t4 hdb)
  clear h4 t4
  go_wp2_with fail
  refine (pwho_any h4'.out).mono ?_
  rintro en w5 ⟨rfl, h5, t5⟩
  have h5' := hid h5
  have q5' := hid (q4'.out.touch t5)
  have d5' := hid (Blk.touch d4'.out t5 hdb)
  clear h5 t5
  have y11 := Blk.cell d5'.out 11 (v := .bool D.label.any) rfl
  have y12 := Blk.cell d5'.out 12 (v := .string D.label.name) rfl
  have y13 := Blk.cell d5'.out 13 (v := .int .i64 D.label.n) rfl
  have y14 := Blk.cell d5'.out 14 (v := .int .i64 D.label.line) rfl
  have y15 := Blk.cell d5'.out 15 (v := .int .i64 D.label.col) rfl
  have yf := Blk.free d5'.out
  have yz := Blk.lt d5'.out
  have h50' := hid (show PRd ((((((w5).setCell ⟨d, 11, none⟩ (.bool (Po.whoV T e (Po.rs2 T e st)).any)).setCell ⟨d, 12, none⟩ (.string (Po.whoV T e (Po.rs2 T e st)).name)).setCell ⟨d, 13, none⟩ (.int .i64 (Po.whoV T e (Po.rs2 T e st)).n)).setCell ⟨d, 14, none⟩ (.int .i64 (Po.whoV T e (Po.rs2 T e st)).line)).setCell ⟨d, 15, none⟩ (.int .i64 (Po.whoV T e (Po.rs2 T e st)).col)) b pa cp T e _ from (by simp only [PRd.setD_iff hf'.out]; exact h5'.out))
  have q50' := hid (show Touch2 b d w ((((((w5).setCell ⟨d, 11, none⟩ (.bool (Po.whoV T e (Po.rs2 T e st)).any)).setCell ⟨d, 12, none⟩ (.string (Po.whoV T e (Po.rs2 T e st)).name)).setCell ⟨d, 13, none⟩ (.int .i64 (Po.whoV T e (Po.rs2 T e st)).n)).setCell ⟨d, 14, none⟩ (.int .i64 (Po.whoV T e (Po.rs2 T e st)).line)).setCell ⟨d, 15, none⟩ (.int .i64 (Po.whoV T e (Po.rs2 T e st)).col)) from (by simp only [Touch2.setD_iff]; exact q5'.out))
  have d50' := hid (show DBlk ((((((w5).setCell ⟨d, 11, none⟩ (.bool (Po.whoV T e (Po.rs2 T e st)).any)).setCell ⟨d, 12, none⟩ (.string (Po.whoV T e (Po.rs2 T e st)).name)).setCell ⟨d, 13, none⟩ (.int .i64 (Po.whoV T e (Po.rs2 T e st)).n)).setCell ⟨d, 14, none⟩ (.int .i64 (Po.whoV T e (Po.rs2 T e st)).line)).setCell ⟨d, 15, none⟩ (.int .i64 (Po.whoV T e (Po.rs2 T e st)).col)) d ({ D with role := Po.whoV T e (Po.want T e Po.wRole st), lo := Po.loV T (Po.rs1 T e st), hi := Po.hiV T e (Po.rs1 T e st), label := Po.whoV T e (Po.rs2 T e st) }) bv from (Blk.set ((Blk.set ((Blk.set ((Blk.set ((Blk.set (d5'.out) 11 (.bool (Po.whoV T e (Po.rs2 T e st)).any))) 12 (.string (Po.whoV T e (Po.rs2 T e st)).name))) 13 (.int .i64 (Po.whoV T e (Po.rs2 T e st)).n))) 14 (.int .i64 (Po.whoV T e (Po.rs2 T e st)).line))) 15 (.int .i64 (Po.whoV T e (Po.rs2 T e st)).col)))
  clear h5' q5' d5'
  unfold pwhoV
  go_wp2_with fail
  clear y11 y12 y13 y14 y15 yf yz
  refine (pwant_any h50'.out _).mono ?_
  rintro en w6 ⟨rfl, h6, t6⟩
  have h6' := hid (e3.out ▸ (show PRd w6 b pa cp T e _ from h6))
  have q6' := hid (q50'.out.touch t6)
  have d6' := hid (Blk.touch d50'.out t6 hdb)
  clear h6 t6
  go_wp2_with fail
  refine (pwhere_any h6'.out).mono ?_
  rintro en w7 ⟨rfl, h7, t7⟩
  have h7' := hid h7
  have q7' := hid (q6'.out.touch t7)
  have d7' := hid (Blk.touch d6'.out t7 hdb)
  clear h7 t7
  have y16 := Blk.cell d7'.out 16 (v := .bool D.place.any) rfl
  have y17 := Blk.cell d7'.out 17 (v := .string D.place.name) rfl
  have y18 := Blk.cell d7'.out 18 (v := .int .i64 D.place.n) rfl
  have y19 := Blk.cell d7'.out 19 (v := .int .i64 D.place.line) rfl
  have y20 := Blk.cell d7'.out 20 (v := .int .i64 D.place.col) rfl
  have yf := Blk.free d7'.out
  have yz := Blk.lt d7'.out
  have h70' := hid (show PRd ((((((w7).setCell ⟨d, 16, none⟩ (.bool (Po.whereV T e (Po.rs3 T e st)).any)).setCell ⟨d, 17, none⟩ (.string (Po.whereV T e (Po.rs3 T e st)).name)).setCell ⟨d, 18, none⟩ (.int .i64 (Po.whereV T e (Po.rs3 T e st)).n)).setCell ⟨d, 19, none⟩ (.int .i64 (Po.whereV T e (Po.rs3 T e st)).line)).setCell ⟨d, 20, none⟩ (.int .i64 (Po.whereV T e (Po.rs3 T e st)).col)) b pa cp T e _ from (by simp only [PRd.setD_iff hf'.out]; exact h7'.out))
  have q70' := hid (show Touch2 b d w ((((((w7).setCell ⟨d, 16, none⟩ (.bool (Po.whereV T e (Po.rs3 T e st)).any)).setCell ⟨d, 17, none⟩ (.string (Po.whereV T e (Po.rs3 T e st)).name)).setCell ⟨d, 18, none⟩ (.int .i64 (Po.whereV T e (Po.rs3 T e st)).n)).setCell ⟨d, 19, none⟩ (.int .i64 (Po.whereV T e (Po.rs3 T e st)).line)).setCell ⟨d, 20, none⟩ (.int .i64 (Po.whereV T e (Po.rs3 T e st)).col)) from (by simp only [Touch2.setD_iff]; exact q7'.out))
  have d70' := hid (show DBlk ((((((w7).setCell ⟨d, 16, none⟩ (.bool (Po.whereV T e (Po.rs3 T e st)).any)).setCell ⟨d, 17, none⟩ (.string (Po.whereV T e (Po.rs3 T e st)).name)).setCell ⟨d, 18, none⟩ (.int .i64 (Po.whereV T e (Po.rs3 T e st)).n)).setCell ⟨d, 19, none⟩ (.int .i64 (Po.whereV T e (Po.rs3 T e st)).line)).setCell ⟨d, 20, none⟩ (.int .i64 (Po.whereV T e (Po.rs3 T e st)).col)) d ({ D with role := Po.whoV T e (Po.want T e Po.wRole st), lo := Po.loV T (Po.rs1 T e st), hi := Po.hiV T e (Po.rs1 T e st), label := Po.whoV T e (Po.rs2 T e st), place := Po.whereV T e (Po.rs3 T e st) }) bv from (Blk.set ((Blk.set ((Blk.set ((Blk.set ((Blk.set (d7'.out) 16 (.bool (Po.whereV T e (Po.rs3 T e st)).any))) 17 (.string (Po.whereV T e (Po.rs3 T e st)).name))) 18 (.int .i64 (Po.whereV T e (Po.rs3 T e st)).n))) 19 (.int .i64 (Po.whereV T e (Po.rs3 T e st)).line))) 20 (.int .i64 (Po.whereV T e (Po.rs3 T e st)).col)))
  clear h7' q7' d7'
  unfold pwhoV
  go_wp2_with fail
  clear y16 y17 y18 y19 y20 yf yz
  refine (pwant_any h70'.out _).mono ?_
  rintro en w8 ⟨rfl, h8, t8⟩
  have h8' := hid (e4.out ▸ (show PRd w8 b pa cp T e _ from h8))
  have q8' := hid (q70'.out.touch t8)
  have d8' := hid (Blk.touch d70'.out t8 hdb)
  clear h8 t8
  go_wp2_with fail
  refine (pnumber_any h8'.out).mono ?_
  rintro en w9 ⟨rfl, h9, t9⟩
  have h9' := hid h9
  have q9' := hid (q8'.out.touch t9)
  have d9' := hid (Blk.touch d8'.out t9 hdb)
  clear h9 t9
  have y21 := Blk.cell d9'.out 21 (v := .int .i64 D.zoom) rfl
  have yf := Blk.free d9'.out
  have yz := Blk.lt d9'.out
  have h90' := hid (show PRd ((w9).setCell ⟨d, 21, none⟩ (.int .i64 (Po.takeTok T 3 (Po.rs4 T e st)).n)) b pa cp T e _ from (by simp only [PRd.setD_iff hf'.out]; exact h9'.out))
  have q90' := hid (show Touch2 b d w ((w9).setCell ⟨d, 21, none⟩ (.int .i64 (Po.takeTok T 3 (Po.rs4 T e st)).n)) from (by simp only [Touch2.setD_iff]; exact q9'.out))
  have d90' := hid (show DBlk ((w9).setCell ⟨d, 21, none⟩ (.int .i64 (Po.takeTok T 3 (Po.rs4 T e st)).n)) d ({ D with role := Po.whoV T e (Po.want T e Po.wRole st), lo := Po.loV T (Po.rs1 T e st), hi := Po.hiV T e (Po.rs1 T e st), label := Po.whoV T e (Po.rs2 T e st), place := Po.whereV T e (Po.rs3 T e st), zoom := (Po.takeTok T 3 (Po.rs4 T e st)).n }) bv from (Blk.set (d9'.out) 21 (.int .i64 (Po.takeTok T 3 (Po.rs4 T e st)).n)))
  clear h9' q9' d9'
  go_wp2_with fail
  go_end0
  exact ⟨rfl, h90'.out, d90'.out, q90'.out⟩

end Go.Proofs.YtnoieobjfihbeaaDoor

namespace Go.Proofs.YtnoieobjfihbeaaDoor
open Go.RowKit Go.Sort

section
variable {P : Program} {ops : Array Oper} {rest : List Oper} {o : Oper} {a : Act} {w : World} {Q : Exit → Act → World → Prop}
/-- a whole struct into the block that was laid last -/
theorem wpList_store_new (hgd : o.guard = none) (ty : TypeId) (x y : Operand) (ho : o.op = .store ty x y) (hd : o.dst = none) (w0 : World) (t : TypeId) (old cells : Array Value) (hw : w = w0.alloc (.cells old t))
    (hx : a.eval x = .pointer (some ⟨w0.heap.size, 0, none⟩)) (hy : a.eval y = .agg cells) (hi : (P.info? ty).map (·.size) = some cells.size) (hold : old.size = cells.size) (h1 : cells.all (·.oneCell') = true)
    (h : wpList P ops Q rest a (w0.alloc (.cells cells t))) : wpList P ops Q (o :: rest) a w := by
  subst hw
  refine wpList_store_rowTo hgd ty x y ho hd w0.heap.size cells hx hy t old (heap_alloc_last w0 _) hi hold h1 ?_
  rw [World.setRow_alloc_new]
  exact h
/-- a whole struct into a block that is known whole -/
theorem wpList_store_blk (hgd : o.guard = none) (ty : TypeId) (x y : Operand) (ho : o.op = .store ty x y) (hd : o.dst = none) (g : Nat) (t : TypeId) (old cells : Array Value) (hb : Blk w g old t)
    (hx : a.eval x = .pointer (some ⟨g, 0, none⟩)) (hy : a.eval y = .agg cells) (hi : (P.info? ty).map (·.size) = some cells.size) (hold : old.size = cells.size) (h1 : cells.all (·.oneCell') = true)
    (h : wpList P ops Q rest a (w.setRow g cells)) : wpList P ops Q (o :: rest) a w :=
  wpList_store_rowTo hgd ty x y ho hd g cells hx hy t old hb hi hold h1 h
/-- a whole struct out of a block that is known whole -/
theorem wpList_load_blk (hgd : o.guard = none) (ty : TypeId) (x : Operand) (ho : o.op = .load ty x) (k : Tmp) (hd : o.dst = some k) (g : Nat) (t : TypeId) (cells : Array Value) (hb : Blk w g cells t)
    (hx : a.eval x = .pointer (some ⟨g, 0, none⟩)) {d : TypeDesc} (hu : P.underlying ty = some d) (hr : d.isRow = true) (hi : (P.info? ty).map (·.size) = some cells.size)
    (h : wpList P ops Q rest (a.put (some k) (.agg cells)) w) : wpList P ops Q (o :: rest) a w :=
  wpList_load_row hgd ty x ho g hx t cells (0, 0) d hb hu (by cases d <;> simp_all) hi (by rw [hd]; exact h)
/-- a whole struct out of the middle of a row -/
theorem wpList_load_at (hgd : o.guard = none) (ty : TypeId) (x : Operand) (ho : o.op = .load ty x) (k : Tmp) (hd : o.dst = some k) (g off : Nat) (cells : Array Value) (hb : w.rangeAt g off cells.toList)
    (hx : a.eval x = .pointer (some ⟨g, off, none⟩)) {d : TypeDesc} (hu : P.underlying ty = some d) (hr : d.isRow = true) (hi : (P.info? ty).map (·.size) = some cells.size)
    (h : wpList P ops Q rest (a.put (some k) (.agg cells)) w) : wpList P ops Q (o :: rest) a w :=
  wpList_load_mid hgd ty x ho g off hx cells.toList d hb hu hr (by simpa using hi) (by rw [hd]; simpa using h)
/-- the same under a guard that is decided -/
theorem wpList_want (hw : Region.wanted o (yielded ops a.tmps) = true) (h : ∀ K : Act → World → Prop, (∀ a w, wpList P ops Q rest a w → K a w) → o.wp P a w K Q) : wpList P ops Q (o :: rest) a w :=
  wpList_step fun K hK => by rw [if_pos hw]; exact h K hK
theorem wpList_load_blkG (hw : Region.wanted o (yielded ops a.tmps) = true) (ty : TypeId) (x : Operand) (ho : o.op = .load ty x) (k : Tmp) (hd : o.dst = some k) (g : Nat) (t : TypeId) (cells : Array Value) (hb : Blk w g cells t)
    (hx : a.eval x = .pointer (some ⟨g, 0, none⟩)) {d : TypeDesc} (hu : P.underlying ty = some d) (hr : d.isRow = true) (hi : (P.info? ty).map (·.size) = some cells.size)
    (h : wpList P ops Q rest (a.put (some k) (.agg cells)) w) : wpList P ops Q (o :: rest) a w :=
  wpList_want hw fun _ hK => wp_load_row ty x ho g hx t cells (0, 0) d hb hu (by cases d <;> simp_all) hi (by rw [hd]; exact hK _ _ h)
/-- a part of a block that is known whole -/
theorem wpList_load_partG (hw : Region.wanted o (yielded ops a.tmps) = true) (ty : TypeId) (x : Operand) (ho : o.op = .load ty x) (k : Tmp) (hd : o.dst = some k) (g off : Nat) (cells : Array Value) (hb : w.rangeAt g off cells.toList)
    (hx : a.eval x = .pointer (some ⟨g, off, none⟩)) {d : TypeDesc} (hu : P.underlying ty = some d) (hr : d.isRow = true) (hi : (P.info? ty).map (·.size) = some cells.size)
    (h : wpList P ops Q rest (a.put (some k) (.agg cells)) w) : wpList P ops Q (o :: rest) a w :=
  wpList_want hw fun _ hK => wp_load_mid ty x ho g off hx cells.toList d hb hu hr (by simpa using hi) (by rw [hd]; simpa using hK _ _ h)
/-- a slice of one struct: what 'append(l, x)' lays first -/
theorem wpList_buildOne (hg : o.guard = none) (t e : TypeId) (x : Operand) (ho : o.op = .buildSlice t 1 #[(0, x)]) (k : Tmp) (hd : o.dst = some k) (hu : P.underlying t = some (.slice e)) (ie : TypeInfo) (z : Value) (hie : P.info? e = some ie)
    (hz : ie.zero = some z) (size : Nat) (hsize : ie.size = size) (hpos : 0 < size) (hsm : size ≤ 16777216) (cells : Array Value) (hx : a.eval x = .agg cells) (hc : cells.size = size)
    (h : wpList P ops Q rest (a.put (some k) (.slice (some ⟨w.heap.size, 0, none⟩) 1 1)) (w.alloc (.cells cells e))) : wpList P ops Q (o :: rest) a w := by
  refine wpList_buildSlice hg t e 1 #[(0, x)] ho cells ie z hu hie hz (by rw [hsize]; omega) (by rw [hsize]; omega) ?_ (by rw [hd]; exact h)
  have hf := Great.fill_whole (s := size) hpos [.agg cells] ((Array.range (1 * size)).map (z.cells[· % z.cells.size]!)) (by intro v hv; rw [List.mem_singleton] at hv; rw [hv]; exact hc) (by simp)
  rw [hsize]
  have e1 : (#[(0, x)].map fun (y : Nat × Operand) => (y.1, a.eval y.2)).toList = (([Value.agg cells].zipIdx 0).map fun y => (y.2, y.1)) := by simp [hx]
  have e2 : ([Value.agg cells].flatMap fun v => v.cells.toList).toArray = cells := by simp [Value.cells]
  rw [e2] at hf
  rw [← hf]
  congr 1
end

theorem Blk.range {w : World} {b : Nat} {cs : Array Value} {t : TypeId} (h : Blk w b cs t) (o n : Nat) : w.rangeAt b o (cs.extract o (o + n)).toList := World.rangeAt_of_block h o n
theorem Blk.setRow {w : World} {b : Nat} {cs : Array Value} {t : TypeId} (h : Blk w b cs t) (cs' : Array Value) : Blk (w.setRow b cs') b cs' t := setRow_heap w b cs cs' t (0, 0) h
theorem Blk.setRowOther {w : World} {b k : Nat} {cs cs' : Array Value} {t : TypeId} (h : Blk w b cs t) (hk : b ≠ k) : Blk (w.setRow k cs') b cs t := (setRow_other w k b cs' hk).trans h
theorem Touch.setRow {b : Nat} {a w : World} (h : Touch b a w) (cs : Array Value) : Touch b a (w.setRow b cs) :=
  h.trans ⟨rfl, rfl, rfl, by simp, fun k _ hn => setRow_other w b k cs hn⟩
theorem Touch.setRowNew {b k : Nat} {a w : World} (h : Touch b a w) (hk : a.heap.size ≤ k) (cs : Array Value) : Touch b a (w.setRow k cs) :=
  ⟨h.os, h.tape, h.output, by simpa using h.size, fun i hi hn => (setRow_other w k i cs (by omega)).trans (h.block i hi hn)⟩
theorem below_setRow {B k : Nat} {a w : World} (h : Below B a w) (hk : B ≤ k) (cs : Array Value) : Below B a (w.setRow k cs) :=
  ⟨h.os, h.tape, h.output, by simpa using h.size, fun i hi => (setRow_other w k i cs (by omega)).trans (h.block i hi)⟩
theorem Row.setRow {w : World} {v : Value} {n size : Nat} {xs : List Value} {k : Nat} (h : Row w v n size xs) (hne : v.ownBlock ≠ some k) (cs : Array Value) : Row (w.setRow k cs) v n size xs := h.touch ((Touch.refl k w).setRow cs) hne
/-- a struct that is handed back out of a block that is known whole -/
theorem results_blk {P : Program} {fn : Func} {p : Tmp} {ty : TypeId} (h : fn.results = #[.cell p ty]) (tmps : Array Value) (w : World) (g : Nat) (t : TypeId) (cs : Array Value) (hp : tmps.getD p undef = .pointer (some ⟨g, 0, none⟩)) (hb : Blk w g cs t)
    {d : TypeDesc} (hu : P.underlying ty = some d) (hr : d.isRow = true) (hi : (P.info? ty).map (·.size) = some cs.size) : (results fn tmps).run P w = .ok (.agg cs) w :=
  results_cell_row h tmps w g t cs (0, 0) d hp hb hu (by cases d <;> simp_all) hi

/-! ### rows of structs -/
/-- where the structs of a row lie -/
structure SRow {α : Type} (w : World) (g off cap size : Nat) (f : α → Array Value) (l : List α) : Prop where
  cap : l.length ≤ cap
  lt : g < w.heap.size
  get : ∀ (i : Nat) (hi : i < l.length), w.rangeAt g (off + i * size) (f l[i]).toList
theorem flat_part {α : Type} {f : α → Array Value} {size : Nat} : ∀ (l : List α), (∀ x ∈ l, (f x).size = size) → ∀ (i : Nat) (hi : i < l.length) (j : Nat), j < size → (l.flatMap fun x => (f x).toList)[i * size + j]? = (f l[i])[j]?
  | [], _, i, hi, _, _ => by simp at hi
  | x :: l, hs, i, hi, j, hj => by
    have hx : (f x).toList.length = size := by simpa using hs x List.mem_cons_self
    rw [List.flatMap_cons]
    cases i with
    | zero => rw [List.getElem?_append_left (by omega)]; simp
    | succ i =>
      rw [List.getElem?_append_right (by rw [hx, Nat.add_mul]; omega), hx]
      have e : (i + 1) * size + j - size = i * size + j := by rw [Nat.add_mul]; omega
      rw [e, flat_part l (fun y hy => hs y (List.mem_cons_of_mem _ hy)) i (by simpa using hi) j hj]
      simp
theorem srow_of {α : Type} {w : World} {v : Value} {size : Nat} {f : α → Array Value} {l : List α} (hs : ∀ x ∈ l, (f x).size = size) (h : Row w v l.length size (l.flatMap fun x => (f x).toList)) :
    (v = .slice none 0 0 ∧ l = []) ∨ ∃ g off cap, v = .slice (some ⟨g, off, none⟩) l.length cap ∧ SRow w g off cap size f l := by
  rcases h.2 with ⟨hv, hn⟩ | ⟨g, off, cap, hv, hn, hg, hc⟩
  · exact .inl ⟨hv, List.eq_nil_of_length_eq_zero hn⟩
  · refine .inr ⟨g, off, cap, hv, hn, hg, fun i hi j u hu => ?_⟩
    have hsz : (f l[i]).size = size := hs _ (List.getElem_mem hi)
    have hj : j < size := by
      rw [← hsz]
      have := (List.getElem?_eq_some_iff.1 hu).1
      simpa using this
    rw [show off + i * size + j = off + (i * size + j) by omega]
    exact hc _ _ (by rw [flat_part l hs i hi j hj]; simpa using hu)
theorem SRow.ext {α : Type} {w w' : World} {g off cap size : Nat} {f : α → Array Value} {l : List α} (h : SRow w g off cap size f l) (hb : Below w.heap.size w w') : SRow w' g off cap size f l :=
  ⟨h.cap, Nat.lt_of_lt_of_le h.lt hb.size, fun i hi j u hu => (hb.cell (p := ⟨g, off + i * size + j, none⟩) h.lt).trans (h.get i hi j u hu)⟩
theorem SRow.below {α : Type} {w w' : World} {B : Nat} {g off cap size : Nat} {f : α → Array Value} {l : List α} (h : SRow w g off cap size f l) (hb : Below B w w') (hB : w.heap.size ≤ B) : SRow w' g off cap size f l :=
  h.ext (hb.mono hB)
theorem row_shape {w : World} {v : Value} {n size : Nat} {xs : List Value} (h : Row w v n size xs) : ∃ p c, v = .slice p n c := by
  rcases h.2 with ⟨rfl, rfl⟩ | ⟨g, off, cap, rfl, _⟩
  · exact ⟨_, _, rfl⟩
  · exact ⟨_, _, rfl⟩

end Go.Proofs.YtnoieobjfihbeaaDoor
