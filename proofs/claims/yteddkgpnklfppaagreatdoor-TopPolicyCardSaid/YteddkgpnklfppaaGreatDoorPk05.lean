/-
  The walks of the policy's reader: box, boxes.
  The walks of the policy's reader: named, region, cloak, rule: each fills a declaration.
  The rules (chapter 12) as plain Lean: what may be, who sees how near, what a policy's declarations come to. No program, no memory.
-/
import Derived.Test.YteddkgpnklfppaaGreatDoorPk04
import Derived.Test.YteddkgpnklfppaaGreatDoorPk03

namespace Go.Proofs.YteddkgpnklfppaaGreatDoor
open Go.RowKit Go.Sort

theorem Blk.four {w : World} {b : Nat} {x y z u : Value} {t : TypeId} (h : Blk w b #[x, y, z, u] t) : w.cell? ⟨b, 0, none⟩ = some x ∧ w.cell? ⟨b, 1, none⟩ = some y ∧ w.cell? ⟨b, 2, none⟩ = some z ∧ w.cell? ⟨b, 3, none⟩ = some u ∧ (∀ o, w.frozen? ⟨b, o, none⟩ = false) ∧ b < w.heap.size :=
  ⟨h.cell 0 rfl, h.cell 1 rfl, h.cell 2 rfl, h.cell 3 rfl, h.free, h.lt⟩
def pboxV (x : Po.Box) : Value := .agg #[.int .i64 x.x0, .int .i64 x.y0, .int .i64 x.x1, .int .i64 x.y1]

set_option maxRecDepth 100000 in
set_option maxHeartbeats 4000000 in
theorem pbox_any {w : World} {b : Nat} {pa : Option Addr} {cp : Nat} {T : List Lx.Tok} {e : Nat × Nat} {st : Po.St} (h : PRd w b pa cp T e st) :
    Calls Tryz.prog 116 #[.pointer (some ⟨b, 0, none⟩)] w fun en w' => en = .returned (pboxV (Po.boxV T e st)) ∧ PRd w' b pa cp T e (Po.boxS T e st) ∧ Touch b w w' := by
  have h' := hid h
  have hblt : b < w.heap.size := h.blk.lt
  have hn1 := Nat.le_refl w.heap.size
  have hn2 : w.heap.size ≤ w.heap.size + 1 := by omega
  have hnb : w.heap.size ≠ b := by omega
  have hnb1 : w.heap.size + 1 ≠ b := by omega
  have hne : w.heap.size ≠ w.heap.size + 1 := by omega
  have hne' : w.heap.size + 1 ≠ w.heap.size := by omega
  have hz1 := balloc w (.cells #[.int .i64 0, .int .i64 0, .int .i64 0, .int .i64 0] 27)
  have hz2 := balloc (w.alloc (.cells #[.int .i64 0, .int .i64 0, .int .i64 0, .int .i64 0] 27)) (.cells #[.int .i64 0, .int .i64 0, .int .i64 0, .int .i64 0] 177)
  have ha := hid ((h.ext hz1).ext hz2)
  have qa := hid ((Touch.of_below (b := b) hz1).below hz2)
  have ra := hid ((Blk.new w #[.int .i64 0, .int .i64 0, .int .i64 0, .int .i64 0] 27).ext hz2)
  have ba := hid (Blk.newAt (w := w.alloc (.cells #[.int .i64 0, .int .i64 0, .int .i64 0, .int .i64 0] 27)) (k := w.heap.size + 1) (by simp) #[.int .i64 0, .int .i64 0, .int .i64 0, .int .i64 0] 177)
  clear h hz1 hz2
  go_enter Tryz.func116, Tryz.ntmps116
  go_wp2_with fail
  go_loopg [5] 4 (fun g u wr => ∃ k : Nat, u = .int .i64 k ∧ k + g = 4 ∧ PRd wr b pa cp T e (Po.nth T e st k) ∧
    Blk wr (w.heap.size + 1) #[.int .i64 (Po.upto T e st k 0), .int .i64 (Po.upto T e st k 1), .int .i64 (Po.upto T e st k 2), .int .i64 (Po.upto T e st k 3)] 177 ∧ Blk wr w.heap.size #[.int .i64 0, .int .i64 0, .int .i64 0, .int .i64 0] 27 ∧ Touch b w wr)
  case atStart => exact ⟨0, rfl, rfl, ha.out, ba.out, ra.out, qa.out⟩
  case round =>
    obtain ⟨k, rfl, hk, hP, hB, hR, hQ⟩ := hrel
    have hk5 : k = 0 ∨ k = 1 ∨ k = 2 ∨ k = 3 ∨ k = 4 := by omega
    rcases hk5 with rfl | rfl | rfl | rfl | rfl
    · have hB2 := hid (show Blk wr (w.heap.size + 1) #[.int .i64 (0 : Nat), .int .i64 (0 : Nat), .int .i64 (0 : Nat), .int .i64 (0 : Nat)] 177 from hB)
      have hP' := hid hP
      have hR' := hid hR
      have hQ' := hid hQ
      clear hB hP hR hQ
      go_wp2_with fail
      refine (pnumber_any hP'.out).mono ?_
      rintro en w2 ⟨rfl, h2, t2⟩
      have h2' := hid h2
      have q2 := hid (hQ'.out.trans t2)
      have b2 := hid (hB2.out.touch t2 hnb1)
      have r2 := hid (hR'.out.touch t2 hnb)
      clear h2 t2
      obtain ⟨y0, y1, y2, y3, yf, yz⟩ := b2.out.four
      go_wp2_with fail
      go_roundg 3
      case measure => omega
      case rel => exact ⟨1, rfl, rfl, (by simp only [PRd.setOld_iff h'.out hn2]; exact h2'.out), b2.out.set 0 _, r2.out.setOther hne _ _, (by simp only [Touch.setNew_iff hn2]; exact q2.out)⟩
    · have hB2 := hid (show Blk wr (w.heap.size + 1) #[.int .i64 (Po.num T e st 0 : Nat), .int .i64 (0 : Nat), .int .i64 (0 : Nat), .int .i64 (0 : Nat)] 177 from hB)
      have hP' := hid hP
      have hR' := hid hR
      have hQ' := hid hQ
      clear hB hP hR hQ
      go_wp2_with fail
      refine (pnumber_any hP'.out).mono ?_
      rintro en w2 ⟨rfl, h2, t2⟩
      have h2' := hid h2
      have q2 := hid (hQ'.out.trans t2)
      have b2 := hid (hB2.out.touch t2 hnb1)
      have r2 := hid (hR'.out.touch t2 hnb)
      clear h2 t2
      obtain ⟨y0, y1, y2, y3, yf, yz⟩ := b2.out.four
      go_wp2_with fail
      go_roundg 2
      case measure => omega
      case rel => exact ⟨2, rfl, rfl, (by simp only [PRd.setOld_iff h'.out hn2]; exact h2'.out), b2.out.set 1 _, r2.out.setOther hne _ _, (by simp only [Touch.setNew_iff hn2]; exact q2.out)⟩
    · have hB2 := hid (show Blk wr (w.heap.size + 1) #[.int .i64 (Po.num T e st 0 : Nat), .int .i64 (Po.num T e st 1 : Nat), .int .i64 (0 : Nat), .int .i64 (0 : Nat)] 177 from hB)
      have hP' := hid hP
      have hR' := hid hR
      have hQ' := hid hQ
      clear hB hP hR hQ
      go_wp2_with fail
      refine (pnumber_any hP'.out).mono ?_
      rintro en w2 ⟨rfl, h2, t2⟩
      have h2' := hid h2
      have q2 := hid (hQ'.out.trans t2)
      have b2 := hid (hB2.out.touch t2 hnb1)
      have r2 := hid (hR'.out.touch t2 hnb)
      clear h2 t2
      obtain ⟨y0, y1, y2, y3, yf, yz⟩ := b2.out.four
      go_wp2_with fail
      go_roundg 1
      case measure => omega
      case rel => exact ⟨3, rfl, rfl, (by simp only [PRd.setOld_iff h'.out hn2]; exact h2'.out), b2.out.set 2 _, r2.out.setOther hne _ _, (by simp only [Touch.setNew_iff hn2]; exact q2.out)⟩
    · have hB2 := hid (show Blk wr (w.heap.size + 1) #[.int .i64 (Po.num T e st 0 : Nat), .int .i64 (Po.num T e st 1 : Nat), .int .i64 (Po.num T e st 2 : Nat), .int .i64 (0 : Nat)] 177 from hB)
      have hP' := hid hP
      have hR' := hid hR
      have hQ' := hid hQ
      clear hB hP hR hQ
      go_wp2_with fail
      refine (pnumber_any hP'.out).mono ?_
      rintro en w2 ⟨rfl, h2, t2⟩
      have h2' := hid h2
      have q2 := hid (hQ'.out.trans t2)
      have b2 := hid (hB2.out.touch t2 hnb1)
      have r2 := hid (hR'.out.touch t2 hnb)
      clear h2 t2
      obtain ⟨y0, y1, y2, y3, yf, yz⟩ := b2.out.four
      go_wp2_with fail
      go_roundg 0
      case measure => omega
      case rel => exact ⟨4, rfl, rfl, (by simp only [PRd.setOld_iff h'.out hn2]; exact h2'.out), b2.out.set 3 _, r2.out.setOther hne _ _, (by simp only [Touch.setNew_iff hn2]; exact q2.out)⟩
    · have hB2 := hid (show Blk wr (w.heap.size + 1) #[.int .i64 (Po.num T e st 0 : Nat), .int .i64 (Po.num T e st 1 : Nat), .int .i64 (Po.num T e st 2 : Nat), .int .i64 (Po.num T e st 3 : Nat)] 177 from hB)
      have hP' := hid hP
      have hR' := hid hR
      have hQ' := hid hQ
      clear hB hP hR hQ
      obtain ⟨y0, y1, y2, y3, yf, yz⟩ := hB2.out.four
      obtain ⟨x0, x1, x2, x3, xf, xz⟩ := hR'.out.four
      go_wp2_with fail
      exact bodyPost_ret (v := .agg #[.int .i64 (Po.num T e st 0 : Nat), .int .i64 (Po.num T e st 1 : Nat), .int .i64 (Po.num T e st 2 : Nat), .int .i64 (Po.num T e st 3 : Nat)]) (by simp [results, Tryz.results116, go_sem, x0, x1, x2, x3]) rfl ⟨rfl, (by simp only [PRd.setOld_iff h'.out hn1]; exact hP'.out), (by simp only [Touch.setNew_iff hn1]; exact hQ'.out)⟩

theorem Tryz.infoRect : (Tryz.prog.info? 27).map (fun i => (i.zero, i.size, i.bytes)) = some (some (.agg #[.int .i64 0, .int .i64 0, .int .i64 0, .int .i64 0]), 4, 32) := by kernel_rfl
def boxCells (x : Po.Box) : List Value := [.int .i64 x.x0, .int .i64 x.y0, .int .i64 x.x1, .int .i64 x.y1]
def boxesCells (l : List Po.Box) : List Value := l.flatMap boxCells
theorem boxesCells_snoc (l : List Po.Box) (x : Po.Box) : boxesCells (l ++ [x]) = boxesCells l ++ boxCells x := by simp [boxesCells, boxCells]
theorem boxCells_one (x : Po.Box) : ∀ u ∈ boxCells x, u.oneCell' = true := by
  intro u hu
  simp only [boxCells, List.mem_cons, List.not_mem_nil, or_false] at hu
  rcases hu with rfl | rfl | rfl | rfl <;> rfl

set_option maxRecDepth 100000 in
set_option maxHeartbeats 4000000 in
theorem pboxes_any {w : World} {b : Nat} {pa : Option Addr} {cp : Nat} {T : List Lx.Tok} {e : Nat × Nat} {st : Po.St} (h : PRd w b pa cp T e st) :
    Calls Tryz.prog 94 #[.pointer (some ⟨b, 0, none⟩)] w fun en w' => ∃ v, en = .returned v ∧ Row w' v (Po.boxesV T e st).length 4 (boxesCells (Po.boxesV T e st)) ∧ (∀ k, v.ownBlock = some k → w.heap.size ≤ k) ∧ PRd w' b pa cp T e (Po.boxesS T e st) ∧ Touch b w w' := by
  obtain ⟨i0, hinf, hz0, hz1, hz2⟩ := info_parts Tryz.infoRect
  have h' := hid h
  have hsm := h.small
  have hblt : b < w.heap.size := h.blk.lt
  have hn1 := Nat.le_refl w.heap.size
  have hbeg := hid (Po.Boxing.begin T e st)
  clear h
  go_enter Tryz.func94, Tryz.ntmps94
  go_wp2_with fail
  refine (pbox_any h'.out).mono ?_
  rintro en w1 ⟨rfl, h1, t1⟩
  have hsz1 := t1.size
  have hza := balloc w1 (.cells (boxCells (Po.boxV T e st)).toArray 27)
  have ha := hid (h1.ext hza)
  have qa := hid (t1.below hza)
  have oa := hid (World.ownsRow_lit (base := w.heap.size) (size := 4) (e := 27) w1 (boxCells (Po.boxV T e st)).toArray 1 hsz1 (by decide) rfl)
  clear h1 t1 hza
  unfold pboxV
  go_wp2_with fail
  go_loopg [3] (T.length + 1) (fun g u wr => ∃ (n : Nat) (bs : List Po.Box) (s : Po.St), n = bs.length ∧ n + g = T.length + 2 ∧ Po.Boxing T e st g bs s ∧ PRd wr b pa cp T e s ∧ wr.ownsRow w.heap.size 27 4 u n (boxesCells bs) ∧ Touch b w wr)
  case atStart => exact ⟨1, [Po.boxV T e st], _, rfl, by omega, hbeg.out, ha.out, (by rw [show boxesCells [Po.boxV T e st] = boxCells (Po.boxV T e st) from by simp [boxesCells]]; exact oa.out), qa.out⟩
  case round =>
    obtain ⟨n, bs, s, hn, hng, hB, hP, hO, hQ⟩ := hrel
    have hn' := hid hn
    have hB' := hid hB
    have hP' := hid hP
    have hO' := hid hO
    have hQ' := hid hQ
    clear hn hB hP hO hQ
    cases hi : Po.is T [43] s with
    | true =>
      have hg := hB'.out.pos hi
      obtain ⟨gk', rfl⟩ : ∃ g', gk = g' + 1 := ⟨gk - 1, by omega⟩
      have hB2 := hid (hB'.out.step hi)
      have hc := hid (ptook_yes (s := ⟨#[43]⟩) hP'.out hi)
      clear hi
      go_wp2_with fail
      refine hc.out.mono ?_
      rintro en w2 ⟨rfl, h2, t2⟩
      have h2' := hid h2
      have o2 := hid (owns_touch hO'.out t2 hblt)
      have q2 := hid (hQ'.out.trans t2)
      clear h2 t2 hc
      go_wp2_with fail
      refine (pbox_any h2'.out).mono ?_
      rintro en w3 ⟨rfl, h3, t3⟩
      have h3' := hid h3
      have o3 := hid (owns_touch o2.out t3 hblt)
      have q3 := hid (q2.out.trans t3)
      clear h3 t3
      generalize hbx : Po.boxV T e (Po.on s) = bx at *
      have hcap : n + 1 ≤ maxLen := by unfold maxLen; omega
      have hc1 := hid (cells_new w3 (boxCells bx) 27 (k := w3.heap.size) rfl)
      have hal := hid (o3.out.alloc (.cells (boxCells bx).toArray 27))
      have hz3 := q3.out.size
      unfold pboxV
      go_wp2_with (first | (at_builtin; refine wpList_append_own _ rfl _ _ 54 rfl w.heap.size 27 i0 (.agg #[.int .i64 0, .int .i64 0, .int .i64 0, .int .i64 0]) 4 32 Tryz.underlying54 hinf hz0 hz1 hz2 rfl (by decide) _ _ _ rfl hal.out ⟨w3.heap.size, 0, none⟩ 1 1 (boxCells bx) rfl rfl hc1.out (boxCells_one _) hcap (by omega) (by simp; omega) ?_; intro v' w5 hown5 hgrow _))
      go_roundg gk'
      case measure => omega
      case rel =>
        refine ⟨n + 1, bs ++ [bx], _, by rw [List.length_append, ← hn'.out]; rfl, by omega, hB2.out, ?_, ?_, ?_⟩
        · exact PRd.grown h'.out (h3'.out.ext (balloc w3 _)) hgrow (fun k hk => (hal.out.lt k hk).1)
        · rw [boxesCells_snoc]; exact hown5
        · exact (q3.out.alloc _).grown hgrow (fun k hk => (hal.out.lt k hk).1)
    | false =>
      have hB2 := hid (hB'.out.stop hi)
      have hc := hid (ptook_no (s := ⟨#[43]⟩) hP'.out hi)
      clear hi
      go_wp2_with fail
      refine hc.out.mono ?_
      rintro en w2 ⟨rfl, h2, t2⟩
      have h2' := hid h2
      have o2 := hid (owns_touch hO'.out t2 hblt)
      have q2 := hid (hQ'.out.trans t2)
      clear h2 t2 hc
      go_wp2_with fail
      go_ret
      rw [hB2.out.1, hB2.out.2]
      refine ⟨_, rfl, ?_, fun k hk => (o2.out.lt k hk).1, h2'.out, q2.out⟩
      rw [← hn'.out]
      exact Row.of_owns o2.out

end Go.Proofs.YteddkgpnklfppaaGreatDoor

namespace Go.Proofs.YteddkgpnklfppaaGreatDoor
open Go.RowKit Go.Sort

/-- only blocks b and d of what was there may have changed -/
structure Touch2 (b d : Nat) (w w' : World) : Prop where
  os : w'.os = w.os
  tape : w'.tape = w.tape
  output : w'.output = w.output
  size : w.heap.size ≤ w'.heap.size
  block : ∀ k, k < w.heap.size → k ≠ b → k ≠ d → w'.heap[k]? = w.heap[k]?
theorem Touch2.refl (b d : Nat) (w : World) : Touch2 b d w w := ⟨rfl, rfl, rfl, Nat.le_refl _, fun _ _ _ _ => rfl⟩
theorem Touch2.of {b d : Nat} {w w' : World} (h : Touch b w w') : Touch2 b d w w' := ⟨h.os, h.tape, h.output, h.size, fun k hk hb _ => h.block k hk hb⟩
theorem Touch2.trans {b d : Nat} {x y z : World} (h : Touch2 b d x y) (k : Touch2 b d y z) : Touch2 b d x z :=
  ⟨k.os.trans h.os, k.tape.trans h.tape, k.output.trans h.output, Nat.le_trans h.size k.size, fun i hi hn hm => (k.block i (Nat.lt_of_lt_of_le hi h.size) hn hm).trans (h.block i hi hn hm)⟩
theorem Touch2.touch {b d : Nat} {x y z : World} (h : Touch2 b d x y) (k : Touch b y z) : Touch2 b d x z := h.trans (.of k)
theorem Touch2.setD_iff {b d : Nat} {a w : World} (o : Nat) (u : Value) : Touch2 b d a (w.setCell ⟨d, o, none⟩ u) ↔ Touch2 b d a w :=
  ⟨fun h => ⟨h.os, h.tape, h.output, by simpa [World.setCell] using h.size, fun i hi hn hm => (Below.heap_setCell _ _ _ _ (show i ≠ (⟨d, o, none⟩ : Addr).block by simpa using hm)).symm.trans (h.block i hi hn hm)⟩,
   fun h => ⟨h.os, h.tape, h.output, by simpa [World.setCell] using h.size, fun i hi hn hm => (Below.heap_setCell _ _ _ _ (show i ≠ (⟨d, o, none⟩ : Addr).block by simpa using hm)).trans (h.block i hi hn hm)⟩⟩
/-- where d is of the call's own -/
theorem Touch2.own {b d : Nat} {x y : World} (h : Touch2 b d x y) (hd : x.heap.size ≤ d) : Touch b x y := ⟨h.os, h.tape, h.output, h.size, fun k hk hn => h.block k hk hn (by omega)⟩

theorem Row.shape {w : World} {v : Value} {n size : Nat} {xs : List Value} (h : Row w v n size xs) : ∃ p l c, v = .slice p l c := by
  rcases h.2 with ⟨rfl, _⟩ | ⟨g, off, cap, rfl, _⟩
  · exact ⟨_, _, _, rfl⟩
  · exact ⟨_, _, _, rfl⟩
/-- block d is none of the reader's -/
structure Free (b d : Nat) (pa : Option Addr) (T : List Lx.Tok) : Prop where
  ne : b ≠ d
  row : T = [] ∨ ∀ g off, pa = some ⟨g, off, none⟩ → g ≠ d
theorem PRd.setD {w : World} {b d : Nat} {pa : Option Addr} {cp : Nat} {T : List Lx.Tok} {e : Nat × Nat} {st : Po.St} (hf : Free b d pa T) (h : PRd w b pa cp T e st) {w' : World} (ht : Touch d w w') : PRd w' b pa cp T e st := by
  refine ⟨h.blk.touch ht hf.ne, ?_, h.le, h.small⟩
  rcases hf.row with h1 | h1
  · exact .inl h1
  · rcases h.row with h2 | ⟨g, off, hp, hr, hn⟩
    · exact .inl h2
    · exact .inr ⟨g, off, hp, hr.touch ht (h1 g off hp), hn⟩
theorem PRd.setD_iff {w : World} {b d : Nat} {pa : Option Addr} {cp : Nat} {T : List Lx.Tok} {e : Nat × Nat} {st : Po.St} (hf : Free b d pa T) (o : Nat) (u : Value) : PRd (w.setCell ⟨d, o, none⟩ u) b pa cp T e st ↔ PRd w b pa cp T e st := by
  have ht : Touch d w (w.setCell ⟨d, o, none⟩ u) := (Touch.refl d w).setCell o u
  exact ⟨fun h => PRd.setD hf h ⟨ht.os.symm, ht.tape.symm, ht.output.symm, by simp [World.setCell], fun i hi hn => (ht.block i (by simpa [World.setCell] using hi) hn).symm⟩, fun h => PRd.setD hf h ht⟩

def declCells (D : Po.Decl) (bv : Value) : Array Value :=
  #[.int .i64 D.kind, .string D.name, .int .i64 D.n, bv, .bool D.role.any, .string D.role.name, .int .i64 D.role.n, .int .i64 D.role.line, .int .i64 D.role.col, .int .i64 D.lo, .int .i64 D.hi,
    .bool D.label.any, .string D.label.name, .int .i64 D.label.n, .int .i64 D.label.line, .int .i64 D.label.col, .bool D.place.any, .string D.place.name, .int .i64 D.place.n, .int .i64 D.place.line, .int .i64 D.place.col,
    .int .i64 D.zoom, .int .i64 D.line, .int .i64 D.col]
def DBlk (w : World) (d : Nat) (D : Po.Decl) (bv : Value) : Prop := Blk w d (declCells D bv) 83

set_option maxRecDepth 100000 in
set_option maxHeartbeats 4000000 in
theorem pnamed_any {w : World} {b d : Nat} {pa : Option Addr} {cp : Nat} {T : List Lx.Tok} {e : Nat × Nat} {st : Po.St} {D : Po.Decl} {bv : Value} (h : PRd w b pa cp T e st) (hf : Free b d pa T) (hd : DBlk w d D bv) :
    Calls Tryz.prog 54 #[.pointer (some ⟨b, 0, none⟩), .pointer (some ⟨d, 0, none⟩)] w fun en w' => en = .returned (.tuple #[]) ∧ PRd w' b pa cp T e (Po.namedS T e st) ∧ DBlk w' d (Po.namedV T e D st) bv ∧ Touch2 b d w w' := by
  have h' := hid h
  have hf' := hid hf
  have hd' := hid hd
  have hdb : d ≠ b := hf.ne.symm
  clear h hf hd
  go_enter Tryz.func54, Tryz.ntmps54
  go_wp2_with fail
  refine (pname_any h'.out).mono ?_
  rintro en w1 ⟨rfl, h1, t1⟩
  have h1' := hid h1
  have q1 := hid (Touch2.of (d := d) t1)
  have d1 := hid (Blk.touch hd'.out t1 hdb)
  clear h1 t1
  have y1 := d1.out.cell 1 (v := .string D.name) rfl
  have yf := d1.out.free
  have yz := d1.out.lt
  have h2 := hid ((PRd.setD_iff hf'.out 1 (.string (Po.txt (Po.takeTok T 1 st).text))).2 h1'.out)
  have q2 := hid ((Touch2.setD_iff 1 (.string (Po.txt (Po.takeTok T 1 st).text))).2 q1.out)
  have d2 := hid (d1.out.set 1 (.string (Po.txt (Po.takeTok T 1 st).text)))
  go_wp2_with fail
  clear y1 yf yz
  refine (pwant_any h2.out _).mono ?_
  rintro en w3 ⟨rfl, h3, t3⟩
  have h3' := hid h3
  have q3 := hid (q2.out.touch t3)
  have d3 := hid (Blk.touch d2.out t3 hdb)
  clear h3 t3
  go_wp2_with fail
  refine (pnumber_any h3'.out).mono ?_
  rintro en w4 ⟨rfl, h4, t4⟩
  have h4' := hid h4
  have q4 := hid (q3.out.touch t4)
  have d4 := hid (Blk.touch d3.out t4 hdb)
  clear h4 t4
  have y1 := d4.out.cell 2 (v := .int .i64 D.n) rfl
  have yf := d4.out.free
  have yz := d4.out.lt
  go_wp2_with fail
  go_end0
  exact ⟨rfl, (PRd.setD_iff hf'.out _ _).2 h4'.out, d4.out.set 2 _, (Touch2.setD_iff _ _).2 q4.out⟩

set_option maxRecDepth 100000 in
set_option maxHeartbeats 4000000 in
theorem pregion_any {w : World} {b d : Nat} {pa : Option Addr} {cp : Nat} {T : List Lx.Tok} {e : Nat × Nat} {st : Po.St} {D : Po.Decl} {bv : Value} (h : PRd w b pa cp T e st) (hf : Free b d pa T) (hd : DBlk w d D bv) :
    Calls Tryz.prog 55 #[.pointer (some ⟨b, 0, none⟩), .pointer (some ⟨d, 0, none⟩)] w fun en w' => en = .returned (.tuple #[]) ∧ ∃ v, PRd w' b pa cp T e (Po.regionS T e st) ∧ DBlk w' d (Po.regionV T e D st) v ∧
      Row w' v (Po.regionV T e D st).boxes.length 4 (boxesCells (Po.regionV T e D st).boxes) ∧ (∀ k, v.ownBlock = some k → w.heap.size ≤ k) ∧ Touch2 b d w w' := by
  have h' := hid h
  have hf' := hid hf
  have hd' := hid hd
  have hdb : d ≠ b := hf.ne.symm
  have hdlt : d < w.heap.size := Blk.lt hd
  clear h hf hd
  go_enter Tryz.func55, Tryz.ntmps55
  go_wp2_with fail
  refine (pname_any h'.out).mono ?_
  rintro en w1 ⟨rfl, h1, t1⟩
  have h1' := hid h1
  have q1 := hid (Touch2.of (d := d) t1)
  have d1 := hid (Blk.touch hd'.out t1 hdb)
  clear h1 t1
  have y1 := d1.out.cell 1 (v := .string D.name) rfl
  have yf := d1.out.free
  have yz := d1.out.lt
  have h2 := hid ((PRd.setD_iff hf'.out 1 (.string (Po.txt (Po.takeTok T 1 st).text))).2 h1'.out)
  have q2 := hid ((Touch2.setD_iff 1 (.string (Po.txt (Po.takeTok T 1 st).text))).2 q1.out)
  have d2 := hid (d1.out.set 1 (.string (Po.txt (Po.takeTok T 1 st).text)))
  go_wp2_with fail
  clear y1 yf yz
  refine (pwant_any h2.out _).mono ?_
  rintro en w3 ⟨rfl, h3, t3⟩
  have h3' := hid h3
  have q3 := hid (q2.out.touch t3)
  have d3 := hid (Blk.touch d2.out t3 hdb)
  clear h3 t3
  go_wp2_with fail
  refine (pboxes_any h3'.out).mono ?_
  rintro en w4 ⟨v, rfl, hrow, hown, h4, t4⟩
  obtain ⟨vp, vl, vc, rfl⟩ := Row.shape hrow
  have h4' := hid h4
  have q4 := hid (q3.out.touch t4)
  have d4 := hid (Blk.touch d3.out t4 hdb)
  have hrow' := hid hrow
  have hown' := hid hown
  have hs3 := q3.out.size
  clear h4 t4 hrow hown
  have y1 := d4.out.cell 3 (v := bv) rfl
  have yf := d4.out.free
  have yz := d4.out.lt
  go_wp2_with fail
  go_end0
  exact ⟨rfl, _, (PRd.setD_iff hf'.out _ _).2 h4'.out, d4.out.set 3 _, hrow'.out.touch ((Touch.refl d w4).setCell _ _) (fun e => by have := hown'.out _ e; omega), fun k hk => Nat.le_trans hs3 (hown'.out k hk), (Touch2.setD_iff _ _).2 q4.out⟩

set_option maxRecDepth 100000 in
set_option maxHeartbeats 4000000 in
theorem pcloak_any {w : World} {b d : Nat} {pa : Option Addr} {cp : Nat} {T : List Lx.Tok} {e : Nat × Nat} {st : Po.St} {D : Po.Decl} {bv : Value} (h : PRd w b pa cp T e st) (hf : Free b d pa T) (hd : DBlk w d D bv) :
    Calls Tryz.prog 56 #[.pointer (some ⟨b, 0, none⟩), .pointer (some ⟨d, 0, none⟩)] w fun en w' => en = .returned (.tuple #[]) ∧ PRd w' b pa cp T e (Po.cloakS T e st) ∧ DBlk w' d (Po.cloakV T e D st) bv ∧ Touch2 b d w w' := by
  have h' := hid h
  have hf' := hid hf
  have hd' := hid hd
  have hdb : d ≠ b := hf.ne.symm
  clear h hf hd
  go_enter Tryz.func56, Tryz.ntmps56
  go_wp2_with fail
  refine (pwant_any h'.out _).mono ?_
  rintro en w1 ⟨rfl, h1, t1⟩
  have h1' := hid h1
  have q1 := hid (Touch2.of (d := d) t1)
  have d1 := hid (Blk.touch hd'.out t1 hdb)
  clear h1 t1
  go_wp2_with fail
  refine (pwho_any h1'.out).mono ?_
  rintro en w2 ⟨rfl, h2, t2⟩
  have h2' := hid h2
  have q2 := hid (q1.out.touch t2)
  have d2 := hid (Blk.touch d1.out t2 hdb)
  clear h2 t2
  have y0 := d2.out.cell 4 (v := .bool D.role.any) rfl
  have y1 := d2.out.cell 5 (v := .string D.role.name) rfl
  have y2 := d2.out.cell 6 (v := .int .i64 D.role.n) rfl
  have y3 := d2.out.cell 7 (v := .int .i64 D.role.line) rfl
  have y4 := d2.out.cell 8 (v := .int .i64 D.role.col) rfl
  have yf := d2.out.free
  have yz := d2.out.lt
  unfold pwhoV
  go_wp2_with fail
  go_end0
  exact ⟨rfl, (by simp only [PRd.setD_iff hf'.out]; exact h2'.out), ((((d2.out.set 4 _).set 5 _).set 6 _).set 7 _).set 8 _, (by simp only [Touch2.setD_iff]; exact q2.out)⟩

set_option maxRecDepth 100000 in
set_option maxHeartbeats 8000000 in
theorem prule_any {w : World} {b d : Nat} {pa : Option Addr} {cp : Nat} {T : List Lx.Tok} {e : Nat × Nat} {st : Po.St} {D : Po.Decl} {bv : Value} (h : PRd w b pa cp T e st) (hf : Free b d pa T) (hd : DBlk w d D bv) :
    Calls Tryz.prog 52 #[.pointer (some ⟨b, 0, none⟩), .pointer (some ⟨d, 0, none⟩)] w fun en w' => en = .returned (.tuple #[]) ∧ PRd w' b pa cp T e (Po.ruleS T e st) ∧ DBlk w' d (Po.ruleV T e D st) bv ∧ Touch2 b d w w' := by
  have h' := hid h
  have hf' := hid hf
  have hd' := hid hd
  have hdb : d ≠ b := hf.ne.symm
  clear h hf hd
  have es := hid (show Po.ruleS T e st = Po.takeSt T e 3 (Po.rs4 T e st) from rfl)
  have ed := hid (show Po.ruleV T e D st = { D with role := Po.whoV T e (Po.want T e Po.wRole st), lo := Po.loV T (Po.rs1 T e st), hi := Po.hiV T e (Po.rs1 T e st), label := Po.whoV T e (Po.rs2 T e st), place := Po.whereV T e (Po.rs3 T e st), zoom := (Po.takeTok T 3 (Po.rs4 T e st)).n } from rfl)
  have ec := hid (show Po.cloakV T e D st = { D with role := Po.whoV T e (Po.want T e Po.wRole st) } from rfl)
  have e1 := hid (show Po.want T e Po.wTier (Po.cloakS T e st) = Po.rs1 T e st from rfl)
  have e2 := hid (show Po.want T e Po.wLabel (Po.tiersS T e (Po.rs1 T e st)) = Po.rs2 T e st from rfl)
  have e3 := hid (show Po.want T e Po.wIn (Po.whoS T e (Po.rs2 T e st)) = Po.rs3 T e st from rfl)
  have e4 := hid (show Po.want T e Po.wZoom (Po.whereS T e (Po.rs3 T e st)) = Po.rs4 T e st from rfl)
  go_enter Tryz.func52, Tryz.ntmps52
  go_wp2_with fail
  refine (pcloak_any h'.out hf'.out hd'.out).mono ?_
  rintro en w1 ⟨rfl, h1, d1, q1⟩
  have h1' := hid h1
  have d1' := hid d1
  have q1' := hid q1
  rw [ec.out] at d1'
  clear h1 d1 q1 ec
  go_wp2_with fail
  refine (pwant_any h1'.out _).mono ?_
  rintro en w2 ⟨rfl, h2, t2⟩
  have h2' := hid (e1.out ▸ (show PRd w2 b pa cp T e _ from h2))
  have q2' := hid (q1'.out.touch t2)
  have d2' := hid (Blk.touch d1'.out t2 hdb)
  clear h2 t2
  go_wp2_with fail
  refine (ptiers_any h2'.out).mono ?_
  rintro en w3 ⟨rfl, h3, t3⟩
  have h3' := hid h3
  have q3' := hid (q2'.out.touch t3)
  have d3' := hid (Blk.touch d2'.out t3 hdb)
  clear h3 t3
  have y9 := Blk.cell d3'.out 9 (v := .int .i64 D.lo) rfl
  have y10 := Blk.cell d3'.out 10 (v := .int .i64 D.hi) rfl
  have yf := Blk.free d3'.out
  have yz := Blk.lt d3'.out
  have h30' := hid (show PRd (((w3).setCell ⟨d, 9, none⟩ (.int .i64 (Po.loV T (Po.rs1 T e st)))).setCell ⟨d, 10, none⟩ (.int .i64 (Po.hiV T e (Po.rs1 T e st)))) b pa cp T e _ from (by simp only [PRd.setD_iff hf'.out]; exact h3'.out))
  have q30' := hid (show Touch2 b d w (((w3).setCell ⟨d, 9, none⟩ (.int .i64 (Po.loV T (Po.rs1 T e st)))).setCell ⟨d, 10, none⟩ (.int .i64 (Po.hiV T e (Po.rs1 T e st)))) from (by simp only [Touch2.setD_iff]; exact q3'.out))
  have d30' := hid (show DBlk (((w3).setCell ⟨d, 9, none⟩ (.int .i64 (Po.loV T (Po.rs1 T e st)))).setCell ⟨d, 10, none⟩ (.int .i64 (Po.hiV T e (Po.rs1 T e st)))) d ({ D with role := Po.whoV T e (Po.want T e Po.wRole st), lo := Po.loV T (Po.rs1 T e st), hi := Po.hiV T e (Po.rs1 T e st) }) bv from (Blk.set ((Blk.set (d3'.out) 9 (.int .i64 (Po.loV T (Po.rs1 T e st))))) 10 (.int .i64 (Po.hiV T e (Po.rs1 T e st)))))
  clear h3' q3' d3'
  go_wp2_with fail
  clear y9 y10 yf yz
  refine (pwant_any h30'.out _).mono ?_
  rintro en w4 ⟨rfl, h4, t4⟩
  have h4' := hid (e2.out ▸ (show PRd w4 b pa cp T e _ from h4))
  have q4' := hid (q30'.out.touch t4)
  have d4' := hid (Blk.touch d30'.out t4 hdb)
  clear h4 t4
  go_wp2_with fail
  refine (pwho_any h4'.out).mono ?_
  rintro en w5 ⟨rfl, h5, t5⟩
  have h5' := hid h5
  have q5' := hid (q4'.out.touch t5)
  have d5' := hid (Blk.touch d4'.out t5 hdb)
  clear h5 t5
  have y11 := Blk.cell d5'.out 11 (v := .bool D.label.any) rfl
  have y12 := Blk.cell d5'.out 12 (v := .string D.label.name) rfl
  have y13 := Blk.cell d5'.out 13 (v := .int .i64 D.label.n) rfl
  have y14 := Blk.cell d5'.out 14 (v := .int .i64 D.label.line) rfl
  have y15 := Blk.cell d5'.out 15 (v := .int .i64 D.label.col) rfl
  have yf := Blk.free d5'.out
  have yz := Blk.lt d5'.out
  have h50' := hid (show PRd ((((((w5).setCell ⟨d, 11, none⟩ (.bool (Po.whoV T e (Po.rs2 T e st)).any)).setCell ⟨d, 12, none⟩ (.string (Po.whoV T e (Po.rs2 T e st)).name)).setCell ⟨d, 13, none⟩ (.int .i64 (Po.whoV T e (Po.rs2 T e st)).n)).setCell ⟨d, 14, none⟩ (.int .i64 (Po.whoV T e (Po.rs2 T e st)).line)).setCell ⟨d, 15, none⟩ (.int .i64 (Po.whoV T e (Po.rs2 T e st)).col)) b pa cp T e _ from (by simp only [PRd.setD_iff hf'.out]; exact h5'.out))
  have q50' := hid (show Touch2 b d w ((((((w5).setCell ⟨d, 11, none⟩ (.bool (Po.whoV T e (Po.rs2 T e st)).any)).setCell ⟨d, 12, none⟩ (.string (Po.whoV T e (Po.rs2 T e st)).name)).setCell ⟨d, 13, none⟩ (.int .i64 (Po.whoV T e (Po.rs2 T e st)).n)).setCell ⟨d, 14, none⟩ (.int .i64 (Po.whoV T e (Po.rs2 T e st)).line)).setCell ⟨d, 15, none⟩ (.int .i64 (Po.whoV T e (Po.rs2 T e st)).col)) from (by simp only [Touch2.setD_iff]; exact q5'.out))
  have d50' := hid (show DBlk ((((((w5).setCell ⟨d, 11, none⟩ (.bool (Po.whoV T e (Po.rs2 T e st)).any)).setCell ⟨d, 12, none⟩ (.string (Po.whoV T e (Po.rs2 T e st)).name)).setCell ⟨d, 13, none⟩ (.int .i64 (Po.whoV T e (Po.rs2 T e st)).n)).setCell ⟨d, 14, none⟩ (.int .i64 (Po.whoV T e (Po.rs2 T e st)).line)).setCell ⟨d, 15, none⟩ (.int .i64 (Po.whoV T e (Po.rs2 T e st)).col)) d ({ D with role := Po.whoV T e (Po.want T e Po.wRole st), lo := Po.loV T (Po.rs1 T e st), hi := Po.hiV T e (Po.rs1 T e st), label := Po.whoV T e (Po.rs2 T e st) }) bv from (Blk.set ((Blk.set ((Blk.set ((Blk.set ((Blk.set (d5'.out) 11 (.bool (Po.whoV T e (Po.rs2 T e st)).any))) 12 (.string (Po.whoV T e (Po.rs2 T e st)).name))) 13 (.int .i64 (Po.whoV T e (Po.rs2 T e st)).n))) 14 (.int .i64 (Po.whoV T e (Po.rs2 T e st)).line))) 15 (.int .i64 (Po.whoV T e (Po.rs2 T e st)).col)))
  clear h5' q5' d5'
  unfold pwhoV
  go_wp2_with fail
  clear y11 y12 y13 y14 y15 yf yz
  refine (pwant_any h50'.out _).mono ?_
  rintro en w6 ⟨rfl, h6, t6⟩
  have h6' := hid (e3.out ▸ (show PRd w6 b pa cp T e _ from h6))
  have q6' := hid (q50'.out.touch t6)
  have d6' := hid (Blk.touch d50'.out t6 hdb)
  clear h6 t6
  go_wp2_with fail
  refine (pwhere_any h6'.out).mono ?_
  rintro en w7 ⟨rfl, h7, t7⟩
  have h7' := hid h7
  have q7' := hid (q6'.out.touch t7)
  have d7' := hid (Blk.touch d6'.out t7 hdb)
  clear h7 t7
  have y16 := Blk.cell d7'.out 16 (v := .bool D.place.any) rfl
  have y17 := Blk.cell d7'.out 17 (v := .string D.place.name) rfl
  have y18 := Blk.cell d7'.out 18 (v := .int .i64 D.place.n) rfl
  have y19 := Blk.cell d7'.out 19 (v := .int .i64 D.place.line) rfl
  have y20 := Blk.cell d7'.out 20 (v := .int .i64 D.place.col) rfl
  have yf := Blk.free d7'.out
  have yz := Blk.lt d7'.out
  have h70' := hid (show PRd ((((((w7).setCell ⟨d, 16, none⟩ (.bool (Po.whereV T e (Po.rs3 T e st)).any)).setCell ⟨d, 17, none⟩ (.string (Po.whereV T e (Po.rs3 T e st)).name)).setCell ⟨d, 18, none⟩ (.int .i64 (Po.whereV T e (Po.rs3 T e st)).n)).setCell ⟨d, 19, none⟩ (.int .i64 (Po.whereV T e (Po.rs3 T e st)).line)).setCell ⟨d, 20, none⟩ (.int .i64 (Po.whereV T e (Po.rs3 T e st)).col)) b pa cp T e _ from (by simp only [PRd.setD_iff hf'.out]; exact h7'.out))
  have q70' := hid (show Touch2 b d w ((((((w7).setCell ⟨d, 16, none⟩ (.bool (Po.whereV T e (Po.rs3 T e st)).any)).setCell ⟨d, 17, none⟩ (.string (Po.whereV T e (Po.rs3 T e st)).name)).setCell ⟨d, 18, none⟩ (.int .i64 (Po.whereV T e (Po.rs3 T e st)).n)).setCell ⟨d, 19, none⟩ (.int .i64 (Po.whereV T e (Po.rs3 T e st)).line)).setCell ⟨d, 20, none⟩ (.int .i64 (Po.whereV T e (Po.rs3 T e st)).col)) from (by simp only [Touch2.setD_iff]; exact q7'.out))
  have d70' := hid (show DBlk ((((((w7).setCell ⟨d, 16, none⟩ (.bool (Po.whereV T e (Po.rs3 T e st)).any)).setCell ⟨d, 17, none⟩ (.string (Po.whereV T e (Po.rs3 T e st)).name)).setCell ⟨d, 18, none⟩ (.int .i64 (Po.whereV T e (Po.rs3 T e st)).n)).setCell ⟨d, 19, none⟩ (.int .i64 (Po.whereV T e (Po.rs3 T e st)).line)).setCell ⟨d, 20, none⟩ (.int .i64 (Po.whereV T e (Po.rs3 T e st)).col)) d ({ D with role := Po.whoV T e (Po.want T e Po.wRole st), lo := Po.loV T (Po.rs1 T e st), hi := Po.hiV T e (Po.rs1 T e st), label := Po.whoV T e (Po.rs2 T e st), place := Po.whereV T e (Po.rs3 T e st) }) bv from (Blk.set ((Blk.set ((Blk.set ((Blk.set ((Blk.set (d7'.out) 16 (.bool (Po.whereV T e (Po.rs3 T e st)).any))) 17 (.string (Po.whereV T e (Po.rs3 T e st)).name))) 18 (.int .i64 (Po.whereV T e (Po.rs3 T e st)).n))) 19 (.int .i64 (Po.whereV T e (Po.rs3 T e st)).line))) 20 (.int .i64 (Po.whereV T e (Po.rs3 T e st)).col)))
  clear h7' q7' d7'
  unfold pwhoV
  go_wp2_with fail
  clear y16 y17 y18 y19 y20 yf yz
  refine (pwant_any h70'.out _).mono ?_
  rintro en w8 ⟨rfl, h8, t8⟩
  have h8' := hid (e4.out ▸ (show PRd w8 b pa cp T e _ from h8))
  have q8' := hid (q70'.out.touch t8)
  have d8' := hid (Blk.touch d70'.out t8 hdb)
  clear h8 t8
  go_wp2_with fail
  refine (pnumber_any h8'.out).mono ?_
  rintro en w9 ⟨rfl, h9, t9⟩
  have h9' := hid h9
  have q9' := hid (q8'.out.touch t9)
  have d9' := hid (Blk.touch d8'.out t9 hdb)
  clear h9 t9
  have y21 := Blk.cell d9'.out 21 (v := .int .i64 D.zoom) rfl
  have yf := Blk.free d9'.out
  have yz := Blk.lt d9'.out
  have h90' := hid (show PRd ((w9).setCell ⟨d, 21, none⟩ (.int .i64 (Po.takeTok T 3 (Po.rs4 T e st)).n)) b pa cp T e _ from (by simp only [PRd.setD_iff hf'.out]; exact h9'.out))
  have q90' := hid (show Touch2 b d w ((w9).setCell ⟨d, 21, none⟩ (.int .i64 (Po.takeTok T 3 (Po.rs4 T e st)).n)) from (by simp only [Touch2.setD_iff]; exact q9'.out))
  have d90' := hid (show DBlk ((w9).setCell ⟨d, 21, none⟩ (.int .i64 (Po.takeTok T 3 (Po.rs4 T e st)).n)) d ({ D with role := Po.whoV T e (Po.want T e Po.wRole st), lo := Po.loV T (Po.rs1 T e st), hi := Po.hiV T e (Po.rs1 T e st), label := Po.whoV T e (Po.rs2 T e st), place := Po.whereV T e (Po.rs3 T e st), zoom := (Po.takeTok T 3 (Po.rs4 T e st)).n }) bv from (Blk.set (d9'.out) 21 (.int .i64 (Po.takeTok T 3 (Po.rs4 T e st)).n)))
  clear h9' q9' d9'
  go_wp2_with fail
  go_end0
  exact ⟨rfl, h90'.out, d90'.out, q90'.out⟩

end Go.Proofs.YteddkgpnklfppaaGreatDoor

namespace Go.Proofs.YteddkgpnklfppaaGreatDoor.Ru
open Po (Box Who Decl)

structure Rule where
  kind : Int
  roles : Int
  lo : Int
  hi : Int
  labels : Int
  boxes : List Box
  zoom : Int

def inside (n : Int) : Bool := decide (0 ≤ n) && decide (n ≤ 65535)
def fits (x y : Int) : Bool := inside x && inside y
def boxR (b : Box) : Bool := (fits b.x0 b.y0 && fits b.x1 b.y1) && decide (b.x0 ≤ b.x1) && decide (b.y0 ≤ b.y1)
def boxHas (b : Box) (x y : Int) : Bool := boxR b && fits x y && (decide (b.x0 ≤ x) && decide (x ≤ b.x1) && decide (b.y0 ≤ y) && decide (y ≤ b.y1))
def small (n m : Int) : Bool := decide (0 ≤ n) && decide (n ≤ m)
def boxesR (l : List Box) : Bool := l.all boxR
def ruleR (r : Rule) : Bool :=
  if r.kind = 6 then small r.roles 255 && r.lo == 0 && r.hi == 0 && r.labels == 0 && ((r.boxes.length : Int) == 0) && r.zoom == 0
  else if r.kind = 4 ∨ r.kind = 5 then small r.roles 255 && decide (0 ≤ r.lo) && decide (r.lo ≤ r.hi) && decide (r.hi ≤ 7) && small r.labels 255 && boxesR r.boxes && small r.zoom 16
  else false
def rulesR (l : List Rule) : Bool := l.all ruleR
/-- is n one of a sum's? -/
def inSum (sum n : Int) : Bool := sum.toNat / 2 ^ n.toNat % 2 == 1
def numbers3 (role tier label : Int) : Bool := small role 7 && small tier 7 && small label 7
def forR (r : Rule) (role tier label : Int) : Bool :=
  ruleR r && r.kind != 6 && numbers3 role tier label && inSum r.roles role && decide (r.lo ≤ tier) && decide (tier ≤ r.hi) && inSum r.labels label
def hasB (l : List Box) (x y : Int) : Bool := l.any fun b => boxHas b x y
def zoomStep (role tier label x y : Int) (p : Int × Int) (r : Rule) : Int × Int :=
  if forR r role tier label && hasB r.boxes x y then (if r.kind = 4 then (max p.1 r.zoom, p.2) else (p.1, min p.2 r.zoom)) else p
def zoomV (l : List Rule) (role tier label x y : Int) : Int :=
  if rulesR l then (let p := l.foldl (zoomStep role tier label x y) (0, 16); min p.1 p.2) else 0
def cloaksV (l : List Rule) (role : Int) : Bool := rulesR l && small role 7 && l.any fun r => r.kind == 6 && inSum r.roles role

/-! ### the reference's -/
def rruleR (r : Rule) : Bool :=
  r.boxes.all boxR && (if r.kind = 6 then small r.roles 255 && r.lo == 0 && r.hi == 0 && r.labels == 0 && ((r.boxes.length : Int) == 0) && r.zoom == 0
  else (r.kind == 4 || r.kind == 5) && small r.roles 255 && small r.labels 255 && decide (0 ≤ r.lo) && decide (r.lo ≤ r.hi) && decide (r.hi ≤ 7) && decide (0 ≤ r.zoom) && decide (r.zoom ≤ 16))
def rforR (r : Rule) (role tier label : Int) : Bool :=
  rruleR r && decide (r.kind < 6) && small role 7 && small tier 7 && small label 7 && inSum r.roles role && decide (r.lo ≤ tier) && decide (tier ≤ r.hi) && inSum r.labels label
def rfor2 (r : Rule) (role tier label x y : Int) : Bool := rforR r role tier label && fits x y && r.boxes.any fun b => boxHas b x y
def rstepA (role tier label x y : Int) (z : Int) (r : Rule) : Int := if r.kind == 4 && decide (z < r.zoom) && rfor2 r role tier label x y then r.zoom else z
def rstepC (role tier label x y : Int) (z : Int) (r : Rule) : Int := if r.kind == 5 && decide (r.zoom < z) && rfor2 r role tier label x y then r.zoom else z
def rzoomV (l : List Rule) (role tier label x y : Int) : Int :=
  if l.all rruleR then l.foldl (rstepC role tier label x y) (l.foldl (rstepA role tier label x y) 0) else 0
def rcloaksV (l : List Rule) (role : Int) : Bool := (l.any fun r => r.kind == 6 && small role 7 && inSum r.roles role) && l.all rruleR

/-! ### what declarations come to -/
def declared (l : List Decl) (k : Int) (nm : ByteArray) : Option Decl := l.find? fun d => d.kind == k && d.name == nm
abbrev F3 := Int × Int × Int
structure Ck where
  rules : List Rule
  boxes : Int
  f : F3
def Ck.wrong (c : Ck) (e l k : Int) : Ck := if c.f.1 = 0 then { c with f := (e, l, k) } else c
def Ck.wrongIf (c : Ck) (e l k : Int) : Ck := if e = 0 then c else c.wrong e l k
def whoN (ahead : List Decl) (k : Int) (w : Who) : Int :=
  if w.name.data.toList = [] then w.n else match declared ahead k w.name with | some d => d.n | none => 0
/-- a who's sum; its error -/
def setN (ahead : List Decl) (k : Int) (w : Who) : Int := if w.any then 255 else if 7 < whoN ahead k w then 0 else 2 ^ (whoN ahead k w).toNat
def setE (ahead : List Decl) (k : Int) (w : Who) : Int :=
  if w.any then 0 else if w.name.data.toList ≠ [] ∧ declared ahead k w.name = none then 21 else if 7 < whoN ahead k w then 33 else 0
def grid : Box := ⟨0, 0, 65535, 65535⟩
def whereB (ahead : List Decl) (w : Who) : List Box := if w.any then [grid] else match declared ahead 3 w.name with | some d => d.boxes | none => []
def whereE (ahead : List Decl) (w : Who) : Int := if w.any then 0 else match declared ahead 3 w.name with | some _ => 0 | none => 21
def ckLong (c : Ck) (d : Decl) : Ck := if c.rules.length = 32 then c.wrong 2 d.line d.col else c
def ckRole (ahead : List Decl) (c : Ck) (d : Decl) : Ck := (ckLong c d).wrongIf (setE ahead 1 d.role) d.role.line d.role.col
def ckTier (ahead : List Decl) (c : Ck) (d : Decl) : Ck := if d.hi < d.lo ∨ 7 < d.hi then (ckRole ahead c d).wrong 33 d.line d.col else ckRole ahead c d
def ckLabel (ahead : List Decl) (c : Ck) (d : Decl) : Ck := (ckTier ahead c d).wrongIf (setE ahead 2 d.label) d.label.line d.label.col
def ckWhere (ahead : List Decl) (c : Ck) (d : Decl) : Ck := (ckLabel ahead c d).wrongIf (whereE ahead d.place) d.place.line d.place.col
def ckMore (ahead : List Decl) (c : Ck) (d : Decl) : Ck := { ckWhere ahead c d with boxes := c.boxes + (whereB ahead d.place).length }
def ckBoxes (ahead : List Decl) (c : Ck) (d : Decl) : Ck := if 32 < (ckMore ahead c d).boxes then (ckMore ahead c d).wrong 2 d.line d.col else ckMore ahead c d
def ckZoom (ahead : List Decl) (c : Ck) (d : Decl) : Ck := if 16 < d.zoom then (ckBoxes ahead c d).wrong 33 d.line d.col else ckBoxes ahead c d
def ckCloak (ahead : List Decl) (c : Ck) (d : Decl) : Ck := { ckRole ahead c d with rules := c.rules ++ [⟨d.kind, setN ahead 1 d.role, 0, 0, 0, [], 0⟩] }
def ckRuleOf (ahead : List Decl) (d : Decl) : Rule := ⟨d.kind, setN ahead 1 d.role, d.lo, d.hi, setN ahead 2 d.label, whereB ahead d.place, d.zoom⟩
def ckRule (ahead : List Decl) (c : Ck) (d : Decl) : Ck :=
  if d.kind = 6 then ckCloak ahead c d else { ckZoom ahead c d with rules := c.rules ++ [ckRuleOf ahead d] }
def ckNumber (ahead : List Decl) (c : Ck) (d : Decl) : Ck :=
  if (declared ahead d.kind d.name).isSome then c.wrong 20 d.line d.col else if 7 < d.n then c.wrong 33 d.line d.col else c
def ckRegion (ahead : List Decl) (c : Ck) (d : Decl) : Ck :=
  if (declared ahead 3 d.name).isSome then c.wrong 20 d.line d.col else if boxesR d.boxes then c else c.wrong 33 d.line d.col
def ckDecl (ahead : List Decl) (c : Ck) (d : Decl) : Ck :=
  if d.kind = 1 ∨ d.kind = 2 then ckNumber ahead c d else if d.kind = 3 then ckRegion ahead c d else ckRule ahead c d
def ckRun : List Decl → List Decl → Ck → Except F3 (List Rule)
  | _, [], c => .ok c.rules
  | a, d :: r, c => if (ckDecl a c d).f.1 = 0 then ckRun (a ++ [d]) r (ckDecl a c d) else .error (ckDecl a c d).f

/-! ### what a declaration may be -/
def num (n : Int) : Bool := decide (0 ≤ n) && decide (n ≤ 65535)
def zeroW (w : Who) : Bool := !w.any && w.name.data.toList == [] && w.n == 0
def rightW (w : Who) : Bool := if w.any then w.name.data.toList == [] && w.n == 0 else if w.name.data.toList == [] then num w.n else w.n == 0 && Lx.isName w.name.data.toList
def placeW (w : Who) : Bool := rightW w && (w.any || w.name.data.toList != [])
def ruleD (d : Decl) : Bool := rightW d.role && (num d.lo && num d.hi && num d.zoom) && rightW d.label && placeW d.place
def noRule (d : Decl) : Bool := d.lo == 0 && d.hi == 0 && d.zoom == 0 && zeroW d.label && zeroW d.place
def noName (d : Decl) : Bool := d.name.data.toList == [] && d.n == 0 && ((d.boxes.length : Int) == 0)
def boxN (b : Box) : Bool := num b.x0 && num b.y0 && num b.x1 && num b.y1
def boxesN (l : List Box) : Bool := l.all boxN && decide ((0 : Int) < l.length)
def may (d : Decl) : Bool :=
  if d.kind = 1 ∨ d.kind = 2 then Lx.isName d.name.data.toList && num d.n && ((d.boxes.length : Int) == 0) && zeroW d.role && noRule d
  else if d.kind = 3 then Lx.isName d.name.data.toList && d.n == 0 && boxesN d.boxes && zeroW d.role && noRule d
  else if d.kind = 4 ∨ d.kind = 5 then noName d && ruleD d
  else if d.kind = 6 then noName d && rightW d.role && noRule d
  else false
def checkV (l : List Decl) : Except F3 (List Rule) := if l.all may then ckRun [] l ⟨[], 0, (0, 0, 0)⟩ else .error (1, 0, 0)

end Go.Proofs.YteddkgpnklfppaaGreatDoor.Ru
