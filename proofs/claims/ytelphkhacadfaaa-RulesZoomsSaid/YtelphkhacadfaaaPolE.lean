/- The walks of the policy's reader: box, boxes. -/
import Derived.Test.YtelphkhacadfaaaPolD
namespace Go.Proofs.Ytelphkhacadfaaa
open Go.RowKit Go.Sort

theorem Blk.four {w : World} {b : Nat} {x y z u : Value} {t : TypeId} (h : Blk w b #[x, y, z, u] t) : w.cell? ⟨b, 0, none⟩ = some x ∧ w.cell? ⟨b, 1, none⟩ = some y ∧ w.cell? ⟨b, 2, none⟩ = some z ∧ w.cell? ⟨b, 3, none⟩ = some u ∧ (∀ o, w.frozen? ⟨b, o, none⟩ = false) ∧ b < w.heap.size :=
  ⟨h.cell 0 rfl, h.cell 1 rfl, h.cell 2 rfl, h.cell 3 rfl, h.free, h.lt⟩
def pboxV (x : Po.Box) : Value := .agg #[.int .i64 x.x0, .int .i64 x.y0, .int .i64 x.x1, .int .i64 x.y1]

set_option maxRecDepth 100000 in
set_option maxHeartbeats 4000000 in
theorem pbox_any {w : World} {b : Nat} {pa : Option Addr} {cp : Nat} {T : List Lx.Tok} {e : Nat × Nat} {st : Po.St} (h : PRd w b pa cp T e st) :
    Calls Try.prog 117 #[.pointer (some ⟨b, 0, none⟩)] w fun en w' => en = .returned (pboxV (Po.boxV T e st)) ∧ PRd w' b pa cp T e (Po.boxS T e st) ∧ Touch b w w' := by
  have h' := hid h
  have hblt : b < w.heap.size := h.blk.lt
  have hn1 := Nat.le_refl w.heap.size
  have hn2 : w.heap.size ≤ w.heap.size + 1 := by omega
  have hnb : w.heap.size ≠ b := by omega
  have hnb1 : w.heap.size + 1 ≠ b := by omega
  have hne : w.heap.size ≠ w.heap.size + 1 := by omega
  have hne' : w.heap.size + 1 ≠ w.heap.size := by omega
  have hz1 := balloc w (.cells #[.int .i64 0, .int .i64 0, .int .i64 0, .int .i64 0] 69)
  have hz2 := balloc (w.alloc (.cells #[.int .i64 0, .int .i64 0, .int .i64 0, .int .i64 0] 69)) (.cells #[.int .i64 0, .int .i64 0, .int .i64 0, .int .i64 0] 133)
  have ha := hid ((h.ext hz1).ext hz2)
  have qa := hid ((Touch.of_below (b := b) hz1).below hz2)
  have ra := hid ((Blk.new w #[.int .i64 0, .int .i64 0, .int .i64 0, .int .i64 0] 69).ext hz2)
  have ba := hid (Blk.newAt (w := w.alloc (.cells #[.int .i64 0, .int .i64 0, .int .i64 0, .int .i64 0] 69)) (k := w.heap.size + 1) (by simp) #[.int .i64 0, .int .i64 0, .int .i64 0, .int .i64 0] 133)
  clear h hz1 hz2
  go_enter Try.func117, Try.ntmps117
  go_wp2_with fail
  go_loopg [5] 4 (fun g u wr => ∃ k : Nat, u = .int .i64 k ∧ k + g = 4 ∧ PRd wr b pa cp T e (Po.nth T e st k) ∧
    Blk wr (w.heap.size + 1) #[.int .i64 (Po.upto T e st k 0), .int .i64 (Po.upto T e st k 1), .int .i64 (Po.upto T e st k 2), .int .i64 (Po.upto T e st k 3)] 133 ∧ Blk wr w.heap.size #[.int .i64 0, .int .i64 0, .int .i64 0, .int .i64 0] 69 ∧ Touch b w wr)
  case atStart => exact ⟨0, rfl, rfl, ha.out, ba.out, ra.out, qa.out⟩
  case round =>
    obtain ⟨k, rfl, hk, hP, hB, hR, hQ⟩ := hrel
    have hk5 : k = 0 ∨ k = 1 ∨ k = 2 ∨ k = 3 ∨ k = 4 := by omega
    rcases hk5 with rfl | rfl | rfl | rfl | rfl
    · have hB2 := hid (show Blk wr (w.heap.size + 1) #[.int .i64 (0 : Nat), .int .i64 (0 : Nat), .int .i64 (0 : Nat), .int .i64 (0 : Nat)] 133 from hB)
      have hP' := hid hP
      have hR' := hid hR
      have hQ' := hid hQ
      clear hB hP hR hQ
      go_wp2_with fail
      refine (pnumber_any hP'.out).mono ?_
      rintro en w2 ⟨rfl, h2, t2⟩
      have h2' := hid h2
      have q2 := hid (hQ'.out.trans t2)
      have b2 := hid (hB2.out.touch t2 hnb1)
      have r2 := hid (hR'.out.touch t2 hnb)
      clear h2 t2
      obtain ⟨y0, y1, y2, y3, yf, yz⟩ := b2.out.four
      go_wp2_with fail
      go_roundg 3
      case measure => omega
      case rel => exact ⟨1, rfl, rfl, (by simp only [PRd.setOld_iff h'.out hn2]; exact h2'.out), b2.out.set 0 _, r2.out.setOther hne _ _, (by simp only [Touch.setNew_iff hn2]; exact q2.out)⟩
    · have hB2 := hid (show Blk wr (w.heap.size + 1) #[.int .i64 (Po.num T e st 0 : Nat), .int .i64 (0 : Nat), .int .i64 (0 : Nat), .int .i64 (0 : Nat)] 133 from hB)
      have hP' := hid hP
      have hR' := hid hR
      have hQ' := hid hQ
      clear hB hP hR hQ
      go_wp2_with fail
      refine (pnumber_any hP'.out).mono ?_
      rintro en w2 ⟨rfl, h2, t2⟩
      have h2' := hid h2
      have q2 := hid (hQ'.out.trans t2)
      have b2 := hid (hB2.out.touch t2 hnb1)
      have r2 := hid (hR'.out.touch t2 hnb)
      clear h2 t2
      obtain ⟨y0, y1, y2, y3, yf, yz⟩ := b2.out.four
      go_wp2_with fail
      go_roundg 2
      case measure => omega
      case rel => exact ⟨2, rfl, rfl, (by simp only [PRd.setOld_iff h'.out hn2]; exact h2'.out), b2.out.set 1 _, r2.out.setOther hne _ _, (by simp only [Touch.setNew_iff hn2]; exact q2.out)⟩
    · have hB2 := hid (show Blk wr (w.heap.size + 1) #[.int .i64 (Po.num T e st 0 : Nat), .int .i64 (Po.num T e st 1 : Nat), .int .i64 (0 : Nat), .int .i64 (0 : Nat)] 133 from hB)
      have hP' := hid hP
      have hR' := hid hR
      have hQ' := hid hQ
      clear hB hP hR hQ
      go_wp2_with fail
      refine (pnumber_any hP'.out).mono ?_
      rintro en w2 ⟨rfl, h2, t2⟩
      have h2' := hid h2
      have q2 := hid (hQ'.out.trans t2)
      have b2 := hid (hB2.out.touch t2 hnb1)
      have r2 := hid (hR'.out.touch t2 hnb)
      clear h2 t2
      obtain ⟨y0, y1, y2, y3, yf, yz⟩ := b2.out.four
      go_wp2_with fail
      go_roundg 1
      case measure => omega
      case rel => exact ⟨3, rfl, rfl, (by simp only [PRd.setOld_iff h'.out hn2]; exact h2'.out), b2.out.set 2 _, r2.out.setOther hne _ _, (by simp only [Touch.setNew_iff hn2]; exact q2.out)⟩
    · have hB2 := hid (show Blk wr (w.heap.size + 1) #[.int .i64 (Po.num T e st 0 : Nat), .int .i64 (Po.num T e st 1 : Nat), .int .i64 (Po.num T e st 2 : Nat), .int .i64 (0 : Nat)] 133 from hB)
      have hP' := hid hP
      have hR' := hid hR
      have hQ' := hid hQ
      clear hB hP hR hQ
      go_wp2_with fail
      refine (pnumber_any hP'.out).mono ?_
      rintro en w2 ⟨rfl, h2, t2⟩
      have h2' := hid h2
      have q2 := hid (hQ'.out.trans t2)
      have b2 := hid (hB2.out.touch t2 hnb1)
      have r2 := hid (hR'.out.touch t2 hnb)
      clear h2 t2
      obtain ⟨y0, y1, y2, y3, yf, yz⟩ := b2.out.four
      go_wp2_with fail
      go_roundg 0
      case measure => omega
      case rel => exact ⟨4, rfl, rfl, (by simp only [PRd.setOld_iff h'.out hn2]; exact h2'.out), b2.out.set 3 _, r2.out.setOther hne _ _, (by simp only [Touch.setNew_iff hn2]; exact q2.out)⟩
    · have hB2 := hid (show Blk wr (w.heap.size + 1) #[.int .i64 (Po.num T e st 0 : Nat), .int .i64 (Po.num T e st 1 : Nat), .int .i64 (Po.num T e st 2 : Nat), .int .i64 (Po.num T e st 3 : Nat)] 133 from hB)
      have hP' := hid hP
      have hR' := hid hR
      have hQ' := hid hQ
      clear hB hP hR hQ
      obtain ⟨y0, y1, y2, y3, yf, yz⟩ := hB2.out.four
      obtain ⟨x0, x1, x2, x3, xf, xz⟩ := hR'.out.four
      go_wp2_with fail
      exact bodyPost_ret (v := .agg #[.int .i64 (Po.num T e st 0 : Nat), .int .i64 (Po.num T e st 1 : Nat), .int .i64 (Po.num T e st 2 : Nat), .int .i64 (Po.num T e st 3 : Nat)]) (by simp [results, Try.results117, go_sem, x0, x1, x2, x3]) rfl ⟨rfl, (by simp only [PRd.setOld_iff h'.out hn1]; exact hP'.out), (by simp only [Touch.setNew_iff hn1]; exact hQ'.out)⟩

theorem Try.infoRect : (Try.prog.info? 69).map (fun i => (i.zero, i.size, i.bytes)) = some (some (.agg #[.int .i64 0, .int .i64 0, .int .i64 0, .int .i64 0]), 4, 32) := by kernel_rfl
def boxCells (x : Po.Box) : List Value := [.int .i64 x.x0, .int .i64 x.y0, .int .i64 x.x1, .int .i64 x.y1]
def boxesCells (l : List Po.Box) : List Value := l.flatMap boxCells
theorem boxesCells_snoc (l : List Po.Box) (x : Po.Box) : boxesCells (l ++ [x]) = boxesCells l ++ boxCells x := by simp [boxesCells, boxCells]
theorem boxCells_one (x : Po.Box) : ∀ u ∈ boxCells x, u.oneCell' = true := by
  intro u hu
  simp only [boxCells, List.mem_cons, List.not_mem_nil, or_false] at hu
  rcases hu with rfl | rfl | rfl | rfl <;> rfl

set_option maxRecDepth 100000 in
set_option maxHeartbeats 4000000 in
theorem pboxes_any {w : World} {b : Nat} {pa : Option Addr} {cp : Nat} {T : List Lx.Tok} {e : Nat × Nat} {st : Po.St} (h : PRd w b pa cp T e st) :
    Calls Try.prog 110 #[.pointer (some ⟨b, 0, none⟩)] w fun en w' => ∃ v, en = .returned v ∧ Row w' v (Po.boxesV T e st).length 4 (boxesCells (Po.boxesV T e st)) ∧ (∀ k, v.ownBlock = some k → w.heap.size ≤ k) ∧ PRd w' b pa cp T e (Po.boxesS T e st) ∧ Touch b w w' := by
  obtain ⟨i0, hinf, hz0, hz1, hz2⟩ := info_parts Try.infoRect
  have h' := hid h
  have hsm := h.small
  have hblt : b < w.heap.size := h.blk.lt
  have hn1 := Nat.le_refl w.heap.size
  have hbeg := hid (Po.Boxing.begin T e st)
  clear h
  go_enter Try.func110, Try.ntmps110
  go_wp2_with fail
  refine (pbox_any h'.out).mono ?_
  rintro en w1 ⟨rfl, h1, t1⟩
  have hsz1 := t1.size
  have hza := balloc w1 (.cells (boxCells (Po.boxV T e st)).toArray 69)
  have ha := hid (h1.ext hza)
  have qa := hid (t1.below hza)
  have oa := hid (World.ownsRow_lit (base := w.heap.size) (size := 4) (e := 69) w1 (boxCells (Po.boxV T e st)).toArray 1 hsz1 (by decide) rfl)
  clear h1 t1 hza
  unfold pboxV
  go_wp2_with fail
  go_loopg [3] (T.length + 1) (fun g u wr => ∃ (n : Nat) (bs : List Po.Box) (s : Po.St), n = bs.length ∧ n + g = T.length + 2 ∧ Po.Boxing T e st g bs s ∧ PRd wr b pa cp T e s ∧ wr.ownsRow w.heap.size 69 4 u n (boxesCells bs) ∧ Touch b w wr)
  case atStart => exact ⟨1, [Po.boxV T e st], _, rfl, by omega, hbeg.out, ha.out, (by rw [show boxesCells [Po.boxV T e st] = boxCells (Po.boxV T e st) from by simp [boxesCells]]; exact oa.out), qa.out⟩
  case round =>
    obtain ⟨n, bs, s, hn, hng, hB, hP, hO, hQ⟩ := hrel
    have hn' := hid hn
    have hB' := hid hB
    have hP' := hid hP
    have hO' := hid hO
    have hQ' := hid hQ
    clear hn hB hP hO hQ
    cases hi : Po.is T [43] s with
    | true =>
      have hg := hB'.out.pos hi
      obtain ⟨gk', rfl⟩ : ∃ g', gk = g' + 1 := ⟨gk - 1, by omega⟩
      have hB2 := hid (hB'.out.step hi)
      have hc := hid (ptook_yes (s := ⟨#[43]⟩) hP'.out hi)
      clear hi
      go_wp2_with fail
      refine hc.out.mono ?_
      rintro en w2 ⟨rfl, h2, t2⟩
      have h2' := hid h2
      have o2 := hid (owns_touch hO'.out t2 hblt)
      have q2 := hid (hQ'.out.trans t2)
      clear h2 t2 hc
      go_wp2_with fail
      refine (pbox_any h2'.out).mono ?_
      rintro en w3 ⟨rfl, h3, t3⟩
      have h3' := hid h3
      have o3 := hid (owns_touch o2.out t3 hblt)
      have q3 := hid (q2.out.trans t3)
      clear h3 t3
      generalize hbx : Po.boxV T e (Po.on s) = bx at *
      have hcap : n + 1 ≤ maxLen := by unfold maxLen; omega
      have hc1 := hid (cells_new w3 (boxCells bx) 69 (k := w3.heap.size) rfl)
      have hal := hid (o3.out.alloc (.cells (boxCells bx).toArray 69))
      have hz3 := q3.out.size
      unfold pboxV
      go_wp2_with (first | (at_builtin; refine wpList_append_own _ rfl _ _ 34 rfl w.heap.size 69 i0 (.agg #[.int .i64 0, .int .i64 0, .int .i64 0, .int .i64 0]) 4 32 Try.underlying34 hinf hz0 hz1 hz2 rfl (by decide) _ _ _ rfl hal.out ⟨w3.heap.size, 0, none⟩ 1 1 (boxCells bx) rfl rfl hc1.out (boxCells_one _) hcap (by omega) (by simp; omega) ?_; intro v' w5 hown5 hgrow _))
      go_roundg gk'
      case measure => omega
      case rel =>
        refine ⟨n + 1, bs ++ [bx], _, by rw [List.length_append, ← hn'.out]; rfl, by omega, hB2.out, ?_, ?_, ?_⟩
        · exact PRd.grown h'.out (h3'.out.ext (balloc w3 _)) hgrow (fun k hk => (hal.out.lt k hk).1)
        · rw [boxesCells_snoc]; exact hown5
        · exact (q3.out.alloc _).grown hgrow (fun k hk => (hal.out.lt k hk).1)
    | false =>
      have hB2 := hid (hB'.out.stop hi)
      have hc := hid (ptook_no (s := ⟨#[43]⟩) hP'.out hi)
      clear hi
      go_wp2_with fail
      refine hc.out.mono ?_
      rintro en w2 ⟨rfl, h2, t2⟩
      have h2' := hid h2
      have o2 := hid (owns_touch hO'.out t2 hblt)
      have q2 := hid (hQ'.out.trans t2)
      clear h2 t2 hc
      go_wp2_with fail
      go_ret
      rw [hB2.out.1, hB2.out.2]
      refine ⟨_, rfl, ?_, fun k hk => (o2.out.lt k hk).1, h2'.out, q2.out⟩
      rw [← hn'.out]
      exact Row.of_owns o2.out

end Go.Proofs.Ytelphkhacadfaaa
