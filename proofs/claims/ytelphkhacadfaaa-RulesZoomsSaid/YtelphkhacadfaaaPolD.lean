/- The walks of the policy's reader: where, tiers, box. -/
import Derived.Test.YtelphkhacadfaaaPolC
namespace Go.Proofs.Ytelphkhacadfaaa
open Go.RowKit Go.Sort

set_option maxRecDepth 100000 in
set_option maxHeartbeats 4000000 in
theorem pwhere_any {w : World} {b : Nat} {pa : Option Addr} {cp : Nat} {T : List Lx.Tok} {e : Nat × Nat} {st : Po.St} (h : PRd w b pa cp T e st) :
    Calls Try.prog 106 #[.pointer (some ⟨b, 0, none⟩)] w fun en w' => en = .returned (pwhoV (Po.whereV T e st)) ∧ PRd w' b pa cp T e (Po.whereS T e st) ∧ Touch b w w' := by
  have h' := hid h
  have hblt : b < w.heap.size := h.blk.lt
  have hn1 := Nat.le_refl w.heap.size
  have ha := hid (h.ext (balloc w (.cells #[.bool false, .string ⟨#[]⟩, .int .i64 0, .int .i64 0, .int .i64 0] 58)))
  have qa := hid (Touch.of_below (b := b) (balloc w (.cells #[.bool false, .string ⟨#[]⟩, .int .i64 0, .int .i64 0, .int .i64 0] 58)))
  have ba := hid (Blk.new w #[.bool false, .string ⟨#[]⟩, .int .i64 0, .int .i64 0, .int .i64 0] 58)
  have hnb : w.heap.size ≠ b := by omega
  clear h
  go_enter Try.func106, Try.ntmps106
  go_wp2_with fail
  refine (pplace_any ha.out).mono ?_
  rintro en w1 ⟨rfl, hb1⟩
  have hsz1 := hb1.size
  simp only [World.size_alloc] at hsz1
  have hpl : ∃ pl pc : Nat, Po.place T e st = (pl, pc) := ⟨_, _, rfl⟩
  obtain ⟨pl, pc, hpl⟩ := hpl
  have hpl' := hid hpl
  rw [hpl]
  clear hpl
  simp only
  have hz := balloc w1 (.cells #[.bool false, .string ⟨#[]⟩, .int .i64 0, .int .i64 pl, .int .i64 pc] 58)
  have h2 := hid ((ha.out.ext hb1).ext hz)
  have q2 := hid ((qa.out.below hb1).below hz)
  have b2 := hid ((ba.out.ext hb1).ext hz)
  have c2 := hid (Blk.new w1 #[.bool false, .string ⟨#[]⟩, .int .i64 0, .int .i64 pl, .int .i64 pc] 58)
  clear hz
  have hne : w.heap.size ≠ w1.heap.size := by omega
  have hne' : w1.heap.size ≠ w.heap.size := by omega
  have hnb1 : w1.heap.size ≠ b := by omega
  have hn2 : w.heap.size ≤ w1.heap.size := by omega
  cases hs : Po.is T Po.wAll st with
  | true =>
    have ev := hid (show Po.whereV T e st = ⟨true, ⟨#[]⟩, 0, pl, pc⟩ by unfold Po.whereV; rw [if_pos hs, hpl'.out])
    have es := hid (show Po.whereS T e st = Po.on st by unfold Po.whereS; rw [if_pos hs])
    have hc := fun w' h => ptook_yes (w := w') (b := b) (pa := pa) (cp := cp) (e := e) h (s := ⟨#[97, 108, 108]⟩) hs
    clear hs
    go_wp2_with fail
    refine (hc _ h2.out).mono ?_
    rintro en w3 ⟨rfl, h3, t3⟩
    have h3' := hid h3
    have q3 := hid (q2.out.trans t3)
    have b3 := hid (b2.out.touch t3 hnb)
    have c3 := hid (c2.out.touch t3 hnb1)
    clear h3 t3 hc
    obtain ⟨x0, x1, x2, x3, x4, xf, xz⟩ := b3.out.five
    obtain ⟨y0, y1, y2, y3, y4, yf, yz⟩ := c3.out.five
    go_wp2_with fail
    rw [ev.out, es.out]
    exact bodyPost_ret (v := pwhoV ⟨true, ⟨#[]⟩, 0, pl, pc⟩) (by simp [results, Try.results106, go_sem, pwhoV, x0, x1, x2, x3, x4]) rfl ⟨rfl, (by simp only [PRd.setOld_iff h'.out hn1, PRd.setOld_iff h'.out hn2]; exact h3'.out), (by simp only [Touch.setNew_iff hn1, Touch.setNew_iff hn2]; exact q3.out)⟩
  | false =>
    have hc := fun w' h => ptook_no (w := w') (b := b) (pa := pa) (cp := cp) (e := e) h (s := ⟨#[97, 108, 108]⟩) hs
    have ev := hid (show Po.whereV T e st = ⟨false, Po.txt (Po.takeTok T 1 st).text, 0, pl, pc⟩ by unfold Po.whereV; rw [if_neg (by rw [hs]; decide), hpl'.out])
    have es := hid (show Po.whereS T e st = Po.takeSt T e 1 st by unfold Po.whereS; rw [if_neg (by rw [hs]; decide)])
    clear hs
    go_wp2_with fail
    refine (hc _ h2.out).mono ?_
    rintro en w3 ⟨rfl, h3, t3⟩
    have h4 := hid h3
    have q4 := hid (q2.out.trans t3)
    have b4 := hid (b2.out.touch t3 hnb)
    have c4 := hid (c2.out.touch t3 hnb1)
    clear h3 t3 hc
    go_wp2_with fail
    refine (pname_any h4.out).mono ?_
    rintro en w5 ⟨rfl, h5, t5⟩
    have h5' := hid h5
    have q5 := hid (q4.out.trans t5)
    have b5 := hid (b4.out.touch t5 hnb)
    have c5 := hid (c4.out.touch t5 hnb1)
    clear h5 t5
    obtain ⟨x0, x1, x2, x3, x4, xf, xz⟩ := b5.out.five
    obtain ⟨y0, y1, y2, y3, y4, yf, yz⟩ := c5.out.five
    go_wp2_with fail
    rw [ev.out, es.out]
    exact bodyPost_ret (v := pwhoV ⟨false, Po.txt (Po.takeTok T 1 st).text, 0, pl, pc⟩) (by simp [results, Try.results106, go_sem, pwhoV, x0, x1, x2, x3, x4]) rfl ⟨rfl, (by simp only [PRd.setOld_iff h'.out hn1, PRd.setOld_iff h'.out hn2]; exact h5'.out), (by simp only [Touch.setNew_iff hn1, Touch.setNew_iff hn2]; exact q5.out)⟩

set_option maxRecDepth 100000 in
set_option maxHeartbeats 4000000 in
theorem ptiers_any {w : World} {b : Nat} {pa : Option Addr} {cp : Nat} {T : List Lx.Tok} {e : Nat × Nat} {st : Po.St} (h : PRd w b pa cp T e st) :
    Calls Try.prog 104 #[.pointer (some ⟨b, 0, none⟩)] w fun en w' => en = .returned (.tuple #[.int .i64 (Po.loV T st), .int .i64 (Po.hiV T e st)]) ∧ PRd w' b pa cp T e (Po.tiersS T e st) ∧ Touch b w w' := by
  have h' := hid h
  clear h
  cases hs : Po.is T Po.wAny st with
  | true =>
    have el := hid (show Po.loV T st = 0 by unfold Po.loV; rw [if_pos hs])
    have eh := hid (show Po.hiV T e st = 7 by unfold Po.hiV; rw [if_pos hs])
    have es := hid (show Po.tiersS T e st = Po.on st by unfold Po.tiersS; rw [if_pos hs])
    have hc := fun w' h => ptook_yes (w := w') (b := b) (pa := pa) (cp := cp) (e := e) h (s := ⟨#[97, 110, 121]⟩) hs
    clear hs
    go_enter Try.func104, Try.ntmps104
    go_wp2_with fail
    refine (hc _ h'.out).mono ?_
    rintro en w3 ⟨rfl, h3, t3⟩
    have h3' := hid h3
    have q3 := hid t3
    clear h3 t3 hc
    go_wp2_with fail
    rw [el.out, eh.out, es.out]
    exact bodyPost_ret (v := .tuple #[.int .i64 0, .int .i64 7]) (by simp [results, Try.results104, go_sem]) rfl ⟨rfl, h3'.out, q3.out⟩
  | false =>
    have hc := fun w' h => ptook_no (w := w') (b := b) (pa := pa) (cp := cp) (e := e) h (s := ⟨#[97, 110, 121]⟩) hs
    have el := hid (show Po.loV T st = (Po.takeTok T 3 st).n by unfold Po.loV; rw [if_neg (by rw [hs]; decide)])
    cases hk : Po.is T [46, 46] (Po.takeSt T e 3 st) with
    | true =>
      have eh := hid (show Po.hiV T e st = (Po.takeTok T 3 (Po.on (Po.takeSt T e 3 st))).n by unfold Po.hiV; rw [if_neg (by rw [hs]; decide), if_pos hk])
      have es := hid (show Po.tiersS T e st = Po.takeSt T e 3 (Po.on (Po.takeSt T e 3 st)) by unfold Po.tiersS; rw [if_neg (by rw [hs]; decide), if_pos hk])
      have hd := fun w' h => ptook_yes (w := w') (b := b) (pa := pa) (cp := cp) (e := e) h (s := ⟨#[46, 46]⟩) hk
      clear hs hk
      go_enter Try.func104, Try.ntmps104
      go_wp2_with fail
      refine (hc _ h'.out).mono ?_
      rintro en w3 ⟨rfl, h3, t3⟩
      have h3' := hid h3
      have q3 := hid t3
      clear h3 t3 hc
      go_wp2_with fail
      refine (pnumber_any h3'.out).mono ?_
      rintro en w4 ⟨rfl, h4, t4⟩
      have h4' := hid h4
      have q4 := hid (q3.out.trans t4)
      clear h4 t4
      go_wp2_with fail
      refine (hd _ h4'.out).mono ?_
      rintro en w5 ⟨rfl, h5, t5⟩
      have h5' := hid h5
      have q5 := hid (q4.out.trans t5)
      clear h5 t5 hd
      go_wp2_with fail
      refine (pnumber_any h5'.out).mono ?_
      rintro en w6 ⟨rfl, h6, t6⟩
      have h6' := hid h6
      have q6 := hid (q5.out.trans t6)
      clear h6 t6
      go_wp2_with fail
      rw [el.out, eh.out, es.out]
      exact bodyPost_ret (v := .tuple #[.int .i64 (Po.takeTok T 3 st).n, .int .i64 (Po.takeTok T 3 (Po.on (Po.takeSt T e 3 st))).n]) (by simp [results, Try.results104, go_sem]) rfl ⟨rfl, h6'.out, q6.out⟩
    | false =>
      have eh := hid (show Po.hiV T e st = (Po.takeTok T 3 st).n by unfold Po.hiV; rw [if_neg (by rw [hs]; decide), if_neg (by rw [hk]; decide)])
      have es := hid (show Po.tiersS T e st = Po.takeSt T e 3 st by unfold Po.tiersS; rw [if_neg (by rw [hs]; decide), if_neg (by rw [hk]; decide)])
      have hd := fun w' h => ptook_no (w := w') (b := b) (pa := pa) (cp := cp) (e := e) h (s := ⟨#[46, 46]⟩) hk
      clear hs hk
      go_enter Try.func104, Try.ntmps104
      go_wp2_with fail
      refine (hc _ h'.out).mono ?_
      rintro en w3 ⟨rfl, h3, t3⟩
      have h3' := hid h3
      have q3 := hid t3
      clear h3 t3 hc
      go_wp2_with fail
      refine (pnumber_any h3'.out).mono ?_
      rintro en w4 ⟨rfl, h4, t4⟩
      have h4' := hid h4
      have q4 := hid (q3.out.trans t4)
      clear h4 t4
      go_wp2_with fail
      refine (hd _ h4'.out).mono ?_
      rintro en w5 ⟨rfl, h5, t5⟩
      have h5' := hid h5
      have q5 := hid (q4.out.trans t5)
      clear h5 t5 hd
      go_wp2_with fail
      rw [el.out, eh.out, es.out]
      exact bodyPost_ret (v := .tuple #[.int .i64 (Po.takeTok T 3 st).n, .int .i64 (Po.takeTok T 3 st).n]) (by simp [results, Try.results104, go_sem]) rfl ⟨rfl, h5'.out, q5.out⟩

end Go.Proofs.Ytelphkhacadfaaa
