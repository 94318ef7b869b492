/-
  The walks of the policy's reader: take, name, number, who, where, tiers.
  The walks of the policy's reader: where, tiers, box.
  The walks of the policy's reader: box, boxes.
-/
import Derived.Test.YtnoieobjfihbeaaDoorPk08

namespace Go.Proofs.YtnoieobjfihbeaaDoor
open Go.RowKit Go.Sort

theorem fld_text (k : Int) (x : ByteArray) (n l c : Int) (w : World) : Sem.run Tryd.prog (Instr.field 92 (.agg #[.int .i64 k, .string x, .int .i64 n, .int .i64 l, .int .i64 c]) 1) w = .ok (.string x) w := by kernel_rfl
theorem fld_n (k : Int) (x : ByteArray) (n l c : Int) (w : World) : Sem.run Tryd.prog (Instr.field 92 (.agg #[.int .i64 k, .string x, .int .i64 n, .int .i64 l, .int .i64 c]) 2) w = .ok (.int .i64 n) w := by kernel_rfl

theorem pkind_is {w : World} {b : Nat} {pa : Option Addr} {cp : Nat} {T : List Lx.Tok} {e : Nat × Nat} {st : Po.St} {r : Bool} (h : PRd w b pa cp T e st) {k : Nat} (hs : Po.kindIs T k st = r) :
    Calls Tryd.prog 94 #[.pointer (some ⟨b, 0, none⟩), .int .i64 k] w fun en w' => en = .returned (.bool r) ∧ Below w.heap.size w w' := by
  have := pkind_any h k; rwa [hs] at this

def ptokV (t : Lx.Tok) : Value := .agg #[.int .i64 t.kind, .string (Po.txt t.text), .int .i64 t.n, .int .i64 t.line, .int .i64 t.col]

set_option maxHeartbeats 4000000 in
theorem ptake_any {w : World} {b : Nat} {pa : Option Addr} {cp : Nat} {T : List Lx.Tok} {e : Nat × Nat} {st : Po.St} (h : PRd w b pa cp T e st) (k : Nat) :
    Calls Tryd.prog 95 #[.pointer (some ⟨b, 0, none⟩), .int .i64 k] w fun en w' => en = .returned (ptokV (Po.takeTok T k st)) ∧ PRd w' b pa cp T e (Po.takeSt T e k st) ∧ Touch b w w' := by
  have h' := hid h
  have hsm := h.small
  have hblt : b < w.heap.size := h.blk.lt
  have hn2 := Nat.le_refl w.heap.size
  have ha := hid (h.ext (balloc w (.cells #[.int .i64 0, .string ⟨#[]⟩, .int .i64 0, .int .i64 0, .int .i64 0] 92)))
  have qa := hid (Touch.of_below (b := b) (balloc w (.cells #[.int .i64 0, .string ⟨#[]⟩, .int .i64 0, .int .i64 0, .int .i64 0] 92)))
  have ba := hid (Blk.new w #[.int .i64 0, .string ⟨#[]⟩, .int .i64 0, .int .i64 0, .int .i64 0] 92)
  have hnb : w.heap.size ≠ b := by omega
  cases hs : Po.kindIs T k st with
  | true =>
    have hl := Po.lt_of_kindIs hs
    have ht := hid (Po.takeSt_on (e := e) hs)
    have hc := pkind_is ha.out hs
    obtain ⟨g, off, t, hpa, htok, hn, hat, hr⟩ := h.tok hl
    have htk := hid (Po.takeTok_on hs htok)
    have hgw : g < w.heap.size := hr.lt
    have hng : w.heap.size ≠ g := by omega
    subst hpa
    have hat' := hid hat
    clear hs h htok hr hat
    go_enter Tryd.func95, Tryd.ntmps95
    go_wp2_with fail
    refine hc.mono ?_
    rintro en w1 ⟨rfl, hb1⟩
    have h1 := hid (ha.out.ext hb1)
    have t1 := hid (qa.out.below hb1)
    have b1 := hid (ba.out.ext hb1)
    obtain ⟨i, fe, fl, fc⟩ := st
    obtain ⟨hz, c0, c1, c2, c3, c4, c5, c6, hf⟩ := h1.out.f
    simp only at c0 c1 c2 c3 c4 c5 c6 hl hat'
    have h2 : Hid (PRd (w1.setCell ⟨b, 1, none⟩ (.int .i64 ((i : Int) + 1))) b (some ⟨g, off, none⟩) cp T e ⟨i + 1, (fe, fl, fc)⟩) := hid (h1.out.setAt (i + 1) (by omega))
    have t2 := hid (t1.out.setCell 1 (.int .i64 ((i : Int) + 1)))
    have b2 := hid (b1.out.setOther hnb 1 (.int .i64 ((i : Int) + 1)))
    go_wp2_with fail
    clear c0 c1 c2 c3 c4 c5 c6 hf hz
    generalize w1.setCell ⟨b, 1, none⟩ (.int .i64 ((i : Int) + 1)) = w2 at *
    have hr1 : Hid (TokRow w2 g off cp T) := by
      rcases h2.out.row with h0 | ⟨g', off', hp, hr, _⟩
      · rw [h0] at hl; exact absurd hl (by simp)
      · cases hp; exact hid hr
    obtain ⟨hz, c0, c1, c2, c3, c4, c5, c6, hf⟩ := h2.out.f
    simp only at c0 c1 c2 c3 c4 c5 c6
    rw [show ((i + 1 : Nat) : Int) = (i : Int) + 1 from rfl] at c1
    obtain ⟨d0, d1, d2, d3, d4⟩ := hat'.out _ hr1.out
    have hg1 := hr1.out.lt
    obtain ⟨x0, x1, x2, x3, x4, xf, xz⟩ := b2.out.five
    have q1 : IntKind.i64.wrap ((i : Int) + 1 - 1) = (i : Int) := by rw [IntWalk.i64_in _ (by omega)]; omega
    have q2 : (i : Int) + 1 - 1 = (i : Int) := by omega
    have q3 : IntKind.i64.wrap (i : Int) = (i : Int) := IntWalk.i64_in _ (by omega)
    have q4 : (0 : Int) ≤ (i : Int) := by omega
    have q5 : (i : Int) ≤ (T.length : Int) := by omega
    have q6 : (i : Int) < (T.length : Int) := by omega
    go_region_held3 (fun w' => w'.cell? ⟨b, 0, none⟩ = some (.slice (some ⟨g, off, none⟩) T.length cp) ∧ w'.cell? ⟨b, 1, none⟩ = some (.int .i64 ((i : Int) + 1)) ∧ w'.cell? ⟨g, off + i * 5, none⟩ = some (.int .i64 t.kind) ∧ w'.cell? ⟨g, off + i * 5 + 1, none⟩ = some (.string (Po.txt t.text)) ∧ w'.cell? ⟨g, off + i * 5 + 2, none⟩ = some (.int .i64 t.n) ∧
      w'.cell? ⟨g, off + i * 5 + 3, none⟩ = some (.int .i64 t.line) ∧ w'.cell? ⟨g, off + i * 5 + 3 + 1, none⟩ = some (.int .i64 t.col)) (go_keep) (first | fail)
    go_wp2_with fail
    rw [ht.out, htk.out]
    exact bodyPost_ret (v := ptokV t) (by simp [results, Tryd.results95, go_sem, ptokV, x0, x1, x2, x3, x4]) rfl ⟨rfl, (PRd.later h'.out h2.out hn2 (by simp only [Touch.setSelf_iff, Touch.drew_iff]; exact Touch.refl _ _)), (by simp only [Touch.setNew_iff hn2, Touch.drew_iff]; exact t2.out)⟩
  | false =>
    have ht := hid (Po.takeSt_not (e := e) hs)
    have htk := hid (Po.takeTok_not hs)
    have hc := pkind_is ha.out hs
    clear hs h
    go_enter Tryd.func95, Tryd.ntmps95
    go_wp2_with fail
    refine hc.mono ?_
    rintro en w1 ⟨rfl, hb1⟩
    have h1 := hid (ha.out.ext hb1)
    have t1 := hid (qa.out.below hb1)
    have b1 := hid (ba.out.ext hb1)
    go_wp2_with fail
    refine (pwrong_any h1.out).mono ?_
    rintro en w2 ⟨rfl, h2, t2⟩
    have h2' := hid h2
    have t2' := hid (t1.out.trans t2)
    have b2 := hid (b1.out.touch t2 hnb)
    clear h2 t2
    obtain ⟨x0, x1, x2, x3, x4, xf, xz⟩ := b2.out.five
    go_wp2_with fail
    rw [ht.out, htk.out]
    exact bodyPost_ret (v := ptokV Po.zeroTok) (by simp [results, Tryd.results95, go_sem, ptokV, Po.zeroTok, Po.txt, x0, x1, x2, x3, x4]) rfl ⟨rfl, (PRd.later h'.out h2'.out hn2 (by simp only [Touch.setSelf_iff]; exact Touch.refl _ _)), (by simp only [Touch.setNew_iff hn2]; exact t2'.out)⟩

set_option maxRecDepth 100000 in
theorem pname_any {w : World} {b : Nat} {pa : Option Addr} {cp : Nat} {T : List Lx.Tok} {e : Nat × Nat} {st : Po.St} (h : PRd w b pa cp T e st) :
    Calls Tryd.prog 88 #[.pointer (some ⟨b, 0, none⟩)] w fun en w' => en = .returned (.string (Po.txt (Po.takeTok T 1 st).text)) ∧ PRd w' b pa cp T e (Po.takeSt T e 1 st) ∧ Touch b w w' := by
  have h' := hid h
  clear h
  go_enter Tryd.func88, Tryd.ntmps88
  go_wp2_with fail
  refine (ptake_any h'.out 1).mono ?_
  rintro en w1 ⟨rfl, h1, t1⟩
  have h1' := hid h1
  have t1' := hid t1
  clear h1 t1
  unfold ptokV
  generalize htt : Po.takeTok T 1 st = t
  have htt' := hid htt
  clear htt
  have hfd := fun w => fld_text t.kind (Po.txt t.text) t.n t.line t.col w
  go_wp2_with fail
  go_ret
  rw [htt'.out]
  exact ⟨rfl, h1'.out, t1'.out⟩

set_option maxRecDepth 100000 in
theorem pnumber_any {w : World} {b : Nat} {pa : Option Addr} {cp : Nat} {T : List Lx.Tok} {e : Nat × Nat} {st : Po.St} (h : PRd w b pa cp T e st) :
    Calls Tryd.prog 86 #[.pointer (some ⟨b, 0, none⟩)] w fun en w' => en = .returned (.int .i64 (Po.takeTok T 3 st).n) ∧ PRd w' b pa cp T e (Po.takeSt T e 3 st) ∧ Touch b w w' := by
  have h' := hid h
  clear h
  go_enter Tryd.func86, Tryd.ntmps86
  go_wp2_with fail
  refine (ptake_any h'.out 3).mono ?_
  rintro en w1 ⟨rfl, h1, t1⟩
  have h1' := hid h1
  have t1' := hid t1
  clear h1 t1
  unfold ptokV
  generalize htt : Po.takeTok T 3 st = t
  have htt' := hid htt
  clear htt
  have hfd := fun w => fld_n t.kind (Po.txt t.text) t.n t.line t.col w
  go_wp2_with fail
  go_ret
  rw [htt'.out]
  exact ⟨rfl, h1'.out, t1'.out⟩

def pwhoV (x : Po.Who) : Value := .agg #[.bool x.any, .string x.name, .int .i64 x.n, .int .i64 x.line, .int .i64 x.col]

set_option maxHeartbeats 4000000 in
theorem pwho_any {w : World} {b : Nat} {pa : Option Addr} {cp : Nat} {T : List Lx.Tok} {e : Nat × Nat} {st : Po.St} (h : PRd w b pa cp T e st) :
    Calls Tryd.prog 84 #[.pointer (some ⟨b, 0, none⟩)] w fun en w' => en = .returned (pwhoV (Po.whoV T e st)) ∧ PRd w' b pa cp T e (Po.whoS T e st) ∧ Touch b w w' := by
  have h' := hid h
  have hblt : b < w.heap.size := h.blk.lt
  have hn1 := Nat.le_refl w.heap.size
  have ha := hid (h.ext (balloc w (.cells #[.bool false, .string ⟨#[]⟩, .int .i64 0, .int .i64 0, .int .i64 0] 42)))
  have qa := hid (Touch.of_below (b := b) (balloc w (.cells #[.bool false, .string ⟨#[]⟩, .int .i64 0, .int .i64 0, .int .i64 0] 42)))
  have ba := hid (Blk.new w #[.bool false, .string ⟨#[]⟩, .int .i64 0, .int .i64 0, .int .i64 0] 42)
  have hnb : w.heap.size ≠ b := by omega
  clear h
  go_enter Tryd.func84, Tryd.ntmps84
  go_wp2_with fail
  refine (pplace_any ha.out).mono ?_
  rintro en w1 ⟨rfl, hb1⟩
  have hsz1 := hb1.size
  simp only [World.size_alloc] at hsz1
  have hpl : ∃ pl pc : Nat, Po.place T e st = (pl, pc) := ⟨_, _, rfl⟩
  obtain ⟨pl, pc, hpl⟩ := hpl
  have hpl' := hid hpl
  rw [hpl]
  clear hpl
  simp only
  have hz := balloc w1 (.cells #[.bool false, .string ⟨#[]⟩, .int .i64 0, .int .i64 pl, .int .i64 pc] 42)
  have h2 := hid ((ha.out.ext hb1).ext hz)
  have q2 := hid ((qa.out.below hb1).below hz)
  have b2 := hid ((ba.out.ext hb1).ext hz)
  have c2 := hid (Blk.new w1 #[.bool false, .string ⟨#[]⟩, .int .i64 0, .int .i64 pl, .int .i64 pc] 42)
  clear hz
  have hne : w.heap.size ≠ w1.heap.size := by omega
  have hne' : w1.heap.size ≠ w.heap.size := by omega
  have hnb1 : w1.heap.size ≠ b := by omega
  have hn2 : w.heap.size ≤ w1.heap.size := by omega
  cases hs : Po.is T Po.wAny st with
  | true =>
    have ev := hid (show Po.whoV T e st = ⟨true, ⟨#[]⟩, 0, pl, pc⟩ by unfold Po.whoV; rw [if_pos hs, hpl'.out])
    have es := hid (show Po.whoS T e st = Po.on st by unfold Po.whoS; rw [if_pos hs])
    have hc := fun w' h => ptook_yes (w := w') (b := b) (pa := pa) (cp := cp) (e := e) h (s := ⟨#[97, 110, 121]⟩) hs
    clear hs
    go_wp2_with fail
    refine (hc _ h2.out).mono ?_
    rintro en w3 ⟨rfl, h3, t3⟩
    have h3' := hid h3
    have q3 := hid (q2.out.trans t3)
    have b3 := hid (b2.out.touch t3 hnb)
    have c3 := hid (c2.out.touch t3 hnb1)
    clear h3 t3 hc
    obtain ⟨x0, x1, x2, x3, x4, xf, xz⟩ := b3.out.five
    obtain ⟨y0, y1, y2, y3, y4, yf, yz⟩ := c3.out.five
    go_wp2_with fail
    rw [ev.out, es.out]
    exact bodyPost_ret (v := pwhoV ⟨true, ⟨#[]⟩, 0, pl, pc⟩) (by simp [results, Tryd.results84, go_sem, pwhoV, x0, x1, x2, x3, x4]) rfl ⟨rfl, (by simp only [PRd.setOld_iff h'.out hn1, PRd.setOld_iff h'.out hn2]; exact h3'.out), (by simp only [Touch.setNew_iff hn1, Touch.setNew_iff hn2]; exact q3.out)⟩
  | false =>
    have hc := fun w' h => ptook_no (w := w') (b := b) (pa := pa) (cp := cp) (e := e) h (s := ⟨#[97, 110, 121]⟩) hs
    go_wp2_with fail
    refine (hc _ h2.out).mono ?_
    rintro en w3 ⟨rfl, h3, t3⟩
    have h3' := hid h3
    have q3 := hid (q2.out.trans t3)
    have b3 := hid (b2.out.touch t3 hnb)
    have c3 := hid (c2.out.touch t3 hnb1)
    clear h3 t3 hc
    have hs' := hid hs
    clear hs
    go_wp2_with fail
    cases hk : Po.kindIs T 1 st with
    | true =>
      have ev := hid (show Po.whoV T e st = ⟨false, Po.txt (Po.takeTok T 1 st).text, 0, pl, pc⟩ by unfold Po.whoV; rw [if_neg (by rw [hs'.out]; decide), if_pos hk, hpl'.out])
      have es := hid (show Po.whoS T e st = Po.takeSt T e 1 st by unfold Po.whoS; rw [if_neg (by rw [hs'.out]; decide), if_pos hk])
      refine (pkind_is h3'.out hk).mono ?_
      rintro en w4 ⟨rfl, hb4⟩
      have h4 := hid (h3'.out.ext hb4)
      have q4 := hid (q3.out.below hb4)
      have b4 := hid (b3.out.ext hb4)
      have c4 := hid (c3.out.ext hb4)
      clear hk
      go_wp2_with fail
      refine (pname_any h4.out).mono ?_
      rintro en w5 ⟨rfl, h5, t5⟩
      have h5' := hid h5
      have q5 := hid (q4.out.trans t5)
      have b5 := hid (b4.out.touch t5 hnb)
      have c5 := hid (c4.out.touch t5 hnb1)
      clear h5 t5
      obtain ⟨x0, x1, x2, x3, x4, xf, xz⟩ := b5.out.five
      obtain ⟨y0, y1, y2, y3, y4, yf, yz⟩ := c5.out.five
      go_wp2_with fail
      rw [ev.out, es.out]
      exact bodyPost_ret (v := pwhoV ⟨false, Po.txt (Po.takeTok T 1 st).text, 0, pl, pc⟩) (by simp [results, Tryd.results84, go_sem, pwhoV, x0, x1, x2, x3, x4]) rfl ⟨rfl, (by simp only [PRd.setOld_iff h'.out hn1, PRd.setOld_iff h'.out hn2]; exact h5'.out), (by simp only [Touch.setNew_iff hn1, Touch.setNew_iff hn2]; exact q5.out)⟩
    | false =>
      have ev := hid (show Po.whoV T e st = ⟨false, ⟨#[]⟩, (Po.takeTok T 3 st).n, pl, pc⟩ by unfold Po.whoV; rw [if_neg (by rw [hs'.out]; decide), if_neg (by rw [hk]; decide), hpl'.out])
      have es := hid (show Po.whoS T e st = Po.takeSt T e 3 st by unfold Po.whoS; rw [if_neg (by rw [hs'.out]; decide), if_neg (by rw [hk]; decide)])
      refine (pkind_is h3'.out hk).mono ?_
      rintro en w4 ⟨rfl, hb4⟩
      have h4 := hid (h3'.out.ext hb4)
      have q4 := hid (q3.out.below hb4)
      have b4 := hid (b3.out.ext hb4)
      have c4 := hid (c3.out.ext hb4)
      clear hk
      go_wp2_with fail
      refine (pnumber_any h4.out).mono ?_
      rintro en w5 ⟨rfl, h5, t5⟩
      have h5' := hid h5
      have q5 := hid (q4.out.trans t5)
      have b5 := hid (b4.out.touch t5 hnb)
      have c5 := hid (c4.out.touch t5 hnb1)
      clear h5 t5
      obtain ⟨x0, x1, x2, x3, x4, xf, xz⟩ := b5.out.five
      obtain ⟨y0, y1, y2, y3, y4, yf, yz⟩ := c5.out.five
      go_wp2_with fail
      rw [ev.out, es.out]
      exact bodyPost_ret (v := pwhoV ⟨false, ⟨#[]⟩, (Po.takeTok T 3 st).n, pl, pc⟩) (by simp [results, Tryd.results84, go_sem, pwhoV, x0, x1, x2, x3, x4]) rfl ⟨rfl, (by simp only [PRd.setOld_iff h'.out hn1, PRd.setOld_iff h'.out hn2]; exact h5'.out), (by simp only [Touch.setNew_iff hn1, Touch.setNew_iff hn2]; exact q5.out)⟩

end Go.Proofs.YtnoieobjfihbeaaDoor

namespace Go.Proofs.YtnoieobjfihbeaaDoor
open Go.RowKit Go.Sort

set_option maxRecDepth 100000 in
set_option maxHeartbeats 4000000 in
theorem pwhere_any {w : World} {b : Nat} {pa : Option Addr} {cp : Nat} {T : List Lx.Tok} {e : Nat × Nat} {st : Po.St} (h : PRd w b pa cp T e st) :
    Calls Tryd.prog 85 #[.pointer (some ⟨b, 0, none⟩)] w fun en w' => en = .returned (pwhoV (Po.whereV T e st)) ∧ PRd w' b pa cp T e (Po.whereS T e st) ∧ Touch b w w' := by
  have h' := hid h
  have hblt : b < w.heap.size := h.blk.lt
  have hn1 := Nat.le_refl w.heap.size
  have ha := hid (h.ext (balloc w (.cells #[.bool false, .string ⟨#[]⟩, .int .i64 0, .int .i64 0, .int .i64 0] 42)))
  have qa := hid (Touch.of_below (b := b) (balloc w (.cells #[.bool false, .string ⟨#[]⟩, .int .i64 0, .int .i64 0, .int .i64 0] 42)))
  have ba := hid (Blk.new w #[.bool false, .string ⟨#[]⟩, .int .i64 0, .int .i64 0, .int .i64 0] 42)
  have hnb : w.heap.size ≠ b := by omega
  clear h
  go_enter Tryd.func85, Tryd.ntmps85
  go_wp2_with fail
  refine (pplace_any ha.out).mono ?_
  rintro en w1 ⟨rfl, hb1⟩
  have hsz1 := hb1.size
  simp only [World.size_alloc] at hsz1
  have hpl : ∃ pl pc : Nat, Po.place T e st = (pl, pc) := ⟨_, _, rfl⟩
  obtain ⟨pl, pc, hpl⟩ := hpl
  have hpl' := hid hpl
  rw [hpl]
  clear hpl
  simp only
  have hz := balloc w1 (.cells #[.bool false, .string ⟨#[]⟩, .int .i64 0, .int .i64 pl, .int .i64 pc] 42)
  have h2 := hid ((ha.out.ext hb1).ext hz)
  have q2 := hid ((qa.out.below hb1).below hz)
  have b2 := hid ((ba.out.ext hb1).ext hz)
  have c2 := hid (Blk.new w1 #[.bool false, .string ⟨#[]⟩, .int .i64 0, .int .i64 pl, .int .i64 pc] 42)
  clear hz
  have hne : w.heap.size ≠ w1.heap.size := by omega
  have hne' : w1.heap.size ≠ w.heap.size := by omega
  have hnb1 : w1.heap.size ≠ b := by omega
  have hn2 : w.heap.size ≤ w1.heap.size := by omega
  cases hs : Po.is T Po.wAll st with
  | true =>
    have ev := hid (show Po.whereV T e st = ⟨true, ⟨#[]⟩, 0, pl, pc⟩ by unfold Po.whereV; rw [if_pos hs, hpl'.out])
    have es := hid (show Po.whereS T e st = Po.on st by unfold Po.whereS; rw [if_pos hs])
    have hc := fun w' h => ptook_yes (w := w') (b := b) (pa := pa) (cp := cp) (e := e) h (s := ⟨#[97, 108, 108]⟩) hs
    clear hs
    go_wp2_with fail
    refine (hc _ h2.out).mono ?_
    rintro en w3 ⟨rfl, h3, t3⟩
    have h3' := hid h3
    have q3 := hid (q2.out.trans t3)
    have b3 := hid (b2.out.touch t3 hnb)
    have c3 := hid (c2.out.touch t3 hnb1)
    clear h3 t3 hc
    obtain ⟨x0, x1, x2, x3, x4, xf, xz⟩ := b3.out.five
    obtain ⟨y0, y1, y2, y3, y4, yf, yz⟩ := c3.out.five
    go_wp2_with fail
    rw [ev.out, es.out]
    exact bodyPost_ret (v := pwhoV ⟨true, ⟨#[]⟩, 0, pl, pc⟩) (by simp [results, Tryd.results85, go_sem, pwhoV, x0, x1, x2, x3, x4]) rfl ⟨rfl, (by simp only [PRd.setOld_iff h'.out hn1, PRd.setOld_iff h'.out hn2]; exact h3'.out), (by simp only [Touch.setNew_iff hn1, Touch.setNew_iff hn2]; exact q3.out)⟩
  | false =>
    have hc := fun w' h => ptook_no (w := w') (b := b) (pa := pa) (cp := cp) (e := e) h (s := ⟨#[97, 108, 108]⟩) hs
    have ev := hid (show Po.whereV T e st = ⟨false, Po.txt (Po.takeTok T 1 st).text, 0, pl, pc⟩ by unfold Po.whereV; rw [if_neg (by rw [hs]; decide), hpl'.out])
    have es := hid (show Po.whereS T e st = Po.takeSt T e 1 st by unfold Po.whereS; rw [if_neg (by rw [hs]; decide)])
    clear hs
    go_wp2_with fail
    refine (hc _ h2.out).mono ?_
    rintro en w3 ⟨rfl, h3, t3⟩
    have h4 := hid h3
    have q4 := hid (q2.out.trans t3)
    have b4 := hid (b2.out.touch t3 hnb)
    have c4 := hid (c2.out.touch t3 hnb1)
    clear h3 t3 hc
    go_wp2_with fail
    refine (pname_any h4.out).mono ?_
    rintro en w5 ⟨rfl, h5, t5⟩
    have h5' := hid h5
    have q5 := hid (q4.out.trans t5)
    have b5 := hid (b4.out.touch t5 hnb)
    have c5 := hid (c4.out.touch t5 hnb1)
    clear h5 t5
    obtain ⟨x0, x1, x2, x3, x4, xf, xz⟩ := b5.out.five
    obtain ⟨y0, y1, y2, y3, y4, yf, yz⟩ := c5.out.five
    go_wp2_with fail
    rw [ev.out, es.out]
    exact bodyPost_ret (v := pwhoV ⟨false, Po.txt (Po.takeTok T 1 st).text, 0, pl, pc⟩) (by simp [results, Tryd.results85, go_sem, pwhoV, x0, x1, x2, x3, x4]) rfl ⟨rfl, (by simp only [PRd.setOld_iff h'.out hn1, PRd.setOld_iff h'.out hn2]; exact h5'.out), (by simp only [Touch.setNew_iff hn1, Touch.setNew_iff hn2]; exact q5.out)⟩

set_option maxRecDepth 100000 in
set_option maxHeartbeats 4000000 in
theorem ptiers_any {w : World} {b : Nat} {pa : Option Addr} {cp : Nat} {T : List Lx.Tok} {e : Nat × Nat} {st : Po.St} (h : PRd w b pa cp T e st) :
    Calls Tryd.prog 83 #[.pointer (some ⟨b, 0, none⟩)] w fun en w' => en = .returned (.tuple #[.int .i64 (Po.loV T st), .int .i64 (Po.hiV T e st)]) ∧ PRd w' b pa cp T e (Po.tiersS T e st) ∧ Touch b w w' := by
  have h' := hid h
  clear h
  cases hs : Po.is T Po.wAny st with
  | true =>
    have el := hid (show Po.loV T st = 0 by unfold Po.loV; rw [if_pos hs])
    have eh := hid (show Po.hiV T e st = 7 by unfold Po.hiV; rw [if_pos hs])
    have es := hid (show Po.tiersS T e st = Po.on st by unfold Po.tiersS; rw [if_pos hs])
    have hc := fun w' h => ptook_yes (w := w') (b := b) (pa := pa) (cp := cp) (e := e) h (s := ⟨#[97, 110, 121]⟩) hs
    clear hs
    go_enter Tryd.func83, Tryd.ntmps83
    go_wp2_with fail
    refine (hc _ h'.out).mono ?_
    rintro en w3 ⟨rfl, h3, t3⟩
    have h3' := hid h3
    have q3 := hid t3
    clear h3 t3 hc
    go_wp2_with fail
    rw [el.out, eh.out, es.out]
    exact bodyPost_ret (v := .tuple #[.int .i64 0, .int .i64 7]) (by simp [results, Tryd.results83, go_sem]) rfl ⟨rfl, h3'.out, q3.out⟩
  | false =>
    have hc := fun w' h => ptook_no (w := w') (b := b) (pa := pa) (cp := cp) (e := e) h (s := ⟨#[97, 110, 121]⟩) hs
    have el := hid (show Po.loV T st = (Po.takeTok T 3 st).n by unfold Po.loV; rw [if_neg (by rw [hs]; decide)])
    cases hk : Po.is T [46, 46] (Po.takeSt T e 3 st) with
    | true =>
      have eh := hid (show Po.hiV T e st = (Po.takeTok T 3 (Po.on (Po.takeSt T e 3 st))).n by unfold Po.hiV; rw [if_neg (by rw [hs]; decide), if_pos hk])
      have es := hid (show Po.tiersS T e st = Po.takeSt T e 3 (Po.on (Po.takeSt T e 3 st)) by unfold Po.tiersS; rw [if_neg (by rw [hs]; decide), if_pos hk])
      have hd := fun w' h => ptook_yes (w := w') (b := b) (pa := pa) (cp := cp) (e := e) h (s := ⟨#[46, 46]⟩) hk
      clear hs hk
      go_enter Tryd.func83, Tryd.ntmps83
      go_wp2_with fail
      refine (hc _ h'.out).mono ?_
      rintro en w3 ⟨rfl, h3, t3⟩
      have h3' := hid h3
      have q3 := hid t3
      clear h3 t3 hc
      go_wp2_with fail
      refine (pnumber_any h3'.out).mono ?_
      rintro en w4 ⟨rfl, h4, t4⟩
      have h4' := hid h4
      have q4 := hid (q3.out.trans t4)
      clear h4 t4
      go_wp2_with fail
      refine (hd _ h4'.out).mono ?_
      rintro en w5 ⟨rfl, h5, t5⟩
      have h5' := hid h5
      have q5 := hid (q4.out.trans t5)
      clear h5 t5 hd
      go_wp2_with fail
      refine (pnumber_any h5'.out).mono ?_
      rintro en w6 ⟨rfl, h6, t6⟩
      have h6' := hid h6
      have q6 := hid (q5.out.trans t6)
      clear h6 t6
      go_wp2_with fail
      rw [el.out, eh.out, es.out]
      exact bodyPost_ret (v := .tuple #[.int .i64 (Po.takeTok T 3 st).n, .int .i64 (Po.takeTok T 3 (Po.on (Po.takeSt T e 3 st))).n]) (by simp [results, Tryd.results83, go_sem]) rfl ⟨rfl, h6'.out, q6.out⟩
    | false =>
      have eh := hid (show Po.hiV T e st = (Po.takeTok T 3 st).n by unfold Po.hiV; rw [if_neg (by rw [hs]; decide), if_neg (by rw [hk]; decide)])
      have es := hid (show Po.tiersS T e st = Po.takeSt T e 3 st by unfold Po.tiersS; rw [if_neg (by rw [hs]; decide), if_neg (by rw [hk]; decide)])
      have hd := fun w' h => ptook_no (w := w') (b := b) (pa := pa) (cp := cp) (e := e) h (s := ⟨#[46, 46]⟩) hk
      clear hs hk
      go_enter Tryd.func83, Tryd.ntmps83
      go_wp2_with fail
      refine (hc _ h'.out).mono ?_
      rintro en w3 ⟨rfl, h3, t3⟩
      have h3' := hid h3
      have q3 := hid t3
      clear h3 t3 hc
      go_wp2_with fail
      refine (pnumber_any h3'.out).mono ?_
      rintro en w4 ⟨rfl, h4, t4⟩
      have h4' := hid h4
      have q4 := hid (q3.out.trans t4)
      clear h4 t4
      go_wp2_with fail
      refine (hd _ h4'.out).mono ?_
      rintro en w5 ⟨rfl, h5, t5⟩
      have h5' := hid h5
      have q5 := hid (q4.out.trans t5)
      clear h5 t5 hd
      go_wp2_with fail
      rw [el.out, eh.out, es.out]
      exact bodyPost_ret (v := .tuple #[.int .i64 (Po.takeTok T 3 st).n, .int .i64 (Po.takeTok T 3 st).n]) (by simp [results, Tryd.results83, go_sem]) rfl ⟨rfl, h5'.out, q5.out⟩

end Go.Proofs.YtnoieobjfihbeaaDoor

namespace Go.Proofs.YtnoieobjfihbeaaDoor
open Go.RowKit Go.Sort

theorem Blk.four {w : World} {b : Nat} {x y z u : Value} {t : TypeId} (h : Blk w b #[x, y, z, u] t) : w.cell? ⟨b, 0, none⟩ = some x ∧ w.cell? ⟨b, 1, none⟩ = some y ∧ w.cell? ⟨b, 2, none⟩ = some z ∧ w.cell? ⟨b, 3, none⟩ = some u ∧ (∀ o, w.frozen? ⟨b, o, none⟩ = false) ∧ b < w.heap.size :=
  ⟨h.cell 0 rfl, h.cell 1 rfl, h.cell 2 rfl, h.cell 3 rfl, h.free, h.lt⟩
def pboxV (x : Po.Box) : Value := .agg #[.int .i64 x.x0, .int .i64 x.y0, .int .i64 x.x1, .int .i64 x.y1]

set_option maxRecDepth 100000 in
set_option maxHeartbeats 4000000 in
theorem pbox_any {w : World} {b : Nat} {pa : Option Addr} {cp : Nat} {T : List Lx.Tok} {e : Nat × Nat} {st : Po.St} (h : PRd w b pa cp T e st) :
    Calls Tryd.prog 96 #[.pointer (some ⟨b, 0, none⟩)] w fun en w' => en = .returned (pboxV (Po.boxV T e st)) ∧ PRd w' b pa cp T e (Po.boxS T e st) ∧ Touch b w w' := by
  have h' := hid h
  have hblt : b < w.heap.size := h.blk.lt
  have hn1 := Nat.le_refl w.heap.size
  have hn2 : w.heap.size ≤ w.heap.size + 1 := by omega
  have hnb : w.heap.size ≠ b := by omega
  have hnb1 : w.heap.size + 1 ≠ b := by omega
  have hne : w.heap.size ≠ w.heap.size + 1 := by omega
  have hne' : w.heap.size + 1 ≠ w.heap.size := by omega
  have hz1 := balloc w (.cells #[.int .i64 0, .int .i64 0, .int .i64 0, .int .i64 0] 73)
  have hz2 := balloc (w.alloc (.cells #[.int .i64 0, .int .i64 0, .int .i64 0, .int .i64 0] 73)) (.cells #[.int .i64 0, .int .i64 0, .int .i64 0, .int .i64 0] 119)
  have ha := hid ((h.ext hz1).ext hz2)
  have qa := hid ((Touch.of_below (b := b) hz1).below hz2)
  have ra := hid ((Blk.new w #[.int .i64 0, .int .i64 0, .int .i64 0, .int .i64 0] 73).ext hz2)
  have ba := hid (Blk.newAt (w := w.alloc (.cells #[.int .i64 0, .int .i64 0, .int .i64 0, .int .i64 0] 73)) (k := w.heap.size + 1) (by simp) #[.int .i64 0, .int .i64 0, .int .i64 0, .int .i64 0] 119)
  clear h hz1 hz2
  go_enter Tryd.func96, Tryd.ntmps96
  go_wp2_with fail
  go_loopg [5] 4 (fun g u wr => ∃ k : Nat, u = .int .i64 k ∧ k + g = 4 ∧ PRd wr b pa cp T e (Po.nth T e st k) ∧
    Blk wr (w.heap.size + 1) #[.int .i64 (Po.upto T e st k 0), .int .i64 (Po.upto T e st k 1), .int .i64 (Po.upto T e st k 2), .int .i64 (Po.upto T e st k 3)] 119 ∧ Blk wr w.heap.size #[.int .i64 0, .int .i64 0, .int .i64 0, .int .i64 0] 73 ∧ Touch b w wr)
  case atStart => exact ⟨0, rfl, rfl, ha.out, ba.out, ra.out, qa.out⟩
  case round =>
    obtain ⟨k, rfl, hk, hP, hB, hR, hQ⟩ := hrel
    have hk5 : k = 0 ∨ k = 1 ∨ k = 2 ∨ k = 3 ∨ k = 4 := by omega
    rcases hk5 with rfl | rfl | rfl | rfl | rfl
    · have hB2 := hid (show Blk wr (w.heap.size + 1) #[.int .i64 (0 : Nat), .int .i64 (0 : Nat), .int .i64 (0 : Nat), .int .i64 (0 : Nat)] 119 from hB)
      have hP' := hid hP
      have hR' := hid hR
      have hQ' := hid hQ
      clear hB hP hR hQ
      go_wp2_with fail
      refine (pnumber_any hP'.out).mono ?_
      rintro en w2 ⟨rfl, h2, t2⟩
      have h2' := hid h2
      have q2 := hid (hQ'.out.trans t2)
      have b2 := hid (hB2.out.touch t2 hnb1)
      have r2 := hid (hR'.out.touch t2 hnb)
      clear h2 t2
      obtain ⟨y0, y1, y2, y3, yf, yz⟩ := b2.out.four
      go_wp2_with fail
      go_roundg 3
      case measure => omega
      case rel => exact ⟨1, rfl, rfl, (by simp only [PRd.setOld_iff h'.out hn2]; exact h2'.out), b2.out.set 0 _, r2.out.setOther hne _ _, (by simp only [Touch.setNew_iff hn2]; exact q2.out)⟩
    · have hB2 := hid (show Blk wr (w.heap.size + 1) #[.int .i64 (Po.num T e st 0 : Nat), .int .i64 (0 : Nat), .int .i64 (0 : Nat), .int .i64 (0 : Nat)] 119 from hB)
      have hP' := hid hP
      have hR' := hid hR
      have hQ' := hid hQ
      clear hB hP hR hQ
      go_wp2_with fail
      refine (pnumber_any hP'.out).mono ?_
      rintro en w2 ⟨rfl, h2, t2⟩
      have h2' := hid h2
      have q2 := hid (hQ'.out.trans t2)
      have b2 := hid (hB2.out.touch t2 hnb1)
      have r2 := hid (hR'.out.touch t2 hnb)
      clear h2 t2
      obtain ⟨y0, y1, y2, y3, yf, yz⟩ := b2.out.four
      go_wp2_with fail
      go_roundg 2
      case measure => omega
      case rel => exact ⟨2, rfl, rfl, (by simp only [PRd.setOld_iff h'.out hn2]; exact h2'.out), b2.out.set 1 _, r2.out.setOther hne _ _, (by simp only [Touch.setNew_iff hn2]; exact q2.out)⟩
    · have hB2 := hid (show Blk wr (w.heap.size + 1) #[.int .i64 (Po.num T e st 0 : Nat), .int .i64 (Po.num T e st 1 : Nat), .int .i64 (0 : Nat), .int .i64 (0 : Nat)] 119 from hB)
      have hP' := hid hP
      have hR' := hid hR
      have hQ' := hid hQ
      clear hB hP hR hQ
      go_wp2_with fail
      refine (pnumber_any hP'.out).mono ?_
      rintro en w2 ⟨rfl, h2, t2⟩
      have h2' := hid h2
      have q2 := hid (hQ'.out.trans t2)
      have b2 := hid (hB2.out.touch t2 hnb1)
      have r2 := hid (hR'.out.touch t2 hnb)
      clear h2 t2
      obtain ⟨y0, y1, y2, y3, yf, yz⟩ := b2.out.four
      go_wp2_with fail
      go_roundg 1
      case measure => omega
      case rel => exact ⟨3, rfl, rfl, (by simp only [PRd.setOld_iff h'.out hn2]; exact h2'.out), b2.out.set 2 _, r2.out.setOther hne _ _, (by simp only [Touch.setNew_iff hn2]; exact q2.out)⟩
    · have hB2 := hid (show Blk wr (w.heap.size + 1) #[.int .i64 (Po.num T e st 0 : Nat), .int .i64 (Po.num T e st 1 : Nat), .int .i64 (Po.num T e st 2 : Nat), .int .i64 (0 : Nat)] 119 from hB)
      have hP' := hid hP
      have hR' := hid hR
      have hQ' := hid hQ
      clear hB hP hR hQ
      go_wp2_with fail
      refine (pnumber_any hP'.out).mono ?_
      rintro en w2 ⟨rfl, h2, t2⟩
      have h2' := hid h2
      have q2 := hid (hQ'.out.trans t2)
      have b2 := hid (hB2.out.touch t2 hnb1)
      have r2 := hid (hR'.out.touch t2 hnb)
      clear h2 t2
      obtain ⟨y0, y1, y2, y3, yf, yz⟩ := b2.out.four
      go_wp2_with fail
      go_roundg 0
      case measure => omega
      case rel => exact ⟨4, rfl, rfl, (by simp only [PRd.setOld_iff h'.out hn2]; exact h2'.out), b2.out.set 3 _, r2.out.setOther hne _ _, (by simp only [Touch.setNew_iff hn2]; exact q2.out)⟩
    · have hB2 := hid (show Blk wr (w.heap.size + 1) #[.int .i64 (Po.num T e st 0 : Nat), .int .i64 (Po.num T e st 1 : Nat), .int .i64 (Po.num T e st 2 : Nat), .int .i64 (Po.num T e st 3 : Nat)] 119 from hB)
      have hP' := hid hP
      have hR' := hid hR
      have hQ' := hid hQ
      clear hB hP hR hQ
      obtain ⟨y0, y1, y2, y3, yf, yz⟩ := hB2.out.four
      obtain ⟨x0, x1, x2, x3, xf, xz⟩ := hR'.out.four
      go_wp2_with fail
      exact bodyPost_ret (v := .agg #[.int .i64 (Po.num T e st 0 : Nat), .int .i64 (Po.num T e st 1 : Nat), .int .i64 (Po.num T e st 2 : Nat), .int .i64 (Po.num T e st 3 : Nat)]) (by simp [results, Tryd.results96, go_sem, x0, x1, x2, x3]) rfl ⟨rfl, (by simp only [PRd.setOld_iff h'.out hn1]; exact hP'.out), (by simp only [Touch.setNew_iff hn1]; exact hQ'.out)⟩

theorem Tryd.infoRect : (Tryd.prog.info? 73).map (fun i => (i.zero, i.size, i.bytes)) = some (some (.agg #[.int .i64 0, .int .i64 0, .int .i64 0, .int .i64 0]), 4, 32) := by kernel_rfl
def boxCells (x : Po.Box) : List Value := [.int .i64 x.x0, .int .i64 x.y0, .int .i64 x.x1, .int .i64 x.y1]
def boxesCells (l : List Po.Box) : List Value := l.flatMap boxCells
theorem boxesCells_snoc (l : List Po.Box) (x : Po.Box) : boxesCells (l ++ [x]) = boxesCells l ++ boxCells x := by simp [boxesCells, boxCells]
theorem boxCells_one (x : Po.Box) : ∀ u ∈ boxCells x, u.oneCell' = true := by
  intro u hu
  simp only [boxCells, List.mem_cons, List.not_mem_nil, or_false] at hu
  rcases hu with rfl | rfl | rfl | rfl <;> rfl

set_option maxRecDepth 100000 in
set_option maxHeartbeats 4000000 in
theorem pboxes_any {w : World} {b : Nat} {pa : Option Addr} {cp : Nat} {T : List Lx.Tok} {e : Nat × Nat} {st : Po.St} (h : PRd w b pa cp T e st) :
    Calls Tryd.prog 89 #[.pointer (some ⟨b, 0, none⟩)] w fun en w' => ∃ v, en = .returned v ∧ Row w' v (Po.boxesV T e st).length 4 (boxesCells (Po.boxesV T e st)) ∧ (∀ k, v.ownBlock = some k → w.heap.size ≤ k) ∧ PRd w' b pa cp T e (Po.boxesS T e st) ∧ Touch b w w' := by
  obtain ⟨i0, hinf, hz0, hz1, hz2⟩ := info_parts Tryd.infoRect
  have h' := hid h
  have hsm := h.small
  have hblt : b < w.heap.size := h.blk.lt
  have hn1 := Nat.le_refl w.heap.size
  have hbeg := hid (Po.Boxing.begin T e st)
  clear h
  go_enter Tryd.func89, Tryd.ntmps89
  go_wp2_with fail
  refine (pbox_any h'.out).mono ?_
  rintro en w1 ⟨rfl, h1, t1⟩
  have hsz1 := t1.size
  have hza := balloc w1 (.cells (boxCells (Po.boxV T e st)).toArray 73)
  have ha := hid (h1.ext hza)
  have qa := hid (t1.below hza)
  have oa := hid (World.ownsRow_lit (base := w.heap.size) (size := 4) (e := 73) w1 (boxCells (Po.boxV T e st)).toArray 1 hsz1 (by decide) rfl)
  clear h1 t1 hza
  unfold pboxV
  go_wp2_with fail
  go_loopg [3] (T.length + 1) (fun g u wr => ∃ (n : Nat) (bs : List Po.Box) (s : Po.St), n = bs.length ∧ n + g = T.length + 2 ∧ Po.Boxing T e st g bs s ∧ PRd wr b pa cp T e s ∧ wr.ownsRow w.heap.size 73 4 u n (boxesCells bs) ∧ Touch b w wr)
  case atStart => exact ⟨1, [Po.boxV T e st], _, rfl, by omega, hbeg.out, ha.out, (by rw [show boxesCells [Po.boxV T e st] = boxCells (Po.boxV T e st) from by simp [boxesCells]]; exact oa.out), qa.out⟩
  case round =>
    obtain ⟨n, bs, s, hn, hng, hB, hP, hO, hQ⟩ := hrel
    have hn' := hid hn
    have hB' := hid hB
    have hP' := hid hP
    have hO' := hid hO
    have hQ' := hid hQ
    clear hn hB hP hO hQ
    cases hi : Po.is T [43] s with
    | true =>
      have hg := hB'.out.pos hi
      obtain ⟨gk', rfl⟩ : ∃ g', gk = g' + 1 := ⟨gk - 1, by omega⟩
      have hB2 := hid (hB'.out.step hi)
      have hc := hid (ptook_yes (s := ⟨#[43]⟩) hP'.out hi)
      clear hi
      go_wp2_with fail
      refine hc.out.mono ?_
      rintro en w2 ⟨rfl, h2, t2⟩
      have h2' := hid h2
      have o2 := hid (owns_touch hO'.out t2 hblt)
      have q2 := hid (hQ'.out.trans t2)
      clear h2 t2 hc
      go_wp2_with fail
      refine (pbox_any h2'.out).mono ?_
      rintro en w3 ⟨rfl, h3, t3⟩
      have h3' := hid h3
      have o3 := hid (owns_touch o2.out t3 hblt)
      have q3 := hid (q2.out.trans t3)
      clear h3 t3
      generalize hbx : Po.boxV T e (Po.on s) = bx at *
      have hcap : n + 1 ≤ maxLen := by unfold maxLen; omega
      have hc1 := hid (cells_new w3 (boxCells bx) 73 (k := w3.heap.size) rfl)
      have hal := hid (o3.out.alloc (.cells (boxCells bx).toArray 73))
      have hz3 := q3.out.size
      unfold pboxV
      go_wp2_with (first | (at_builtin; refine wpList_append_own _ rfl _ _ 40 rfl w.heap.size 73 i0 (.agg #[.int .i64 0, .int .i64 0, .int .i64 0, .int .i64 0]) 4 32 Tryd.underlying40 hinf hz0 hz1 hz2 rfl (by decide) _ _ _ rfl hal.out ⟨w3.heap.size, 0, none⟩ 1 1 (boxCells bx) rfl rfl hc1.out (boxCells_one _) hcap (by omega) (by simp; omega) ?_; intro v' w5 hown5 hgrow _))
      go_roundg gk'
      case measure => omega
      case rel =>
        refine ⟨n + 1, bs ++ [bx], _, by rw [List.length_append, ← hn'.out]; rfl, by omega, hB2.out, ?_, ?_, ?_⟩
        · exact PRd.grown h'.out (h3'.out.ext (balloc w3 _)) hgrow (fun k hk => (hal.out.lt k hk).1)
        · rw [boxesCells_snoc]; exact hown5
        · exact (q3.out.alloc _).grown hgrow (fun k hk => (hal.out.lt k hk).1)
    | false =>
      have hB2 := hid (hB'.out.stop hi)
      have hc := hid (ptook_no (s := ⟨#[43]⟩) hP'.out hi)
      clear hi
      go_wp2_with fail
      refine hc.out.mono ?_
      rintro en w2 ⟨rfl, h2, t2⟩
      have h2' := hid h2
      have o2 := hid (owns_touch hO'.out t2 hblt)
      have q2 := hid (hQ'.out.trans t2)
      clear h2 t2 hc
      go_wp2_with fail
      go_ret
      rw [hB2.out.1, hB2.out.2]
      refine ⟨_, rfl, ?_, fun k hk => (o2.out.lt k hk).1, h2'.out, q2.out⟩
      rw [← hn'.out]
      exact Row.of_owns o2.out

end Go.Proofs.YtnoieobjfihbeaaDoor
