/- The walks of the policy's reader: take, name, number, who, where, tiers. -/
import Derived.Test.YtelphkhacadfaaaPolB
namespace Go.Proofs.Ytelphkhacadfaaa
open Go.RowKit Go.Sort

theorem fld_text (k : Int) (x : ByteArray) (n l c : Int) (w : World) : Sem.run Try.prog (Instr.field 109 (.agg #[.int .i64 k, .string x, .int .i64 n, .int .i64 l, .int .i64 c]) 1) w = .ok (.string x) w := by kernel_rfl
theorem fld_n (k : Int) (x : ByteArray) (n l c : Int) (w : World) : Sem.run Try.prog (Instr.field 109 (.agg #[.int .i64 k, .string x, .int .i64 n, .int .i64 l, .int .i64 c]) 2) w = .ok (.int .i64 n) w := by kernel_rfl

theorem pkind_is {w : World} {b : Nat} {pa : Option Addr} {cp : Nat} {T : List Lx.Tok} {e : Nat × Nat} {st : Po.St} {r : Bool} (h : PRd w b pa cp T e st) {k : Nat} (hs : Po.kindIs T k st = r) :
    Calls Try.prog 115 #[.pointer (some ⟨b, 0, none⟩), .int .i64 k] w fun en w' => en = .returned (.bool r) ∧ Below w.heap.size w w' := by
  have := pkind_any h k; rwa [hs] at this

def ptokV (t : Lx.Tok) : Value := .agg #[.int .i64 t.kind, .string (Po.txt t.text), .int .i64 t.n, .int .i64 t.line, .int .i64 t.col]

set_option maxHeartbeats 4000000 in
theorem ptake_any {w : World} {b : Nat} {pa : Option Addr} {cp : Nat} {T : List Lx.Tok} {e : Nat × Nat} {st : Po.St} (h : PRd w b pa cp T e st) (k : Nat) :
    Calls Try.prog 116 #[.pointer (some ⟨b, 0, none⟩), .int .i64 k] w fun en w' => en = .returned (ptokV (Po.takeTok T k st)) ∧ PRd w' b pa cp T e (Po.takeSt T e k st) ∧ Touch b w w' := by
  have h' := hid h
  have hsm := h.small
  have hblt : b < w.heap.size := h.blk.lt
  have hn2 := Nat.le_refl w.heap.size
  have ha := hid (h.ext (balloc w (.cells #[.int .i64 0, .string ⟨#[]⟩, .int .i64 0, .int .i64 0, .int .i64 0] 109)))
  have qa := hid (Touch.of_below (b := b) (balloc w (.cells #[.int .i64 0, .string ⟨#[]⟩, .int .i64 0, .int .i64 0, .int .i64 0] 109)))
  have ba := hid (Blk.new w #[.int .i64 0, .string ⟨#[]⟩, .int .i64 0, .int .i64 0, .int .i64 0] 109)
  have hnb : w.heap.size ≠ b := by omega
  cases hs : Po.kindIs T k st with
  | true =>
    have hl := Po.lt_of_kindIs hs
    have ht := hid (Po.takeSt_on (e := e) hs)
    have hc := pkind_is ha.out hs
    obtain ⟨g, off, t, hpa, htok, hn, hat, hr⟩ := h.tok hl
    have htk := hid (Po.takeTok_on hs htok)
    have hgw : g < w.heap.size := hr.lt
    have hng : w.heap.size ≠ g := by omega
    subst hpa
    have hat' := hid hat
    clear hs h htok hr hat
    go_enter Try.func116, Try.ntmps116
    go_wp2_with fail
    refine hc.mono ?_
    rintro en w1 ⟨rfl, hb1⟩
    have h1 := hid (ha.out.ext hb1)
    have t1 := hid (qa.out.below hb1)
    have b1 := hid (ba.out.ext hb1)
    obtain ⟨i, fe, fl, fc⟩ := st
    obtain ⟨hz, c0, c1, c2, c3, c4, c5, c6, hf⟩ := h1.out.f
    simp only at c0 c1 c2 c3 c4 c5 c6 hl hat'
    have h2 : Hid (PRd (w1.setCell ⟨b, 1, none⟩ (.int .i64 ((i : Int) + 1))) b (some ⟨g, off, none⟩) cp T e ⟨i + 1, (fe, fl, fc)⟩) := hid (h1.out.setAt (i + 1) (by omega))
    have t2 := hid (t1.out.setCell 1 (.int .i64 ((i : Int) + 1)))
    have b2 := hid (b1.out.setOther hnb 1 (.int .i64 ((i : Int) + 1)))
    go_wp2_with fail
    clear c0 c1 c2 c3 c4 c5 c6 hf hz
    generalize w1.setCell ⟨b, 1, none⟩ (.int .i64 ((i : Int) + 1)) = w2 at *
    have hr1 : Hid (TokRow w2 g off cp T) := by
      rcases h2.out.row with h0 | ⟨g', off', hp, hr, _⟩
      · rw [h0] at hl; exact absurd hl (by simp)
      · cases hp; exact hid hr
    obtain ⟨hz, c0, c1, c2, c3, c4, c5, c6, hf⟩ := h2.out.f
    simp only at c0 c1 c2 c3 c4 c5 c6
    rw [show ((i + 1 : Nat) : Int) = (i : Int) + 1 from rfl] at c1
    obtain ⟨d0, d1, d2, d3, d4⟩ := hat'.out _ hr1.out
    have hg1 := hr1.out.lt
    obtain ⟨x0, x1, x2, x3, x4, xf, xz⟩ := b2.out.five
    have q1 : IntKind.i64.wrap ((i : Int) + 1 - 1) = (i : Int) := by rw [IntWalk.i64_in _ (by omega)]; omega
    have q2 : (i : Int) + 1 - 1 = (i : Int) := by omega
    have q3 : IntKind.i64.wrap (i : Int) = (i : Int) := IntWalk.i64_in _ (by omega)
    have q4 : (0 : Int) ≤ (i : Int) := by omega
    have q5 : (i : Int) ≤ (T.length : Int) := by omega
    have q6 : (i : Int) < (T.length : Int) := by omega
    go_region_held3 (fun w' => w'.cell? ⟨b, 0, none⟩ = some (.slice (some ⟨g, off, none⟩) T.length cp) ∧ w'.cell? ⟨b, 1, none⟩ = some (.int .i64 ((i : Int) + 1)) ∧ w'.cell? ⟨g, off + i * 5, none⟩ = some (.int .i64 t.kind) ∧ w'.cell? ⟨g, off + i * 5 + 1, none⟩ = some (.string (Po.txt t.text)) ∧ w'.cell? ⟨g, off + i * 5 + 2, none⟩ = some (.int .i64 t.n) ∧
      w'.cell? ⟨g, off + i * 5 + 3, none⟩ = some (.int .i64 t.line) ∧ w'.cell? ⟨g, off + i * 5 + 3 + 1, none⟩ = some (.int .i64 t.col)) (go_keep) (first | fail)
    go_wp2_with fail
    rw [ht.out, htk.out]
    exact bodyPost_ret (v := ptokV t) (by simp [results, Try.results116, go_sem, ptokV, x0, x1, x2, x3, x4]) rfl ⟨rfl, (PRd.later h'.out h2.out hn2 (by simp only [Touch.setSelf_iff, Touch.drew_iff]; exact Touch.refl _ _)), (by simp only [Touch.setNew_iff hn2, Touch.drew_iff]; exact t2.out)⟩
  | false =>
    have ht := hid (Po.takeSt_not (e := e) hs)
    have htk := hid (Po.takeTok_not hs)
    have hc := pkind_is ha.out hs
    clear hs h
    go_enter Try.func116, Try.ntmps116
    go_wp2_with fail
    refine hc.mono ?_
    rintro en w1 ⟨rfl, hb1⟩
    have h1 := hid (ha.out.ext hb1)
    have t1 := hid (qa.out.below hb1)
    have b1 := hid (ba.out.ext hb1)
    go_wp2_with fail
    refine (pwrong_any h1.out).mono ?_
    rintro en w2 ⟨rfl, h2, t2⟩
    have h2' := hid h2
    have t2' := hid (t1.out.trans t2)
    have b2 := hid (b1.out.touch t2 hnb)
    clear h2 t2
    obtain ⟨x0, x1, x2, x3, x4, xf, xz⟩ := b2.out.five
    go_wp2_with fail
    rw [ht.out, htk.out]
    exact bodyPost_ret (v := ptokV Po.zeroTok) (by simp [results, Try.results116, go_sem, ptokV, Po.zeroTok, Po.txt, x0, x1, x2, x3, x4]) rfl ⟨rfl, (PRd.later h'.out h2'.out hn2 (by simp only [Touch.setSelf_iff]; exact Touch.refl _ _)), (by simp only [Touch.setNew_iff hn2]; exact t2'.out)⟩

set_option maxRecDepth 100000 in
theorem pname_any {w : World} {b : Nat} {pa : Option Addr} {cp : Nat} {T : List Lx.Tok} {e : Nat × Nat} {st : Po.St} (h : PRd w b pa cp T e st) :
    Calls Try.prog 109 #[.pointer (some ⟨b, 0, none⟩)] w fun en w' => en = .returned (.string (Po.txt (Po.takeTok T 1 st).text)) ∧ PRd w' b pa cp T e (Po.takeSt T e 1 st) ∧ Touch b w w' := by
  have h' := hid h
  clear h
  go_enter Try.func109, Try.ntmps109
  go_wp2_with fail
  refine (ptake_any h'.out 1).mono ?_
  rintro en w1 ⟨rfl, h1, t1⟩
  have h1' := hid h1
  have t1' := hid t1
  clear h1 t1
  unfold ptokV
  generalize htt : Po.takeTok T 1 st = t
  have htt' := hid htt
  clear htt
  have hfd := fun w => fld_text t.kind (Po.txt t.text) t.n t.line t.col w
  go_wp2_with fail
  go_ret
  rw [htt'.out]
  exact ⟨rfl, h1'.out, t1'.out⟩

set_option maxRecDepth 100000 in
theorem pnumber_any {w : World} {b : Nat} {pa : Option Addr} {cp : Nat} {T : List Lx.Tok} {e : Nat × Nat} {st : Po.St} (h : PRd w b pa cp T e st) :
    Calls Try.prog 107 #[.pointer (some ⟨b, 0, none⟩)] w fun en w' => en = .returned (.int .i64 (Po.takeTok T 3 st).n) ∧ PRd w' b pa cp T e (Po.takeSt T e 3 st) ∧ Touch b w w' := by
  have h' := hid h
  clear h
  go_enter Try.func107, Try.ntmps107
  go_wp2_with fail
  refine (ptake_any h'.out 3).mono ?_
  rintro en w1 ⟨rfl, h1, t1⟩
  have h1' := hid h1
  have t1' := hid t1
  clear h1 t1
  unfold ptokV
  generalize htt : Po.takeTok T 3 st = t
  have htt' := hid htt
  clear htt
  have hfd := fun w => fld_n t.kind (Po.txt t.text) t.n t.line t.col w
  go_wp2_with fail
  go_ret
  rw [htt'.out]
  exact ⟨rfl, h1'.out, t1'.out⟩

def pwhoV (x : Po.Who) : Value := .agg #[.bool x.any, .string x.name, .int .i64 x.n, .int .i64 x.line, .int .i64 x.col]

set_option maxHeartbeats 4000000 in
theorem pwho_any {w : World} {b : Nat} {pa : Option Addr} {cp : Nat} {T : List Lx.Tok} {e : Nat × Nat} {st : Po.St} (h : PRd w b pa cp T e st) :
    Calls Try.prog 105 #[.pointer (some ⟨b, 0, none⟩)] w fun en w' => en = .returned (pwhoV (Po.whoV T e st)) ∧ PRd w' b pa cp T e (Po.whoS T e st) ∧ Touch b w w' := by
  have h' := hid h
  have hblt : b < w.heap.size := h.blk.lt
  have hn1 := Nat.le_refl w.heap.size
  have ha := hid (h.ext (balloc w (.cells #[.bool false, .string ⟨#[]⟩, .int .i64 0, .int .i64 0, .int .i64 0] 58)))
  have qa := hid (Touch.of_below (b := b) (balloc w (.cells #[.bool false, .string ⟨#[]⟩, .int .i64 0, .int .i64 0, .int .i64 0] 58)))
  have ba := hid (Blk.new w #[.bool false, .string ⟨#[]⟩, .int .i64 0, .int .i64 0, .int .i64 0] 58)
  have hnb : w.heap.size ≠ b := by omega
  clear h
  go_enter Try.func105, Try.ntmps105
  go_wp2_with fail
  refine (pplace_any ha.out).mono ?_
  rintro en w1 ⟨rfl, hb1⟩
  have hsz1 := hb1.size
  simp only [World.size_alloc] at hsz1
  have hpl : ∃ pl pc : Nat, Po.place T e st = (pl, pc) := ⟨_, _, rfl⟩
  obtain ⟨pl, pc, hpl⟩ := hpl
  have hpl' := hid hpl
  rw [hpl]
  clear hpl
  simp only
  have hz := balloc w1 (.cells #[.bool false, .string ⟨#[]⟩, .int .i64 0, .int .i64 pl, .int .i64 pc] 58)
  have h2 := hid ((ha.out.ext hb1).ext hz)
  have q2 := hid ((qa.out.below hb1).below hz)
  have b2 := hid ((ba.out.ext hb1).ext hz)
  have c2 := hid (Blk.new w1 #[.bool false, .string ⟨#[]⟩, .int .i64 0, .int .i64 pl, .int .i64 pc] 58)
  clear hz
  have hne : w.heap.size ≠ w1.heap.size := by omega
  have hne' : w1.heap.size ≠ w.heap.size := by omega
  have hnb1 : w1.heap.size ≠ b := by omega
  have hn2 : w.heap.size ≤ w1.heap.size := by omega
  cases hs : Po.is T Po.wAny st with
  | true =>
    have ev := hid (show Po.whoV T e st = ⟨true, ⟨#[]⟩, 0, pl, pc⟩ by unfold Po.whoV; rw [if_pos hs, hpl'.out])
    have es := hid (show Po.whoS T e st = Po.on st by unfold Po.whoS; rw [if_pos hs])
    have hc := fun w' h => ptook_yes (w := w') (b := b) (pa := pa) (cp := cp) (e := e) h (s := ⟨#[97, 110, 121]⟩) hs
    clear hs
    go_wp2_with fail
    refine (hc _ h2.out).mono ?_
    rintro en w3 ⟨rfl, h3, t3⟩
    have h3' := hid h3
    have q3 := hid (q2.out.trans t3)
    have b3 := hid (b2.out.touch t3 hnb)
    have c3 := hid (c2.out.touch t3 hnb1)
    clear h3 t3 hc
    obtain ⟨x0, x1, x2, x3, x4, xf, xz⟩ := b3.out.five
    obtain ⟨y0, y1, y2, y3, y4, yf, yz⟩ := c3.out.five
    go_wp2_with fail
    rw [ev.out, es.out]
    exact bodyPost_ret (v := pwhoV ⟨true, ⟨#[]⟩, 0, pl, pc⟩) (by simp [results, Try.results105, go_sem, pwhoV, x0, x1, x2, x3, x4]) rfl ⟨rfl, (by simp only [PRd.setOld_iff h'.out hn1, PRd.setOld_iff h'.out hn2]; exact h3'.out), (by simp only [Touch.setNew_iff hn1, Touch.setNew_iff hn2]; exact q3.out)⟩
  | false =>
    have hc := fun w' h => ptook_no (w := w') (b := b) (pa := pa) (cp := cp) (e := e) h (s := ⟨#[97, 110, 121]⟩) hs
    go_wp2_with fail
    refine (hc _ h2.out).mono ?_
    rintro en w3 ⟨rfl, h3, t3⟩
    have h3' := hid h3
    have q3 := hid (q2.out.trans t3)
    have b3 := hid (b2.out.touch t3 hnb)
    have c3 := hid (c2.out.touch t3 hnb1)
    clear h3 t3 hc
    have hs' := hid hs
    clear hs
    go_wp2_with fail
    cases hk : Po.kindIs T 1 st with
    | true =>
      have ev := hid (show Po.whoV T e st = ⟨false, Po.txt (Po.takeTok T 1 st).text, 0, pl, pc⟩ by unfold Po.whoV; rw [if_neg (by rw [hs'.out]; decide), if_pos hk, hpl'.out])
      have es := hid (show Po.whoS T e st = Po.takeSt T e 1 st by unfold Po.whoS; rw [if_neg (by rw [hs'.out]; decide), if_pos hk])
      refine (pkind_is h3'.out hk).mono ?_
      rintro en w4 ⟨rfl, hb4⟩
      have h4 := hid (h3'.out.ext hb4)
      have q4 := hid (q3.out.below hb4)
      have b4 := hid (b3.out.ext hb4)
      have c4 := hid (c3.out.ext hb4)
      clear hk
      go_wp2_with fail
      refine (pname_any h4.out).mono ?_
      rintro en w5 ⟨rfl, h5, t5⟩
      have h5' := hid h5
      have q5 := hid (q4.out.trans t5)
      have b5 := hid (b4.out.touch t5 hnb)
      have c5 := hid (c4.out.touch t5 hnb1)
      clear h5 t5
      obtain ⟨x0, x1, x2, x3, x4, xf, xz⟩ := b5.out.five
      obtain ⟨y0, y1, y2, y3, y4, yf, yz⟩ := c5.out.five
      go_wp2_with fail
      rw [ev.out, es.out]
      exact bodyPost_ret (v := pwhoV ⟨false, Po.txt (Po.takeTok T 1 st).text, 0, pl, pc⟩) (by simp [results, Try.results105, go_sem, pwhoV, x0, x1, x2, x3, x4]) rfl ⟨rfl, (by simp only [PRd.setOld_iff h'.out hn1, PRd.setOld_iff h'.out hn2]; exact h5'.out), (by simp only [Touch.setNew_iff hn1, Touch.setNew_iff hn2]; exact q5.out)⟩
    | false =>
      have ev := hid (show Po.whoV T e st = ⟨false, ⟨#[]⟩, (Po.takeTok T 3 st).n, pl, pc⟩ by unfold Po.whoV; rw [if_neg (by rw [hs'.out]; decide), if_neg (by rw [hk]; decide), hpl'.out])
      have es := hid (show Po.whoS T e st = Po.takeSt T e 3 st by unfold Po.whoS; rw [if_neg (by rw [hs'.out]; decide), if_neg (by rw [hk]; decide)])
      refine (pkind_is h3'.out hk).mono ?_
      rintro en w4 ⟨rfl, hb4⟩
      have h4 := hid (h3'.out.ext hb4)
      have q4 := hid (q3.out.below hb4)
      have b4 := hid (b3.out.ext hb4)
      have c4 := hid (c3.out.ext hb4)
      clear hk
      go_wp2_with fail
      refine (pnumber_any h4.out).mono ?_
      rintro en w5 ⟨rfl, h5, t5⟩
      have h5' := hid h5
      have q5 := hid (q4.out.trans t5)
      have b5 := hid (b4.out.touch t5 hnb)
      have c5 := hid (c4.out.touch t5 hnb1)
      clear h5 t5
      obtain ⟨x0, x1, x2, x3, x4, xf, xz⟩ := b5.out.five
      obtain ⟨y0, y1, y2, y3, y4, yf, yz⟩ := c5.out.five
      go_wp2_with fail
      rw [ev.out, es.out]
      exact bodyPost_ret (v := pwhoV ⟨false, ⟨#[]⟩, (Po.takeTok T 3 st).n, pl, pc⟩) (by simp [results, Try.results105, go_sem, pwhoV, x0, x1, x2, x3, x4]) rfl ⟨rfl, (by simp only [PRd.setOld_iff h'.out hn1, PRd.setOld_iff h'.out hn2]; exact h5'.out), (by simp only [Touch.setNew_iff hn1, Touch.setNew_iff hn2]; exact q5.out)⟩

end Go.Proofs.Ytelphkhacadfaaa
