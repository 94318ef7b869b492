/- The walks of the policy's reader: kind, place, wrong, took, want. -/
import Derived.Test.YtelphkhacadfaaaPolA
namespace Go.Proofs.Ytelphkhacadfaaa
open Go.RowKit Go.Sort

set_option maxHeartbeats 2000000 in
theorem pkind_any {w : World} {b : Nat} {pa : Option Addr} {cp : Nat} {T : List Lx.Tok} {e : Nat × Nat} {st : Po.St} (h : PRd w b pa cp T e st) (k : Nat) :
    Calls Try.prog 115 #[.pointer (some ⟨b, 0, none⟩), .int .i64 k] w fun en w' => en = .returned (.bool (Po.kindIs T k st)) ∧ Below w.heap.size w w' := by
  have h' := hid h
  have hsm := h.small
  obtain ⟨i, fe, fl, fc⟩ := st
  obtain ⟨hz, c0, c1, c2, c3, c4, c5, c6, hf⟩ := h.f
  simp only at c0 c1 c2 c3 c4 c5 c6
  clear h
  by_cases h0 : fe = 0
  · subst h0
    by_cases hi : i < T.length
    · obtain ⟨g, off, t, rfl, ht, hn, hat, hr⟩ := h'.out.tok hi
      have hk2 : ((t.kind : Int) == (k : Int)) = (t.kind == k) := by rw [Bool.eq_iff_iff]; simp only [beq_iff_eq]; omega
      have he : Po.kindIs T k ⟨i, 0, fl, fc⟩ = ((t.kind : Int) == (k : Int)) := by
        rw [hk2]; unfold Po.kindIs; simp only [ht]; rfl
      clear hk2
      have he' := hid he
      obtain ⟨d0, d1, d2, d3, d4⟩ := hat _ hr
      have hg := hr.lt
      clear hr hat ht he
      cases hx : ((t.kind : Int) == (k : Int)) with
      | true =>
        go_enter Try.func115, Try.ntmps115
        go_wp2_with fail
        go_quiet (fail)
        go_wp2_with fail
        go_ret
        rw [he'.out, hx]
        exact ⟨rfl, bdrewN (Below.refl _ _) _⟩
      | false =>
        go_enter Try.func115, Try.ntmps115
        go_wp2_with fail
        go_quiet (fail)
        go_wp2_with fail
        go_ret
        rw [he'.out, hx]
        exact ⟨rfl, bdrewN (Below.refl _ _) _⟩
    · have hi' : decide ((i : Int) < T.length) = false := decide_eq_false (by omega)
      have he : Po.kindIs T k ⟨i, 0, fl, fc⟩ = false := by unfold Po.kindIs; simp only [List.getElem?_eq_none (show T.length ≤ i by omega)]; rfl
      rw [he]
      go_enter Try.func115, Try.ntmps115
      go_wp2_with fail
      go_quiet (fail)
      go_wp2_with fail
      go_ret
      exact ⟨rfl, bdrewN (Below.refl _ _) _⟩
  · have h0' : ((fe : Int) == 0) = false := by rw [beq_eq_false_iff_ne]; omega
    have he : Po.kindIs T k ⟨i, fe, fl, fc⟩ = false := by unfold Po.kindIs; simp [h0]
    rw [he]
    clear h0
    go_enter Try.func115, Try.ntmps115
    go_wp2_with fail
    go_quiet (fail)
    go_wp2_with fail
    go_ret
    exact ⟨rfl, bdrewN (Below.refl _ _) _⟩

set_option maxHeartbeats 2000000 in
theorem pplace_any {w : World} {b : Nat} {pa : Option Addr} {cp : Nat} {T : List Lx.Tok} {e : Nat × Nat} {st : Po.St} (h : PRd w b pa cp T e st) :
    Calls Try.prog 80 #[.pointer (some ⟨b, 0, none⟩)] w fun en w' => en = .returned (.agg #[.int .i64 (Po.place T e st).1, .int .i64 (Po.place T e st).2]) ∧ Below w.heap.size w w' := by
  have h' := hid h
  have hsm := h.small
  obtain ⟨i, fe, fl, fc⟩ := st
  obtain ⟨hz, c0, c1, c2, c3, c4, c5, c6, hf⟩ := h.f
  simp only at c0 c1 c2 c3 c4 c5 c6
  clear h
  have hnb : w.heap.size ≠ b := by omega
  have hn2 := Nat.le_refl w.heap.size
  by_cases hi : i < T.length
  · obtain ⟨g, off, t, rfl, ht, hn, hat, hr⟩ := h'.out.tok hi
    have he := hid (show Po.place T e ⟨i, fe, fl, fc⟩ = (t.line, t.col) by unfold Po.place; simp only [ht])
    obtain ⟨d0, d1, d2, d3, d4⟩ := hat _ hr
    have hg := hr.lt
    have hng : w.heap.size ≠ g := by omega
    clear hr hat ht
    rw [he.out]
    go_enter Try.func80, Try.ntmps80
    go_wp2_with fail
    go_quiet (fail)
    go_wp2_with fail
    go_region_held3 (fun w' => w'.cell? ⟨b, 0, none⟩ = some (.slice (some ⟨g, off, none⟩) T.length cp) ∧ w'.cell? ⟨b, 1, none⟩ = some (.int .i64 i) ∧ w'.cell? ⟨g, off + i * 5 + 3, none⟩ = some (.int .i64 t.line) ∧ w'.cell? ⟨g, off + i * 5 + 3 + 1, none⟩ = some (.int .i64 t.col)) (go_keep) (first | fail)
    go_wp2_with fail
    have Q := hid (balloc w (.cells #[.int .i64 0, .int .i64 0] 27))
    exact bodyPost_ret (v := .agg #[.int .i64 t.line, .int .i64 t.col]) (by simp [results, Try.results80, go_sem]) rfl ⟨rfl, (by simp only [below_setNew_iff hn2, below_drewN_iff]; exact Q.out)⟩
  · have hi' : decide ((i : Int) < T.length) = false := decide_eq_false (by omega)
    have he := hid (show Po.place T e ⟨i, fe, fl, fc⟩ = e by unfold Po.place; simp only [List.getElem?_eq_none (show T.length ≤ i by omega)])
    rw [he.out]
    go_enter Try.func80, Try.ntmps80
    go_wp2_with fail
    go_quiet (fail)
    go_wp2_with fail
    have Q := hid (balloc w (.cells #[.int .i64 0, .int .i64 0] 27))
    exact bodyPost_ret (v := .agg #[.int .i64 e.1, .int .i64 e.2]) (by simp [results, Try.results80, go_sem]) rfl ⟨rfl, (by simp only [below_setNew_iff hn2, below_drewN_iff]; exact Q.out)⟩

set_option maxHeartbeats 2000000 in
theorem pwrong_any {w : World} {b : Nat} {pa : Option Addr} {cp : Nat} {T : List Lx.Tok} {e : Nat × Nat} {st : Po.St} (h : PRd w b pa cp T e st) :
    Calls Try.prog 86 #[.pointer (some ⟨b, 0, none⟩)] w fun en w' => en = .returned (.tuple #[]) ∧ PRd w' b pa cp T e (Po.wrong T e st) ∧ Touch b w w' := by
  have h' := hid h
  obtain ⟨i, fe, fl, fc⟩ := st
  obtain ⟨hz, c0, c1, c2, c3, c4, c5, c6, hf⟩ := h.f
  simp only at c0 c1 c2 c3 c4 c5 c6
  clear h
  by_cases h0 : fe = 0
  · subst h0
    have he := hid (show Po.wrong T e ⟨i, 0, fl, fc⟩ = ⟨i, (31, (Po.place T e ⟨i, 0, fl, fc⟩).1, (Po.place T e ⟨i, 0, fl, fc⟩).2)⟩ by unfold Po.wrong Lx.mkFault; rfl)
    go_enter Try.func86, Try.ntmps86
    go_wp2_with fail
    refine (pplace_any h'.out).mono ?_
    rintro en w1 ⟨rfl, hb1⟩
    have h1 := hid (h'.out.ext hb1)
    have t1 := hid (Touch.of_below (b := b) hb1)
    clear c0 c1 c2 c3 c4 c5 c6 hf hz
    obtain ⟨hz, c0, c1, c2, c3, c4, c5, c6, hf⟩ := h1.out.f
    go_wp2_with fail
    go_end0
    rw [he.out]
    exact ⟨rfl, h1.out.setF _ _ _, ((t1.out.setCell _ _).setCell _ _).setCell _ _⟩
  · have h0' : ((fe : Int) == 0) = false := by rw [beq_eq_false_iff_ne]; omega
    have he : Po.wrong T e ⟨i, fe, fl, fc⟩ = ⟨i, fe, fl, fc⟩ := by unfold Po.wrong; rw [if_neg h0]
    rw [he]
    go_enter Try.func86, Try.ntmps86
    go_wp2_with fail
    go_end0
    exact ⟨rfl, h'.out, Touch.refl _ _⟩

set_option maxHeartbeats 2000000 in
theorem ptook_any {w : World} {b : Nat} {pa : Option Addr} {cp : Nat} {T : List Lx.Tok} {e : Nat × Nat} {st : Po.St} (h : PRd w b pa cp T e st) (s : ByteArray) :
    Calls Try.prog 82 #[.pointer (some ⟨b, 0, none⟩), .string s] w fun en w' => en = .returned (.bool (Po.is T s.data.toList st)) ∧ PRd w' b pa cp T e (Po.took T s.data.toList st) ∧ Touch b w w' := by
  have h' := hid h
  have hsm := h.small
  cases hs : Po.is T s.data.toList st with
  | true =>
    have hl := Po.lt_of_is hs
    have ht := hid (Po.took_on hs)
    have hq := hid hs
    clear hs h
    go_enter Try.func82, Try.ntmps82
    go_wp2_with fail
    refine (pis_any h'.out s).mono ?_
    rintro en w1 ⟨rfl, hb1⟩
    have h1 := hid (h'.out.ext hb1)
    have t1 := hid (Touch.of_below (b := b) hb1)
    rw [hq.out]
    clear hq
    obtain ⟨i, fe, fl, fc⟩ := st
    obtain ⟨hz, c0, c1, c2, c3, c4, c5, c6, hf⟩ := h1.out.f
    simp only at c0 c1 c2 c3 c4 c5 c6 hl
    go_wp2_with fail
    go_ret
    rw [ht.out]
    exact ⟨rfl, h1.out.setAt (i + 1) (by omega), t1.out.setCell _ _⟩
  | false =>
    have ht := hid (Po.took_not hs)
    have hq := hid hs
    clear hs h
    go_enter Try.func82, Try.ntmps82
    go_wp2_with fail
    refine (pis_any h'.out s).mono ?_
    rintro en w1 ⟨rfl, hb1⟩
    have h1 := hid (h'.out.ext hb1)
    have t1 := hid (Touch.of_below (b := b) hb1)
    rw [hq.out]
    go_wp2_with fail
    go_ret
    rw [ht.out]
    exact ⟨rfl, h1.out, t1.out⟩
/-- 'took' where the answer is known -/
theorem ptook_yes {w : World} {b : Nat} {pa : Option Addr} {cp : Nat} {T : List Lx.Tok} {e : Nat × Nat} {st : Po.St} (h : PRd w b pa cp T e st) {s : ByteArray} (hs : Po.is T s.data.toList st = true) :
    Calls Try.prog 82 #[.pointer (some ⟨b, 0, none⟩), .string s] w fun en w' => en = .returned (.bool true) ∧ PRd w' b pa cp T e (Po.on st) ∧ Touch b w w' := by
  have := ptook_any h s; rwa [hs, Po.took_on hs] at this
theorem ptook_no {w : World} {b : Nat} {pa : Option Addr} {cp : Nat} {T : List Lx.Tok} {e : Nat × Nat} {st : Po.St} (h : PRd w b pa cp T e st) {s : ByteArray} (hs : Po.is T s.data.toList st = false) :
    Calls Try.prog 82 #[.pointer (some ⟨b, 0, none⟩), .string s] w fun en w' => en = .returned (.bool false) ∧ PRd w' b pa cp T e st ∧ Touch b w w' := by
  have := ptook_any h s; rwa [hs, Po.took_not hs] at this

set_option maxHeartbeats 2000000 in
theorem pwant_any {w : World} {b : Nat} {pa : Option Addr} {cp : Nat} {T : List Lx.Tok} {e : Nat × Nat} {st : Po.St} (h : PRd w b pa cp T e st) (s : ByteArray) :
    Calls Try.prog 87 #[.pointer (some ⟨b, 0, none⟩), .string s] w fun en w' => en = .returned (.tuple #[]) ∧ PRd w' b pa cp T e (Po.want T e s.data.toList st) ∧ Touch b w w' := by
  cases hs : Po.is T s.data.toList st with
  | true =>
    have ht := hid (Po.want_on (e := e) hs)
    have hc := ptook_yes h hs
    clear hs h
    go_enter Try.func87, Try.ntmps87
    go_wp2_with fail
    refine hc.mono ?_
    rintro en w1 ⟨rfl, h1, t1⟩
    have h1' := hid h1
    have t1' := hid t1
    clear h1 t1
    go_wp2_with fail
    go_end0
    rw [ht.out]
    exact ⟨rfl, h1'.out, t1'.out⟩
  | false =>
    have ht := hid (Po.want_not (e := e) hs)
    have hc := ptook_no h hs
    clear hs h
    go_enter Try.func87, Try.ntmps87
    go_wp2_with fail
    refine hc.mono ?_
    rintro en w1 ⟨rfl, h1, t1⟩
    have h1' := hid h1
    have t1' := hid t1
    clear h1 t1
    go_wp2_with fail
    refine (pwrong_any h1'.out).mono ?_
    rintro en w2 ⟨rfl, h2, t2⟩
    have h2' := hid h2
    have t2' := hid t2
    clear h2 t2
    go_wp2_with fail
    go_end0
    rw [ht.out]
    exact ⟨rfl, h2'.out, t1'.out.trans t2'.out⟩

end Go.Proofs.Ytelphkhacadfaaa
