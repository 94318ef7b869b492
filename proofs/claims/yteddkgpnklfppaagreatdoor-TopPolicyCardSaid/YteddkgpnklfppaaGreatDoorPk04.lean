/-
  The walks of the policy's reader: place, is, kind, wrong, took, want, take, name, number.
  The walks of the policy's reader: kind, place, wrong, took, want.
  The walks of the policy's reader: take, name, number, who, where, tiers.
  The walks of the policy's reader: where, tiers, box.
-/
import Derived.Test.YteddkgpnklfppaaGreatDoorPk03

namespace Go.Proofs.YteddkgpnklfppaaGreatDoor
open Go.RowKit Go.Sort

/-- the reader of a policy, in block b, over the tokens T -/
structure PRd (w : World) (b : Nat) (pa : Option Addr) (cp : Nat) (T : List Lx.Tok) (e : Nat × Nat) (st : Po.St) : Prop where
  blk : Blk w b #[.slice pa T.length cp, .int .i64 st.at_, .int .i64 e.1, .int .i64 e.2, .int .i64 st.f.1, .int .i64 st.f.2.1, .int .i64 st.f.2.2] 79
  row : T = [] ∨ ∃ g off, pa = some ⟨g, off, none⟩ ∧ TokRow w g off cp T ∧ g ≠ b
  le : st.at_ ≤ T.length
  small : T.length ≤ 1000
structure PRdF (w : World) (b : Nat) (pa : Option Addr) (cp : Nat) (T : List Lx.Tok) (el ec i fe fl fc : Int) : Prop where
  lt : b < w.heap.size
  c0 : w.cell? ⟨b, 0, none⟩ = some (.slice pa T.length cp)
  c1 : w.cell? ⟨b, 1, none⟩ = some (.int .i64 i)
  c2 : w.cell? ⟨b, 2, none⟩ = some (.int .i64 el)
  c3 : w.cell? ⟨b, 2 + 1, none⟩ = some (.int .i64 ec)
  c4 : w.cell? ⟨b, 4, none⟩ = some (.int .i64 fe)
  c5 : w.cell? ⟨b, 4 + 1, none⟩ = some (.int .i64 fl)
  c6 : w.cell? ⟨b, 4 + 1 + 1, none⟩ = some (.int .i64 fc)
  free : ∀ o, w.frozen? ⟨b, o, none⟩ = false
theorem PRd.f {w : World} {b : Nat} {pa : Option Addr} {cp : Nat} {T : List Lx.Tok} {e : Nat × Nat} {st : Po.St} (h : PRd w b pa cp T e st) : PRdF w b pa cp T e.1 e.2 st.at_ st.f.1 st.f.2.1 st.f.2.2 :=
  ⟨h.blk.lt, h.blk.cell 0 rfl, h.blk.cell 1 rfl, h.blk.cell 2 rfl, h.blk.cell 3 rfl, h.blk.cell 4 rfl, h.blk.cell 5 rfl, h.blk.cell 6 rfl, h.blk.free⟩
theorem PRd.ext {w w' : World} {b : Nat} {pa : Option Addr} {cp : Nat} {T : List Lx.Tok} {e : Nat × Nat} {st : Po.St} (h : PRd w b pa cp T e st) (hb : Below w.heap.size w w') : PRd w' b pa cp T e st :=
  ⟨h.blk.ext hb, h.row.imp id fun ⟨g, off, hp, hr, hn⟩ => ⟨g, off, hp, tokRow_ext hr hb, hn⟩, h.le, h.small⟩
theorem PRd.touch {w w' : World} {b k : Nat} {pa : Option Addr} {cp : Nat} {T : List Lx.Tok} {e : Nat × Nat} {st : Po.St} (h : PRd w b pa cp T e st) (hb : Touch k w w') (hk : b ≠ k) (hg : ∀ g off, pa = some ⟨g, off, none⟩ → g ≠ k) : PRd w' b pa cp T e st :=
  ⟨h.blk.touch hb hk, h.row.imp id fun ⟨g, off, hp, hr, hn⟩ => ⟨g, off, hp, hr.touch hb (hg g off hp), hn⟩, h.le, h.small⟩
theorem PRd.setAt {w : World} {b : Nat} {pa : Option Addr} {cp : Nat} {T : List Lx.Tok} {e : Nat × Nat} {st : Po.St} (h : PRd w b pa cp T e st) (j : Nat) (hj : j ≤ T.length) :
    PRd (w.setCell ⟨b, 1, none⟩ (.int .i64 j)) b pa cp T e ⟨j, st.f⟩ :=
  ⟨h.blk.set 1 _, h.row.imp id fun ⟨g, off, hp, hr, hn⟩ => ⟨g, off, hp, hr.touch ((Touch.refl b w).setCell 1 _) hn, hn⟩, hj, h.small⟩
theorem PRd.setF {w : World} {b : Nat} {pa : Option Addr} {cp : Nat} {T : List Lx.Tok} {e : Nat × Nat} {st : Po.St} (h : PRd w b pa cp T e st) (x y z : Nat) :
    PRd (((w.setCell ⟨b, 4, none⟩ (.int .i64 x)).setCell ⟨b, 4 + 1, none⟩ (.int .i64 y)).setCell ⟨b, 4 + 1 + 1, none⟩ (.int .i64 z)) b pa cp T e ⟨st.at_, (x, y, z)⟩ :=
  ⟨((h.blk.set 4 _).set 5 _).set 6 _, h.row.imp id fun ⟨g, off, hp, hr, hn⟩ => ⟨g, off, hp, hr.touch ((((Touch.refl b w).setCell 4 _).setCell (4 + 1) _).setCell (4 + 1 + 1) _) hn, hn⟩, h.le, h.small⟩

theorem Touch.setSelf_iff {b : Nat} {a w : World} (o : Nat) (u : Value) : Touch b a (w.setCell ⟨b, o, none⟩ u) ↔ Touch b a w :=
  ⟨fun h => ⟨h.os, h.tape, h.output, by simpa [World.setCell] using h.size, fun i hi hn => (Below.heap_setCell _ _ _ _ (show i ≠ (⟨b, o, none⟩ : Addr).block by simp only; omega)).symm.trans (h.block i hi hn)⟩, fun h => h.setCell o u⟩
theorem PRd.later {w0 w w' : World} {b k : Nat} {pa : Option Addr} {cp : Nat} {T : List Lx.Tok} {e : Nat × Nat} {st0 st : Po.St} (h0 : PRd w0 b pa cp T e st0) (h : PRd w b pa cp T e st) (hk : w0.heap.size ≤ k) (ht : Touch k w w') : PRd w' b pa cp T e st := by
  have hb := h0.blk.lt
  refine ⟨h.blk.touch ht (by omega), ?_, h.le, h.small⟩
  rcases h0.row with h1 | ⟨g, off, hp, hr, hn⟩
  · exact .inl h1
  · rcases h.row with h1 | ⟨g', off', hp', hr', hn'⟩
    · exact .inl h1
    · rw [hp] at hp'
      cases hp'
      have := hr.lt
      exact .inr ⟨g, off, hp, hr'.touch ht (by omega), hn⟩

theorem PRd.setOld_iff {w0 w : World} {b k : Nat} {pa : Option Addr} {cp : Nat} {T : List Lx.Tok} {e : Nat × Nat} {st0 st : Po.St} (h0 : PRd w0 b pa cp T e st0) (hk : w0.heap.size ≤ k) (o : Nat) (u : Value) :
    PRd (w.setCell ⟨k, o, none⟩ u) b pa cp T e st ↔ PRd w b pa cp T e st := by
  have ht : Touch k w (w.setCell ⟨k, o, none⟩ u) := (Touch.refl k w).setCell o u
  refine ⟨fun h => PRd.later h0 h hk ⟨ht.os.symm, ht.tape.symm, ht.output.symm, by simp [World.setCell], fun i hi hn => (ht.block i (by simpa [World.setCell] using hi) hn).symm⟩, fun h => PRd.later h0 h hk ht⟩
theorem PRd.grown {w0 w w' : World} {b : Nat} {row : Option Nat} {pa : Option Addr} {cp : Nat} {T : List Lx.Tok} {e : Nat × Nat} {st0 st : Po.St} (h0 : PRd w0 b pa cp T e st0) (h : PRd w b pa cp T e st) (hg : w.grownBy w' row) (hr : ∀ k, row = some k → w0.heap.size ≤ k) : PRd w' b pa cp T e st := by
  cases row with
  | none => exact PRd.later (k := w0.heap.size) h0 h (Nat.le_refl _) ⟨hg.os, hg.tape, hg.output, hg.size, fun i hi _ => hg.block i hi (by simp)⟩
  | some k => exact PRd.later h0 h (hr k rfl) ⟨hg.os, hg.tape, hg.output, hg.size, fun i hi hn => hg.block i hi (by simpa using hn)⟩
theorem PRd.drewN_iff {w : World} {b : Nat} {pa : Option Addr} {cp : Nat} {T : List Lx.Tok} {e : Nat × Nat} {st : Po.St} (n : Nat) : PRd (w.drewN n) b pa cp T e st ↔ PRd w b pa cp T e st :=
  ⟨fun h => ⟨h.blk, h.row.imp id fun ⟨g, off, hp, hr, hn⟩ => ⟨g, off, hp, ⟨hr.cap, hr.lt, hr.cell⟩, hn⟩, h.le, h.small⟩, fun h => ⟨h.blk, h.row.imp id fun ⟨g, off, hp, hr, hn⟩ => ⟨g, off, hp, ⟨hr.cap, hr.lt, hr.cell⟩, hn⟩, h.le, h.small⟩⟩

/-- the token at the reader's place -/
theorem PRd.tok {w : World} {b : Nat} {pa : Option Addr} {cp : Nat} {T : List Lx.Tok} {e : Nat × Nat} {st : Po.St} (h : PRd w b pa cp T e st) (hi : st.at_ < T.length) :
    ∃ (g off : Nat) (t : Lx.Tok), pa = some ⟨g, off, none⟩ ∧ T[st.at_]? = some t ∧ g ≠ b ∧ (∀ w', TokRow w' g off cp T → TokAt w' g (off + st.at_ * 5) t.kind (Po.txt t.text) t.n t.line t.col) ∧ TokRow w g off cp T := by
  rcases h.row with h0 | ⟨g, off, hp, hr, hn⟩
  · rw [h0] at hi; exact absurd hi (by simp)
  · exact ⟨g, off, T[st.at_], hp, List.getElem?_eq_getElem hi, hn, fun w' hr' => hr'.at hi, hr⟩
theorem txt_eq (t : Lx.Bytes) (s : ByteArray) : ((Po.txt t).toList == s.toList) = (t == s.data.toList) := by
  rw [Bool.eq_iff_iff]
  simp only [beq_iff_eq]
  unfold Po.txt
  rw [ByteArray.toList_mk, ByteArray.toList_eq]

set_option maxHeartbeats 2000000 in
theorem pis_any {w : World} {b : Nat} {pa : Option Addr} {cp : Nat} {T : List Lx.Tok} {e : Nat × Nat} {st : Po.St} (h : PRd w b pa cp T e st) (s : ByteArray) :
    Calls Tryz.prog 92 #[.pointer (some ⟨b, 0, none⟩), .string s] w fun en w' => en = .returned (.bool (Po.is T s.data.toList st)) ∧ Below w.heap.size w w' := by
  have h' := hid h
  have hsm := h.small
  obtain ⟨i, fe, fl, fc⟩ := st
  obtain ⟨hz, c0, c1, c2, c3, c4, c5, c6, hf⟩ := h.f
  simp only at c0 c1 c2 c3 c4 c5 c6
  clear h
  by_cases h0 : fe = 0
  · subst h0
    by_cases hi : i < T.length
    · obtain ⟨g, off, t, rfl, ht, hn, hat, hr⟩ := h'.out.tok hi
      have he := hid (show Po.is T s.data.toList ⟨i, 0, fl, fc⟩ = ((Po.txt t.text).toList == s.toList) by unfold Po.is; rw [txt_eq]; simp only [ht]; rfl)
      obtain ⟨d0, d1, d2, d3, d4⟩ := hat _ hr
      have hg := hr.lt
      clear hr hat ht
      generalize Po.txt t.text = x at *
      cases hx : (x.toList == s.toList) with
      | true =>
        go_enter Tryz.func92, Tryz.ntmps92
        go_wp2_with fail
        go_quiet (fail)
        go_wp2_with fail
        go_ret
        rw [he.out, hx]
        exact ⟨rfl, bdrewN (Below.refl _ _) _⟩
      | false =>
        go_enter Tryz.func92, Tryz.ntmps92
        go_wp2_with fail
        go_quiet (fail)
        go_wp2_with fail
        go_ret
        rw [he.out, hx]
        exact ⟨rfl, bdrewN (Below.refl _ _) _⟩
    · have hi' : decide ((i : Int) < T.length) = false := decide_eq_false (by omega)
      have he : Po.is T s.data.toList ⟨i, 0, fl, fc⟩ = false := by unfold Po.is; simp only [List.getElem?_eq_none (show T.length ≤ i by omega)]; rfl
      rw [he]
      go_enter Tryz.func92, Tryz.ntmps92
      go_wp2_with fail
      go_quiet (fail)
      go_wp2_with fail
      go_ret
      exact ⟨rfl, bdrewN (Below.refl _ _) _⟩
  · have h0' : ((fe : Int) == 0) = false := by rw [beq_eq_false_iff_ne]; omega
    have he : Po.is T s.data.toList ⟨i, fe, fl, fc⟩ = false := by unfold Po.is; simp [h0]
    rw [he]
    clear h0
    go_enter Tryz.func92, Tryz.ntmps92
    go_wp2_with fail
    go_quiet (fail)
    go_wp2_with fail
    go_ret
    exact ⟨rfl, bdrewN (Below.refl _ _) _⟩

end Go.Proofs.YteddkgpnklfppaaGreatDoor

namespace Go.Proofs.YteddkgpnklfppaaGreatDoor
open Go.RowKit Go.Sort

set_option maxHeartbeats 2000000 in
theorem pkind_any {w : World} {b : Nat} {pa : Option Addr} {cp : Nat} {T : List Lx.Tok} {e : Nat × Nat} {st : Po.St} (h : PRd w b pa cp T e st) (k : Nat) :
    Calls Tryz.prog 114 #[.pointer (some ⟨b, 0, none⟩), .int .i64 k] w fun en w' => en = .returned (.bool (Po.kindIs T k st)) ∧ Below w.heap.size w w' := by
  have h' := hid h
  have hsm := h.small
  obtain ⟨i, fe, fl, fc⟩ := st
  obtain ⟨hz, c0, c1, c2, c3, c4, c5, c6, hf⟩ := h.f
  simp only at c0 c1 c2 c3 c4 c5 c6
  clear h
  by_cases h0 : fe = 0
  · subst h0
    by_cases hi : i < T.length
    · obtain ⟨g, off, t, rfl, ht, hn, hat, hr⟩ := h'.out.tok hi
      have hk2 : ((t.kind : Int) == (k : Int)) = (t.kind == k) := by rw [Bool.eq_iff_iff]; simp only [beq_iff_eq]; omega
      have he : Po.kindIs T k ⟨i, 0, fl, fc⟩ = ((t.kind : Int) == (k : Int)) := by
        rw [hk2]; unfold Po.kindIs; simp only [ht]; rfl
      clear hk2
      have he' := hid he
      obtain ⟨d0, d1, d2, d3, d4⟩ := hat _ hr
      have hg := hr.lt
      clear hr hat ht he
      cases hx : ((t.kind : Int) == (k : Int)) with
      | true =>
        go_enter Tryz.func114, Tryz.ntmps114
        go_wp2_with fail
        go_quiet (fail)
        go_wp2_with fail
        go_ret
        rw [he'.out, hx]
        exact ⟨rfl, bdrewN (Below.refl _ _) _⟩
      | false =>
        go_enter Tryz.func114, Tryz.ntmps114
        go_wp2_with fail
        go_quiet (fail)
        go_wp2_with fail
        go_ret
        rw [he'.out, hx]
        exact ⟨rfl, bdrewN (Below.refl _ _) _⟩
    · have hi' : decide ((i : Int) < T.length) = false := decide_eq_false (by omega)
      have he : Po.kindIs T k ⟨i, 0, fl, fc⟩ = false := by unfold Po.kindIs; simp only [List.getElem?_eq_none (show T.length ≤ i by omega)]; rfl
      rw [he]
      go_enter Tryz.func114, Tryz.ntmps114
      go_wp2_with fail
      go_quiet (fail)
      go_wp2_with fail
      go_ret
      exact ⟨rfl, bdrewN (Below.refl _ _) _⟩
  · have h0' : ((fe : Int) == 0) = false := by rw [beq_eq_false_iff_ne]; omega
    have he : Po.kindIs T k ⟨i, fe, fl, fc⟩ = false := by unfold Po.kindIs; simp [h0]
    rw [he]
    clear h0
    go_enter Tryz.func114, Tryz.ntmps114
    go_wp2_with fail
    go_quiet (fail)
    go_wp2_with fail
    go_ret
    exact ⟨rfl, bdrewN (Below.refl _ _) _⟩

set_option maxHeartbeats 2000000 in
theorem pplace_any {w : World} {b : Nat} {pa : Option Addr} {cp : Nat} {T : List Lx.Tok} {e : Nat × Nat} {st : Po.St} (h : PRd w b pa cp T e st) :
    Calls Tryz.prog 51 #[.pointer (some ⟨b, 0, none⟩)] w fun en w' => en = .returned (.agg #[.int .i64 (Po.place T e st).1, .int .i64 (Po.place T e st).2]) ∧ Below w.heap.size w w' := by
  have h' := hid h
  have hsm := h.small
  obtain ⟨i, fe, fl, fc⟩ := st
  obtain ⟨hz, c0, c1, c2, c3, c4, c5, c6, hf⟩ := h.f
  simp only at c0 c1 c2 c3 c4 c5 c6
  clear h
  have hnb : w.heap.size ≠ b := by omega
  have hn2 := Nat.le_refl w.heap.size
  by_cases hi : i < T.length
  · obtain ⟨g, off, t, rfl, ht, hn, hat, hr⟩ := h'.out.tok hi
    have he := hid (show Po.place T e ⟨i, fe, fl, fc⟩ = (t.line, t.col) by unfold Po.place; simp only [ht])
    obtain ⟨d0, d1, d2, d3, d4⟩ := hat _ hr
    have hg := hr.lt
    have hng : w.heap.size ≠ g := by omega
    clear hr hat ht
    rw [he.out]
    go_enter Tryz.func51, Tryz.ntmps51
    go_wp2_with fail
    go_quiet (fail)
    go_wp2_with fail
    go_region_held3 (fun w' => w'.cell? ⟨b, 0, none⟩ = some (.slice (some ⟨g, off, none⟩) T.length cp) ∧ w'.cell? ⟨b, 1, none⟩ = some (.int .i64 i) ∧ w'.cell? ⟨g, off + i * 5 + 3, none⟩ = some (.int .i64 t.line) ∧ w'.cell? ⟨g, off + i * 5 + 3 + 1, none⟩ = some (.int .i64 t.col)) (go_keep) (first | fail)
    go_wp2_with fail
    have Q := hid (balloc w (.cells #[.int .i64 0, .int .i64 0] 31))
    exact bodyPost_ret (v := .agg #[.int .i64 t.line, .int .i64 t.col]) (by simp [results, Tryz.results51, go_sem]) rfl ⟨rfl, (by simp only [below_setNew_iff hn2, below_drewN_iff]; exact Q.out)⟩
  · have hi' : decide ((i : Int) < T.length) = false := decide_eq_false (by omega)
    have he := hid (show Po.place T e ⟨i, fe, fl, fc⟩ = e by unfold Po.place; simp only [List.getElem?_eq_none (show T.length ≤ i by omega)])
    rw [he.out]
    go_enter Tryz.func51, Tryz.ntmps51
    go_wp2_with fail
    go_quiet (fail)
    go_wp2_with fail
    have Q := hid (balloc w (.cells #[.int .i64 0, .int .i64 0] 31))
    exact bodyPost_ret (v := .agg #[.int .i64 e.1, .int .i64 e.2]) (by simp [results, Tryz.results51, go_sem]) rfl ⟨rfl, (by simp only [below_setNew_iff hn2, below_drewN_iff]; exact Q.out)⟩

set_option maxHeartbeats 2000000 in
theorem pwrong_any {w : World} {b : Nat} {pa : Option Addr} {cp : Nat} {T : List Lx.Tok} {e : Nat × Nat} {st : Po.St} (h : PRd w b pa cp T e st) :
    Calls Tryz.prog 57 #[.pointer (some ⟨b, 0, none⟩)] w fun en w' => en = .returned (.tuple #[]) ∧ PRd w' b pa cp T e (Po.wrong T e st) ∧ Touch b w w' := by
  have h' := hid h
  obtain ⟨i, fe, fl, fc⟩ := st
  obtain ⟨hz, c0, c1, c2, c3, c4, c5, c6, hf⟩ := h.f
  simp only at c0 c1 c2 c3 c4 c5 c6
  clear h
  by_cases h0 : fe = 0
  · subst h0
    have he := hid (show Po.wrong T e ⟨i, 0, fl, fc⟩ = ⟨i, (31, (Po.place T e ⟨i, 0, fl, fc⟩).1, (Po.place T e ⟨i, 0, fl, fc⟩).2)⟩ by unfold Po.wrong Lx.mkFault; rfl)
    go_enter Tryz.func57, Tryz.ntmps57
    go_wp2_with fail
    refine (pplace_any h'.out).mono ?_
    rintro en w1 ⟨rfl, hb1⟩
    have h1 := hid (h'.out.ext hb1)
    have t1 := hid (Touch.of_below (b := b) hb1)
    clear c0 c1 c2 c3 c4 c5 c6 hf hz
    obtain ⟨hz, c0, c1, c2, c3, c4, c5, c6, hf⟩ := h1.out.f
    go_wp2_with fail
    go_end0
    rw [he.out]
    exact ⟨rfl, h1.out.setF _ _ _, ((t1.out.setCell _ _).setCell _ _).setCell _ _⟩
  · have h0' : ((fe : Int) == 0) = false := by rw [beq_eq_false_iff_ne]; omega
    have he : Po.wrong T e ⟨i, fe, fl, fc⟩ = ⟨i, fe, fl, fc⟩ := by unfold Po.wrong; rw [if_neg h0]
    rw [he]
    go_enter Tryz.func57, Tryz.ntmps57
    go_wp2_with fail
    go_end0
    exact ⟨rfl, h'.out, Touch.refl _ _⟩

set_option maxHeartbeats 2000000 in
theorem ptook_any {w : World} {b : Nat} {pa : Option Addr} {cp : Nat} {T : List Lx.Tok} {e : Nat × Nat} {st : Po.St} (h : PRd w b pa cp T e st) (s : ByteArray) :
    Calls Tryz.prog 53 #[.pointer (some ⟨b, 0, none⟩), .string s] w fun en w' => en = .returned (.bool (Po.is T s.data.toList st)) ∧ PRd w' b pa cp T e (Po.took T s.data.toList st) ∧ Touch b w w' := by
  have h' := hid h
  have hsm := h.small
  cases hs : Po.is T s.data.toList st with
  | true =>
    have hl := Po.lt_of_is hs
    have ht := hid (Po.took_on hs)
    have hq := hid hs
    clear hs h
    go_enter Tryz.func53, Tryz.ntmps53
    go_wp2_with fail
    refine (pis_any h'.out s).mono ?_
    rintro en w1 ⟨rfl, hb1⟩
    have h1 := hid (h'.out.ext hb1)
    have t1 := hid (Touch.of_below (b := b) hb1)
    rw [hq.out]
    clear hq
    obtain ⟨i, fe, fl, fc⟩ := st
    obtain ⟨hz, c0, c1, c2, c3, c4, c5, c6, hf⟩ := h1.out.f
    simp only at c0 c1 c2 c3 c4 c5 c6 hl
    go_wp2_with fail
    go_ret
    rw [ht.out]
    exact ⟨rfl, h1.out.setAt (i + 1) (by omega), t1.out.setCell _ _⟩
  | false =>
    have ht := hid (Po.took_not hs)
    have hq := hid hs
    clear hs h
    go_enter Tryz.func53, Tryz.ntmps53
    go_wp2_with fail
    refine (pis_any h'.out s).mono ?_
    rintro en w1 ⟨rfl, hb1⟩
    have h1 := hid (h'.out.ext hb1)
    have t1 := hid (Touch.of_below (b := b) hb1)
    rw [hq.out]
    go_wp2_with fail
    go_ret
    rw [ht.out]
    exact ⟨rfl, h1.out, t1.out⟩
/-- 'took' where the answer is known -/
theorem ptook_yes {w : World} {b : Nat} {pa : Option Addr} {cp : Nat} {T : List Lx.Tok} {e : Nat × Nat} {st : Po.St} (h : PRd w b pa cp T e st) {s : ByteArray} (hs : Po.is T s.data.toList st = true) :
    Calls Tryz.prog 53 #[.pointer (some ⟨b, 0, none⟩), .string s] w fun en w' => en = .returned (.bool true) ∧ PRd w' b pa cp T e (Po.on st) ∧ Touch b w w' := by
  have := ptook_any h s; rwa [hs, Po.took_on hs] at this
theorem ptook_no {w : World} {b : Nat} {pa : Option Addr} {cp : Nat} {T : List Lx.Tok} {e : Nat × Nat} {st : Po.St} (h : PRd w b pa cp T e st) {s : ByteArray} (hs : Po.is T s.data.toList st = false) :
    Calls Tryz.prog 53 #[.pointer (some ⟨b, 0, none⟩), .string s] w fun en w' => en = .returned (.bool false) ∧ PRd w' b pa cp T e st ∧ Touch b w w' := by
  have := ptook_any h s; rwa [hs, Po.took_not hs] at this

set_option maxHeartbeats 2000000 in
theorem pwant_any {w : World} {b : Nat} {pa : Option Addr} {cp : Nat} {T : List Lx.Tok} {e : Nat × Nat} {st : Po.St} (h : PRd w b pa cp T e st) (s : ByteArray) :
    Calls Tryz.prog 58 #[.pointer (some ⟨b, 0, none⟩), .string s] w fun en w' => en = .returned (.tuple #[]) ∧ PRd w' b pa cp T e (Po.want T e s.data.toList st) ∧ Touch b w w' := by
  cases hs : Po.is T s.data.toList st with
  | true =>
    have ht := hid (Po.want_on (e := e) hs)
    have hc := ptook_yes h hs
    clear hs h
    go_enter Tryz.func58, Tryz.ntmps58
    go_wp2_with fail
    refine hc.mono ?_
    rintro en w1 ⟨rfl, h1, t1⟩
    have h1' := hid h1
    have t1' := hid t1
    clear h1 t1
    go_wp2_with fail
    go_end0
    rw [ht.out]
    exact ⟨rfl, h1'.out, t1'.out⟩
  | false =>
    have ht := hid (Po.want_not (e := e) hs)
    have hc := ptook_no h hs
    clear hs h
    go_enter Tryz.func58, Tryz.ntmps58
    go_wp2_with fail
    refine hc.mono ?_
    rintro en w1 ⟨rfl, h1, t1⟩
    have h1' := hid h1
    have t1' := hid t1
    clear h1 t1
    go_wp2_with fail
    refine (pwrong_any h1'.out).mono ?_
    rintro en w2 ⟨rfl, h2, t2⟩
    have h2' := hid h2
    have t2' := hid t2
    clear h2 t2
    go_wp2_with fail
    go_end0
    rw [ht.out]
    exact ⟨rfl, h2'.out, t1'.out.trans t2'.out⟩

end Go.Proofs.YteddkgpnklfppaaGreatDoor

namespace Go.Proofs.YteddkgpnklfppaaGreatDoor
open Go.RowKit Go.Sort

theorem fld_text (k : Int) (x : ByteArray) (n l c : Int) (w : World) : Sem.run Tryz.prog (Instr.field 124 (.agg #[.int .i64 k, .string x, .int .i64 n, .int .i64 l, .int .i64 c]) 1) w = .ok (.string x) w := by kernel_rfl
theorem fld_n (k : Int) (x : ByteArray) (n l c : Int) (w : World) : Sem.run Tryz.prog (Instr.field 124 (.agg #[.int .i64 k, .string x, .int .i64 n, .int .i64 l, .int .i64 c]) 2) w = .ok (.int .i64 n) w := by kernel_rfl

theorem pkind_is {w : World} {b : Nat} {pa : Option Addr} {cp : Nat} {T : List Lx.Tok} {e : Nat × Nat} {st : Po.St} {r : Bool} (h : PRd w b pa cp T e st) {k : Nat} (hs : Po.kindIs T k st = r) :
    Calls Tryz.prog 114 #[.pointer (some ⟨b, 0, none⟩), .int .i64 k] w fun en w' => en = .returned (.bool r) ∧ Below w.heap.size w w' := by
  have := pkind_any h k; rwa [hs] at this

def ptokV (t : Lx.Tok) : Value := .agg #[.int .i64 t.kind, .string (Po.txt t.text), .int .i64 t.n, .int .i64 t.line, .int .i64 t.col]

set_option maxHeartbeats 4000000 in
theorem ptake_any {w : World} {b : Nat} {pa : Option Addr} {cp : Nat} {T : List Lx.Tok} {e : Nat × Nat} {st : Po.St} (h : PRd w b pa cp T e st) (k : Nat) :
    Calls Tryz.prog 115 #[.pointer (some ⟨b, 0, none⟩), .int .i64 k] w fun en w' => en = .returned (ptokV (Po.takeTok T k st)) ∧ PRd w' b pa cp T e (Po.takeSt T e k st) ∧ Touch b w w' := by
  have h' := hid h
  have hsm := h.small
  have hblt : b < w.heap.size := h.blk.lt
  have hn2 := Nat.le_refl w.heap.size
  have ha := hid (h.ext (balloc w (.cells #[.int .i64 0, .string ⟨#[]⟩, .int .i64 0, .int .i64 0, .int .i64 0] 124)))
  have qa := hid (Touch.of_below (b := b) (balloc w (.cells #[.int .i64 0, .string ⟨#[]⟩, .int .i64 0, .int .i64 0, .int .i64 0] 124)))
  have ba := hid (Blk.new w #[.int .i64 0, .string ⟨#[]⟩, .int .i64 0, .int .i64 0, .int .i64 0] 124)
  have hnb : w.heap.size ≠ b := by omega
  cases hs : Po.kindIs T k st with
  | true =>
    have hl := Po.lt_of_kindIs hs
    have ht := hid (Po.takeSt_on (e := e) hs)
    have hc := pkind_is ha.out hs
    obtain ⟨g, off, t, hpa, htok, hn, hat, hr⟩ := h.tok hl
    have htk := hid (Po.takeTok_on hs htok)
    have hgw : g < w.heap.size := hr.lt
    have hng : w.heap.size ≠ g := by omega
    subst hpa
    have hat' := hid hat
    clear hs h htok hr hat
    go_enter Tryz.func115, Tryz.ntmps115
    go_wp2_with fail
    refine hc.mono ?_
    rintro en w1 ⟨rfl, hb1⟩
    have h1 := hid (ha.out.ext hb1)
    have t1 := hid (qa.out.below hb1)
    have b1 := hid (ba.out.ext hb1)
    obtain ⟨i, fe, fl, fc⟩ := st
    obtain ⟨hz, c0, c1, c2, c3, c4, c5, c6, hf⟩ := h1.out.f
    simp only at c0 c1 c2 c3 c4 c5 c6 hl hat'
    have h2 : Hid (PRd (w1.setCell ⟨b, 1, none⟩ (.int .i64 ((i : Int) + 1))) b (some ⟨g, off, none⟩) cp T e ⟨i + 1, (fe, fl, fc)⟩) := hid (h1.out.setAt (i + 1) (by omega))
    have t2 := hid (t1.out.setCell 1 (.int .i64 ((i : Int) + 1)))
    have b2 := hid (b1.out.setOther hnb 1 (.int .i64 ((i : Int) + 1)))
    go_wp2_with fail
    clear c0 c1 c2 c3 c4 c5 c6 hf hz
    generalize w1.setCell ⟨b, 1, none⟩ (.int .i64 ((i : Int) + 1)) = w2 at *
    have hr1 : Hid (TokRow w2 g off cp T) := by
      rcases h2.out.row with h0 | ⟨g', off', hp, hr, _⟩
      · rw [h0] at hl; exact absurd hl (by simp)
      · cases hp; exact hid hr
    obtain ⟨hz, c0, c1, c2, c3, c4, c5, c6, hf⟩ := h2.out.f
    simp only at c0 c1 c2 c3 c4 c5 c6
    rw [show ((i + 1 : Nat) : Int) = (i : Int) + 1 from rfl] at c1
    obtain ⟨d0, d1, d2, d3, d4⟩ := hat'.out _ hr1.out
    have hg1 := hr1.out.lt
    obtain ⟨x0, x1, x2, x3, x4, xf, xz⟩ := b2.out.five
    have q1 : IntKind.i64.wrap ((i : Int) + 1 - 1) = (i : Int) := by rw [IntWalk.i64_in _ (by omega)]; omega
    have q2 : (i : Int) + 1 - 1 = (i : Int) := by omega
    have q3 : IntKind.i64.wrap (i : Int) = (i : Int) := IntWalk.i64_in _ (by omega)
    have q4 : (0 : Int) ≤ (i : Int) := by omega
    have q5 : (i : Int) ≤ (T.length : Int) := by omega
    have q6 : (i : Int) < (T.length : Int) := by omega
    go_region_held3 (fun w' => w'.cell? ⟨b, 0, none⟩ = some (.slice (some ⟨g, off, none⟩) T.length cp) ∧ w'.cell? ⟨b, 1, none⟩ = some (.int .i64 ((i : Int) + 1)) ∧ w'.cell? ⟨g, off + i * 5, none⟩ = some (.int .i64 t.kind) ∧ w'.cell? ⟨g, off + i * 5 + 1, none⟩ = some (.string (Po.txt t.text)) ∧ w'.cell? ⟨g, off + i * 5 + 2, none⟩ = some (.int .i64 t.n) ∧
      w'.cell? ⟨g, off + i * 5 + 3, none⟩ = some (.int .i64 t.line) ∧ w'.cell? ⟨g, off + i * 5 + 3 + 1, none⟩ = some (.int .i64 t.col)) (go_keep) (first | fail)
    go_wp2_with fail
    rw [ht.out, htk.out]
    exact bodyPost_ret (v := ptokV t) (by simp [results, Tryz.results115, go_sem, ptokV, x0, x1, x2, x3, x4]) rfl ⟨rfl, (PRd.later h'.out h2.out hn2 (by simp only [Touch.setSelf_iff, Touch.drew_iff]; exact Touch.refl _ _)), (by simp only [Touch.setNew_iff hn2, Touch.drew_iff]; exact t2.out)⟩
  | false =>
    have ht := hid (Po.takeSt_not (e := e) hs)
    have htk := hid (Po.takeTok_not hs)
    have hc := pkind_is ha.out hs
    clear hs h
    go_enter Tryz.func115, Tryz.ntmps115
    go_wp2_with fail
    refine hc.mono ?_
    rintro en w1 ⟨rfl, hb1⟩
    have h1 := hid (ha.out.ext hb1)
    have t1 := hid (qa.out.below hb1)
    have b1 := hid (ba.out.ext hb1)
    go_wp2_with fail
    refine (pwrong_any h1.out).mono ?_
    rintro en w2 ⟨rfl, h2, t2⟩
    have h2' := hid h2
    have t2' := hid (t1.out.trans t2)
    have b2 := hid (b1.out.touch t2 hnb)
    clear h2 t2
    obtain ⟨x0, x1, x2, x3, x4, xf, xz⟩ := b2.out.five
    go_wp2_with fail
    rw [ht.out, htk.out]
    exact bodyPost_ret (v := ptokV Po.zeroTok) (by simp [results, Tryz.results115, go_sem, ptokV, Po.zeroTok, Po.txt, x0, x1, x2, x3, x4]) rfl ⟨rfl, (PRd.later h'.out h2'.out hn2 (by simp only [Touch.setSelf_iff]; exact Touch.refl _ _)), (by simp only [Touch.setNew_iff hn2]; exact t2'.out)⟩

set_option maxRecDepth 100000 in
theorem pname_any {w : World} {b : Nat} {pa : Option Addr} {cp : Nat} {T : List Lx.Tok} {e : Nat × Nat} {st : Po.St} (h : PRd w b pa cp T e st) :
    Calls Tryz.prog 93 #[.pointer (some ⟨b, 0, none⟩)] w fun en w' => en = .returned (.string (Po.txt (Po.takeTok T 1 st).text)) ∧ PRd w' b pa cp T e (Po.takeSt T e 1 st) ∧ Touch b w w' := by
  have h' := hid h
  clear h
  go_enter Tryz.func93, Tryz.ntmps93
  go_wp2_with fail
  refine (ptake_any h'.out 1).mono ?_
  rintro en w1 ⟨rfl, h1, t1⟩
  have h1' := hid h1
  have t1' := hid t1
  clear h1 t1
  unfold ptokV
  generalize htt : Po.takeTok T 1 st = t
  have htt' := hid htt
  clear htt
  have hfd := fun w => fld_text t.kind (Po.txt t.text) t.n t.line t.col w
  go_wp2_with fail
  go_ret
  rw [htt'.out]
  exact ⟨rfl, h1'.out, t1'.out⟩

set_option maxRecDepth 100000 in
theorem pnumber_any {w : World} {b : Nat} {pa : Option Addr} {cp : Nat} {T : List Lx.Tok} {e : Nat × Nat} {st : Po.St} (h : PRd w b pa cp T e st) :
    Calls Tryz.prog 91 #[.pointer (some ⟨b, 0, none⟩)] w fun en w' => en = .returned (.int .i64 (Po.takeTok T 3 st).n) ∧ PRd w' b pa cp T e (Po.takeSt T e 3 st) ∧ Touch b w w' := by
  have h' := hid h
  clear h
  go_enter Tryz.func91, Tryz.ntmps91
  go_wp2_with fail
  refine (ptake_any h'.out 3).mono ?_
  rintro en w1 ⟨rfl, h1, t1⟩
  have h1' := hid h1
  have t1' := hid t1
  clear h1 t1
  unfold ptokV
  generalize htt : Po.takeTok T 3 st = t
  have htt' := hid htt
  clear htt
  have hfd := fun w => fld_n t.kind (Po.txt t.text) t.n t.line t.col w
  go_wp2_with fail
  go_ret
  rw [htt'.out]
  exact ⟨rfl, h1'.out, t1'.out⟩

def pwhoV (x : Po.Who) : Value := .agg #[.bool x.any, .string x.name, .int .i64 x.n, .int .i64 x.line, .int .i64 x.col]

set_option maxHeartbeats 4000000 in
theorem pwho_any {w : World} {b : Nat} {pa : Option Addr} {cp : Nat} {T : List Lx.Tok} {e : Nat × Nat} {st : Po.St} (h : PRd w b pa cp T e st) :
    Calls Tryz.prog 89 #[.pointer (some ⟨b, 0, none⟩)] w fun en w' => en = .returned (pwhoV (Po.whoV T e st)) ∧ PRd w' b pa cp T e (Po.whoS T e st) ∧ Touch b w w' := by
  have h' := hid h
  have hblt : b < w.heap.size := h.blk.lt
  have hn1 := Nat.le_refl w.heap.size
  have ha := hid (h.ext (balloc w (.cells #[.bool false, .string ⟨#[]⟩, .int .i64 0, .int .i64 0, .int .i64 0] 81)))
  have qa := hid (Touch.of_below (b := b) (balloc w (.cells #[.bool false, .string ⟨#[]⟩, .int .i64 0, .int .i64 0, .int .i64 0] 81)))
  have ba := hid (Blk.new w #[.bool false, .string ⟨#[]⟩, .int .i64 0, .int .i64 0, .int .i64 0] 81)
  have hnb : w.heap.size ≠ b := by omega
  clear h
  go_enter Tryz.func89, Tryz.ntmps89
  go_wp2_with fail
  refine (pplace_any ha.out).mono ?_
  rintro en w1 ⟨rfl, hb1⟩
  have hsz1 := hb1.size
  simp only [World.size_alloc] at hsz1
  have hpl : ∃ pl pc : Nat, Po.place T e st = (pl, pc) := ⟨_, _, rfl⟩
  obtain ⟨pl, pc, hpl⟩ := hpl
  have hpl' := hid hpl
  rw [hpl]
  clear hpl
  simp only
  have hz := balloc w1 (.cells #[.bool false, .string ⟨#[]⟩, .int .i64 0, .int .i64 pl, .int .i64 pc] 81)
  have h2 := hid ((ha.out.ext hb1).ext hz)
  have q2 := hid ((qa.out.below hb1).below hz)
  have b2 := hid ((ba.out.ext hb1).ext hz)
  have c2 := hid (Blk.new w1 #[.bool false, .string ⟨#[]⟩, .int .i64 0, .int .i64 pl, .int .i64 pc] 81)
  clear hz
  have hne : w.heap.size ≠ w1.heap.size := by omega
  have hne' : w1.heap.size ≠ w.heap.size := by omega
  have hnb1 : w1.heap.size ≠ b := by omega
  have hn2 : w.heap.size ≤ w1.heap.size := by omega
  cases hs : Po.is T Po.wAny st with
  | true =>
    have ev := hid (show Po.whoV T e st = ⟨true, ⟨#[]⟩, 0, pl, pc⟩ by unfold Po.whoV; rw [if_pos hs, hpl'.out])
    have es := hid (show Po.whoS T e st = Po.on st by unfold Po.whoS; rw [if_pos hs])
    have hc := fun w' h => ptook_yes (w := w') (b := b) (pa := pa) (cp := cp) (e := e) h (s := ⟨#[97, 110, 121]⟩) hs
    clear hs
    go_wp2_with fail
    refine (hc _ h2.out).mono ?_
    rintro en w3 ⟨rfl, h3, t3⟩
    have h3' := hid h3
    have q3 := hid (q2.out.trans t3)
    have b3 := hid (b2.out.touch t3 hnb)
    have c3 := hid (c2.out.touch t3 hnb1)
    clear h3 t3 hc
    obtain ⟨x0, x1, x2, x3, x4, xf, xz⟩ := b3.out.five
    obtain ⟨y0, y1, y2, y3, y4, yf, yz⟩ := c3.out.five
    go_wp2_with fail
    rw [ev.out, es.out]
    exact bodyPost_ret (v := pwhoV ⟨true, ⟨#[]⟩, 0, pl, pc⟩) (by simp [results, Tryz.results89, go_sem, pwhoV, x0, x1, x2, x3, x4]) rfl ⟨rfl, (by simp only [PRd.setOld_iff h'.out hn1, PRd.setOld_iff h'.out hn2]; exact h3'.out), (by simp only [Touch.setNew_iff hn1, Touch.setNew_iff hn2]; exact q3.out)⟩
  | false =>
    have hc := fun w' h => ptook_no (w := w') (b := b) (pa := pa) (cp := cp) (e := e) h (s := ⟨#[97, 110, 121]⟩) hs
    go_wp2_with fail
    refine (hc _ h2.out).mono ?_
    rintro en w3 ⟨rfl, h3, t3⟩
    have h3' := hid h3
    have q3 := hid (q2.out.trans t3)
    have b3 := hid (b2.out.touch t3 hnb)
    have c3 := hid (c2.out.touch t3 hnb1)
    clear h3 t3 hc
    have hs' := hid hs
    clear hs
    go_wp2_with fail
    cases hk : Po.kindIs T 1 st with
    | true =>
      have ev := hid (show Po.whoV T e st = ⟨false, Po.txt (Po.takeTok T 1 st).text, 0, pl, pc⟩ by unfold Po.whoV; rw [if_neg (by rw [hs'.out]; decide), if_pos hk, hpl'.out])
      have es := hid (show Po.whoS T e st = Po.takeSt T e 1 st by unfold Po.whoS; rw [if_neg (by rw [hs'.out]; decide), if_pos hk])
      refine (pkind_is h3'.out hk).mono ?_
      rintro en w4 ⟨rfl, hb4⟩
      have h4 := hid (h3'.out.ext hb4)
      have q4 := hid (q3.out.below hb4)
      have b4 := hid (b3.out.ext hb4)
      have c4 := hid (c3.out.ext hb4)
      clear hk
      go_wp2_with fail
      refine (pname_any h4.out).mono ?_
      rintro en w5 ⟨rfl, h5, t5⟩
      have h5' := hid h5
      have q5 := hid (q4.out.trans t5)
      have b5 := hid (b4.out.touch t5 hnb)
      have c5 := hid (c4.out.touch t5 hnb1)
      clear h5 t5
      obtain ⟨x0, x1, x2, x3, x4, xf, xz⟩ := b5.out.five
      obtain ⟨y0, y1, y2, y3, y4, yf, yz⟩ := c5.out.five
      go_wp2_with fail
      rw [ev.out, es.out]
      exact bodyPost_ret (v := pwhoV ⟨false, Po.txt (Po.takeTok T 1 st).text, 0, pl, pc⟩) (by simp [results, Tryz.results89, go_sem, pwhoV, x0, x1, x2, x3, x4]) rfl ⟨rfl, (by simp only [PRd.setOld_iff h'.out hn1, PRd.setOld_iff h'.out hn2]; exact h5'.out), (by simp only [Touch.setNew_iff hn1, Touch.setNew_iff hn2]; exact q5.out)⟩
    | false =>
      have ev := hid (show Po.whoV T e st = ⟨false, ⟨#[]⟩, (Po.takeTok T 3 st).n, pl, pc⟩ by unfold Po.whoV; rw [if_neg (by rw [hs'.out]; decide), if_neg (by rw [hk]; decide), hpl'.out])
      have es := hid (show Po.whoS T e st = Po.takeSt T e 3 st by unfold Po.whoS; rw [if_neg (by rw [hs'.out]; decide), if_neg (by rw [hk]; decide)])
      refine (pkind_is h3'.out hk).mono ?_
      rintro en w4 ⟨rfl, hb4⟩
      have h4 := hid (h3'.out.ext hb4)
      have q4 := hid (q3.out.below hb4)
      have b4 := hid (b3.out.ext hb4)
      have c4 := hid (c3.out.ext hb4)
      clear hk
      go_wp2_with fail
      refine (pnumber_any h4.out).mono ?_
      rintro en w5 ⟨rfl, h5, t5⟩
      have h5' := hid h5
      have q5 := hid (q4.out.trans t5)
      have b5 := hid (b4.out.touch t5 hnb)
      have c5 := hid (c4.out.touch t5 hnb1)
      clear h5 t5
      obtain ⟨x0, x1, x2, x3, x4, xf, xz⟩ := b5.out.five
      obtain ⟨y0, y1, y2, y3, y4, yf, yz⟩ := c5.out.five
      go_wp2_with fail
      rw [ev.out, es.out]
      exact bodyPost_ret (v := pwhoV ⟨false, ⟨#[]⟩, (Po.takeTok T 3 st).n, pl, pc⟩) (by simp [results, Tryz.results89, go_sem, pwhoV, x0, x1, x2, x3, x4]) rfl ⟨rfl, (by simp only [PRd.setOld_iff h'.out hn1, PRd.setOld_iff h'.out hn2]; exact h5'.out), (by simp only [Touch.setNew_iff hn1, Touch.setNew_iff hn2]; exact q5.out)⟩

end Go.Proofs.YteddkgpnklfppaaGreatDoor

namespace Go.Proofs.YteddkgpnklfppaaGreatDoor
open Go.RowKit Go.Sort

set_option maxRecDepth 100000 in
set_option maxHeartbeats 4000000 in
theorem pwhere_any {w : World} {b : Nat} {pa : Option Addr} {cp : Nat} {T : List Lx.Tok} {e : Nat × Nat} {st : Po.St} (h : PRd w b pa cp T e st) :
    Calls Tryz.prog 90 #[.pointer (some ⟨b, 0, none⟩)] w fun en w' => en = .returned (pwhoV (Po.whereV T e st)) ∧ PRd w' b pa cp T e (Po.whereS T e st) ∧ Touch b w w' := by
  have h' := hid h
  have hblt : b < w.heap.size := h.blk.lt
  have hn1 := Nat.le_refl w.heap.size
  have ha := hid (h.ext (balloc w (.cells #[.bool false, .string ⟨#[]⟩, .int .i64 0, .int .i64 0, .int .i64 0] 81)))
  have qa := hid (Touch.of_below (b := b) (balloc w (.cells #[.bool false, .string ⟨#[]⟩, .int .i64 0, .int .i64 0, .int .i64 0] 81)))
  have ba := hid (Blk.new w #[.bool false, .string ⟨#[]⟩, .int .i64 0, .int .i64 0, .int .i64 0] 81)
  have hnb : w.heap.size ≠ b := by omega
  clear h
  go_enter Tryz.func90, Tryz.ntmps90
  go_wp2_with fail
  refine (pplace_any ha.out).mono ?_
  rintro en w1 ⟨rfl, hb1⟩
  have hsz1 := hb1.size
  simp only [World.size_alloc] at hsz1
  have hpl : ∃ pl pc : Nat, Po.place T e st = (pl, pc) := ⟨_, _, rfl⟩
  obtain ⟨pl, pc, hpl⟩ := hpl
  have hpl' := hid hpl
  rw [hpl]
  clear hpl
  simp only
  have hz := balloc w1 (.cells #[.bool false, .string ⟨#[]⟩, .int .i64 0, .int .i64 pl, .int .i64 pc] 81)
  have h2 := hid ((ha.out.ext hb1).ext hz)
  have q2 := hid ((qa.out.below hb1).below hz)
  have b2 := hid ((ba.out.ext hb1).ext hz)
  have c2 := hid (Blk.new w1 #[.bool false, .string ⟨#[]⟩, .int .i64 0, .int .i64 pl, .int .i64 pc] 81)
  clear hz
  have hne : w.heap.size ≠ w1.heap.size := by omega
  have hne' : w1.heap.size ≠ w.heap.size := by omega
  have hnb1 : w1.heap.size ≠ b := by omega
  have hn2 : w.heap.size ≤ w1.heap.size := by omega
  cases hs : Po.is T Po.wAll st with
  | true =>
    have ev := hid (show Po.whereV T e st = ⟨true, ⟨#[]⟩, 0, pl, pc⟩ by unfold Po.whereV; rw [if_pos hs, hpl'.out])
    have es := hid (show Po.whereS T e st = Po.on st by unfold Po.whereS; rw [if_pos hs])
    have hc := fun w' h => ptook_yes (w := w') (b := b) (pa := pa) (cp := cp) (e := e) h (s := ⟨#[97, 108, 108]⟩) hs
    clear hs
    go_wp2_with fail
    refine (hc _ h2.out).mono ?_
    rintro en w3 ⟨rfl, h3, t3⟩
    have h3' := hid h3
    have q3 := hid (q2.out.trans t3)
    have b3 := hid (b2.out.touch t3 hnb)
    have c3 := hid (c2.out.touch t3 hnb1)
    clear h3 t3 hc
    obtain ⟨x0, x1, x2, x3, x4, xf, xz⟩ := b3.out.five
    obtain ⟨y0, y1, y2, y3, y4, yf, yz⟩ := c3.out.five
    go_wp2_with fail
    rw [ev.out, es.out]
    exact bodyPost_ret (v := pwhoV ⟨true, ⟨#[]⟩, 0, pl, pc⟩) (by simp [results, Tryz.results90, go_sem, pwhoV, x0, x1, x2, x3, x4]) rfl ⟨rfl, (by simp only [PRd.setOld_iff h'.out hn1, PRd.setOld_iff h'.out hn2]; exact h3'.out), (by simp only [Touch.setNew_iff hn1, Touch.setNew_iff hn2]; exact q3.out)⟩
  | false =>
    have hc := fun w' h => ptook_no (w := w') (b := b) (pa := pa) (cp := cp) (e := e) h (s := ⟨#[97, 108, 108]⟩) hs
    have ev := hid (show Po.whereV T e st = ⟨false, Po.txt (Po.takeTok T 1 st).text, 0, pl, pc⟩ by unfold Po.whereV; rw [if_neg (by rw [hs]; decide), hpl'.out])
    have es := hid (show Po.whereS T e st = Po.takeSt T e 1 st by unfold Po.whereS; rw [if_neg (by rw [hs]; decide)])
    clear hs
    go_wp2_with fail
    refine (hc _ h2.out).mono ?_
    rintro en w3 ⟨rfl, h3, t3⟩
    have h4 := hid h3
    have q4 := hid (q2.out.trans t3)
    have b4 := hid (b2.out.touch t3 hnb)
    have c4 := hid (c2.out.touch t3 hnb1)
    clear h3 t3 hc
    go_wp2_with fail
    refine (pname_any h4.out).mono ?_
    rintro en w5 ⟨rfl, h5, t5⟩
    have h5' := hid h5
    have q5 := hid (q4.out.trans t5)
    have b5 := hid (b4.out.touch t5 hnb)
    have c5 := hid (c4.out.touch t5 hnb1)
    clear h5 t5
    obtain ⟨x0, x1, x2, x3, x4, xf, xz⟩ := b5.out.five
    obtain ⟨y0, y1, y2, y3, y4, yf, yz⟩ := c5.out.five
    go_wp2_with fail
    rw [ev.out, es.out]
    exact bodyPost_ret (v := pwhoV ⟨false, Po.txt (Po.takeTok T 1 st).text, 0, pl, pc⟩) (by simp [results, Tryz.results90, go_sem, pwhoV, x0, x1, x2, x3, x4]) rfl ⟨rfl, (by simp only [PRd.setOld_iff h'.out hn1, PRd.setOld_iff h'.out hn2]; exact h5'.out), (by simp only [Touch.setNew_iff hn1, Touch.setNew_iff hn2]; exact q5.out)⟩

set_option maxRecDepth 100000 in
set_option maxHeartbeats 4000000 in
theorem ptiers_any {w : World} {b : Nat} {pa : Option Addr} {cp : Nat} {T : List Lx.Tok} {e : Nat × Nat} {st : Po.St} (h : PRd w b pa cp T e st) :
    Calls Tryz.prog 88 #[.pointer (some ⟨b, 0, none⟩)] w fun en w' => en = .returned (.tuple #[.int .i64 (Po.loV T st), .int .i64 (Po.hiV T e st)]) ∧ PRd w' b pa cp T e (Po.tiersS T e st) ∧ Touch b w w' := by
  have h' := hid h
  clear h
  cases hs : Po.is T Po.wAny st with
  | true =>
    have el := hid (show Po.loV T st = 0 by unfold Po.loV; rw [if_pos hs])
    have eh := hid (show Po.hiV T e st = 7 by unfold Po.hiV; rw [if_pos hs])
    have es := hid (show Po.tiersS T e st = Po.on st by unfold Po.tiersS; rw [if_pos hs])
    have hc := fun w' h => ptook_yes (w := w') (b := b) (pa := pa) (cp := cp) (e := e) h (s := ⟨#[97, 110, 121]⟩) hs
    clear hs
    go_enter Tryz.func88, Tryz.ntmps88
    go_wp2_with fail
    refine (hc _ h'.out).mono ?_
    rintro en w3 ⟨rfl, h3, t3⟩
    have h3' := hid h3
    have q3 := hid t3
    clear h3 t3 hc
    go_wp2_with fail
    rw [el.out, eh.out, es.out]
    exact bodyPost_ret (v := .tuple #[.int .i64 0, .int .i64 7]) (by simp [results, Tryz.results88, go_sem]) rfl ⟨rfl, h3'.out, q3.out⟩
  | false =>
    have hc := fun w' h => ptook_no (w := w') (b := b) (pa := pa) (cp := cp) (e := e) h (s := ⟨#[97, 110, 121]⟩) hs
    have el := hid (show Po.loV T st = (Po.takeTok T 3 st).n by unfold Po.loV; rw [if_neg (by rw [hs]; decide)])
    cases hk : Po.is T [46, 46] (Po.takeSt T e 3 st) with
    | true =>
      have eh := hid (show Po.hiV T e st = (Po.takeTok T 3 (Po.on (Po.takeSt T e 3 st))).n by unfold Po.hiV; rw [if_neg (by rw [hs]; decide), if_pos hk])
      have es := hid (show Po.tiersS T e st = Po.takeSt T e 3 (Po.on (Po.takeSt T e 3 st)) by unfold Po.tiersS; rw [if_neg (by rw [hs]; decide), if_pos hk])
      have hd := fun w' h => ptook_yes (w := w') (b := b) (pa := pa) (cp := cp) (e := e) h (s := ⟨#[46, 46]⟩) hk
      clear hs hk
      go_enter Tryz.func88, Tryz.ntmps88
      go_wp2_with fail
      refine (hc _ h'.out).mono ?_
      rintro en w3 ⟨rfl, h3, t3⟩
      have h3' := hid h3
      have q3 := hid t3
      clear h3 t3 hc
      go_wp2_with fail
      refine (pnumber_any h3'.out).mono ?_
      rintro en w4 ⟨rfl, h4, t4⟩
      have h4' := hid h4
      have q4 := hid (q3.out.trans t4)
      clear h4 t4
      go_wp2_with fail
      refine (hd _ h4'.out).mono ?_
      rintro en w5 ⟨rfl, h5, t5⟩
      have h5' := hid h5
      have q5 := hid (q4.out.trans t5)
      clear h5 t5 hd
      go_wp2_with fail
      refine (pnumber_any h5'.out).mono ?_
      rintro en w6 ⟨rfl, h6, t6⟩
      have h6' := hid h6
      have q6 := hid (q5.out.trans t6)
      clear h6 t6
      go_wp2_with fail
      rw [el.out, eh.out, es.out]
      exact bodyPost_ret (v := .tuple #[.int .i64 (Po.takeTok T 3 st).n, .int .i64 (Po.takeTok T 3 (Po.on (Po.takeSt T e 3 st))).n]) (by simp [results, Tryz.results88, go_sem]) rfl ⟨rfl, h6'.out, q6.out⟩
    | false =>
      have eh := hid (show Po.hiV T e st = (Po.takeTok T 3 st).n by unfold Po.hiV; rw [if_neg (by rw [hs]; decide), if_neg (by rw [hk]; decide)])
      have es := hid (show Po.tiersS T e st = Po.takeSt T e 3 st by unfold Po.tiersS; rw [if_neg (by rw [hs]; decide), if_neg (by rw [hk]; decide)])
      have hd := fun w' h => ptook_no (w := w') (b := b) (pa := pa) (cp := cp) (e := e) h (s := ⟨#[46, 46]⟩) hk
      clear hs hk
      go_enter Tryz.func88, Tryz.ntmps88
      go_wp2_with fail
      refine (hc _ h'.out).mono ?_
      rintro en w3 ⟨rfl, h3, t3⟩
      have h3' := hid h3
      have q3 := hid t3
      clear h3 t3 hc
      go_wp2_with fail
      refine (pnumber_any h3'.out).mono ?_
      rintro en w4 ⟨rfl, h4, t4⟩
      have h4' := hid h4
      have q4 := hid (q3.out.trans t4)
      clear h4 t4
      go_wp2_with fail
      refine (hd _ h4'.out).mono ?_
      rintro en w5 ⟨rfl, h5, t5⟩
      have h5' := hid h5
      have q5 := hid (q4.out.trans t5)
      clear h5 t5 hd
      go_wp2_with fail
      rw [el.out, eh.out, es.out]
      exact bodyPost_ret (v := .tuple #[.int .i64 (Po.takeTok T 3 st).n, .int .i64 (Po.takeTok T 3 st).n]) (by simp [results, Tryz.results88, go_sem]) rfl ⟨rfl, h5'.out, q5.out⟩

end Go.Proofs.YteddkgpnklfppaaGreatDoor
