/- The walks of the policy's reader: place, is, kind, wrong, took, want, take, name, number. -/
import Derived.Test.YtelphkhacadfaaaTokRow
import Derived.Test.YtelphkhacadfaaaPolSpec
namespace Go.Proofs.Ytelphkhacadfaaa
open Go.RowKit Go.Sort

/-- the reader of a policy, in block b, over the tokens T -/
structure PRd (w : World) (b : Nat) (pa : Option Addr) (cp : Nat) (T : List Lx.Tok) (e : Nat × Nat) (st : Po.St) : Prop where
  blk : Blk w b #[.slice pa T.length cp, .int .i64 st.at_, .int .i64 e.1, .int .i64 e.2, .int .i64 st.f.1, .int .i64 st.f.2.1, .int .i64 st.f.2.2] 92
  row : T = [] ∨ ∃ g off, pa = some ⟨g, off, none⟩ ∧ TokRow w g off cp T ∧ g ≠ b
  le : st.at_ ≤ T.length
  small : T.length ≤ 1000
structure PRdF (w : World) (b : Nat) (pa : Option Addr) (cp : Nat) (T : List Lx.Tok) (el ec i fe fl fc : Int) : Prop where
  lt : b < w.heap.size
  c0 : w.cell? ⟨b, 0, none⟩ = some (.slice pa T.length cp)
  c1 : w.cell? ⟨b, 1, none⟩ = some (.int .i64 i)
  c2 : w.cell? ⟨b, 2, none⟩ = some (.int .i64 el)
  c3 : w.cell? ⟨b, 2 + 1, none⟩ = some (.int .i64 ec)
  c4 : w.cell? ⟨b, 4, none⟩ = some (.int .i64 fe)
  c5 : w.cell? ⟨b, 4 + 1, none⟩ = some (.int .i64 fl)
  c6 : w.cell? ⟨b, 4 + 1 + 1, none⟩ = some (.int .i64 fc)
  free : ∀ o, w.frozen? ⟨b, o, none⟩ = false
theorem PRd.f {w : World} {b : Nat} {pa : Option Addr} {cp : Nat} {T : List Lx.Tok} {e : Nat × Nat} {st : Po.St} (h : PRd w b pa cp T e st) : PRdF w b pa cp T e.1 e.2 st.at_ st.f.1 st.f.2.1 st.f.2.2 :=
  ⟨h.blk.lt, h.blk.cell 0 rfl, h.blk.cell 1 rfl, h.blk.cell 2 rfl, h.blk.cell 3 rfl, h.blk.cell 4 rfl, h.blk.cell 5 rfl, h.blk.cell 6 rfl, h.blk.free⟩
theorem PRd.ext {w w' : World} {b : Nat} {pa : Option Addr} {cp : Nat} {T : List Lx.Tok} {e : Nat × Nat} {st : Po.St} (h : PRd w b pa cp T e st) (hb : Below w.heap.size w w') : PRd w' b pa cp T e st :=
  ⟨h.blk.ext hb, h.row.imp id fun ⟨g, off, hp, hr, hn⟩ => ⟨g, off, hp, tokRow_ext hr hb, hn⟩, h.le, h.small⟩
theorem PRd.touch {w w' : World} {b k : Nat} {pa : Option Addr} {cp : Nat} {T : List Lx.Tok} {e : Nat × Nat} {st : Po.St} (h : PRd w b pa cp T e st) (hb : Touch k w w') (hk : b ≠ k) (hg : ∀ g off, pa = some ⟨g, off, none⟩ → g ≠ k) : PRd w' b pa cp T e st :=
  ⟨h.blk.touch hb hk, h.row.imp id fun ⟨g, off, hp, hr, hn⟩ => ⟨g, off, hp, hr.touch hb (hg g off hp), hn⟩, h.le, h.small⟩
theorem PRd.setAt {w : World} {b : Nat} {pa : Option Addr} {cp : Nat} {T : List Lx.Tok} {e : Nat × Nat} {st : Po.St} (h : PRd w b pa cp T e st) (j : Nat) (hj : j ≤ T.length) :
    PRd (w.setCell ⟨b, 1, none⟩ (.int .i64 j)) b pa cp T e ⟨j, st.f⟩ :=
  ⟨h.blk.set 1 _, h.row.imp id fun ⟨g, off, hp, hr, hn⟩ => ⟨g, off, hp, hr.touch ((Touch.refl b w).setCell 1 _) hn, hn⟩, hj, h.small⟩
theorem PRd.setF {w : World} {b : Nat} {pa : Option Addr} {cp : Nat} {T : List Lx.Tok} {e : Nat × Nat} {st : Po.St} (h : PRd w b pa cp T e st) (x y z : Nat) :
    PRd (((w.setCell ⟨b, 4, none⟩ (.int .i64 x)).setCell ⟨b, 4 + 1, none⟩ (.int .i64 y)).setCell ⟨b, 4 + 1 + 1, none⟩ (.int .i64 z)) b pa cp T e ⟨st.at_, (x, y, z)⟩ :=
  ⟨((h.blk.set 4 _).set 5 _).set 6 _, h.row.imp id fun ⟨g, off, hp, hr, hn⟩ => ⟨g, off, hp, hr.touch ((((Touch.refl b w).setCell 4 _).setCell (4 + 1) _).setCell (4 + 1 + 1) _) hn, hn⟩, h.le, h.small⟩

theorem Touch.setSelf_iff {b : Nat} {a w : World} (o : Nat) (u : Value) : Touch b a (w.setCell ⟨b, o, none⟩ u) ↔ Touch b a w :=
  ⟨fun h => ⟨h.os, h.tape, h.output, by simpa [World.setCell] using h.size, fun i hi hn => (Below.heap_setCell _ _ _ _ (show i ≠ (⟨b, o, none⟩ : Addr).block by simp only; omega)).symm.trans (h.block i hi hn)⟩, fun h => h.setCell o u⟩
theorem PRd.later {w0 w w' : World} {b k : Nat} {pa : Option Addr} {cp : Nat} {T : List Lx.Tok} {e : Nat × Nat} {st0 st : Po.St} (h0 : PRd w0 b pa cp T e st0) (h : PRd w b pa cp T e st) (hk : w0.heap.size ≤ k) (ht : Touch k w w') : PRd w' b pa cp T e st := by
  have hb := h0.blk.lt
  refine ⟨h.blk.touch ht (by omega), ?_, h.le, h.small⟩
  rcases h0.row with h1 | ⟨g, off, hp, hr, hn⟩
  · exact .inl h1
  · rcases h.row with h1 | ⟨g', off', hp', hr', hn'⟩
    · exact .inl h1
    · rw [hp] at hp'
      cases hp'
      have := hr.lt
      exact .inr ⟨g, off, hp, hr'.touch ht (by omega), hn⟩

theorem PRd.setOld_iff {w0 w : World} {b k : Nat} {pa : Option Addr} {cp : Nat} {T : List Lx.Tok} {e : Nat × Nat} {st0 st : Po.St} (h0 : PRd w0 b pa cp T e st0) (hk : w0.heap.size ≤ k) (o : Nat) (u : Value) :
    PRd (w.setCell ⟨k, o, none⟩ u) b pa cp T e st ↔ PRd w b pa cp T e st := by
  have ht : Touch k w (w.setCell ⟨k, o, none⟩ u) := (Touch.refl k w).setCell o u
  refine ⟨fun h => PRd.later h0 h hk ⟨ht.os.symm, ht.tape.symm, ht.output.symm, by simp [World.setCell], fun i hi hn => (ht.block i (by simpa [World.setCell] using hi) hn).symm⟩, fun h => PRd.later h0 h hk ht⟩
theorem PRd.grown {w0 w w' : World} {b : Nat} {row : Option Nat} {pa : Option Addr} {cp : Nat} {T : List Lx.Tok} {e : Nat × Nat} {st0 st : Po.St} (h0 : PRd w0 b pa cp T e st0) (h : PRd w b pa cp T e st) (hg : w.grownBy w' row) (hr : ∀ k, row = some k → w0.heap.size ≤ k) : PRd w' b pa cp T e st := by
  cases row with
  | none => exact PRd.later (k := w0.heap.size) h0 h (Nat.le_refl _) ⟨hg.os, hg.tape, hg.output, hg.size, fun i hi _ => hg.block i hi (by simp)⟩
  | some k => exact PRd.later h0 h (hr k rfl) ⟨hg.os, hg.tape, hg.output, hg.size, fun i hi hn => hg.block i hi (by simpa using hn)⟩
theorem PRd.drewN_iff {w : World} {b : Nat} {pa : Option Addr} {cp : Nat} {T : List Lx.Tok} {e : Nat × Nat} {st : Po.St} (n : Nat) : PRd (w.drewN n) b pa cp T e st ↔ PRd w b pa cp T e st :=
  ⟨fun h => ⟨h.blk, h.row.imp id fun ⟨g, off, hp, hr, hn⟩ => ⟨g, off, hp, ⟨hr.cap, hr.lt, hr.cell⟩, hn⟩, h.le, h.small⟩, fun h => ⟨h.blk, h.row.imp id fun ⟨g, off, hp, hr, hn⟩ => ⟨g, off, hp, ⟨hr.cap, hr.lt, hr.cell⟩, hn⟩, h.le, h.small⟩⟩

/-- the token at the reader's place -/
theorem PRd.tok {w : World} {b : Nat} {pa : Option Addr} {cp : Nat} {T : List Lx.Tok} {e : Nat × Nat} {st : Po.St} (h : PRd w b pa cp T e st) (hi : st.at_ < T.length) :
    ∃ (g off : Nat) (t : Lx.Tok), pa = some ⟨g, off, none⟩ ∧ T[st.at_]? = some t ∧ g ≠ b ∧ (∀ w', TokRow w' g off cp T → TokAt w' g (off + st.at_ * 5) t.kind (Po.txt t.text) t.n t.line t.col) ∧ TokRow w g off cp T := by
  rcases h.row with h0 | ⟨g, off, hp, hr, hn⟩
  · rw [h0] at hi; exact absurd hi (by simp)
  · exact ⟨g, off, T[st.at_], hp, List.getElem?_eq_getElem hi, hn, fun w' hr' => hr'.at hi, hr⟩
theorem txt_eq (t : Lx.Bytes) (s : ByteArray) : ((Po.txt t).toList == s.toList) = (t == s.data.toList) := by
  rw [Bool.eq_iff_iff]
  simp only [beq_iff_eq]
  unfold Po.txt
  rw [ByteArray.toList_mk, ByteArray.toList_eq]

set_option maxHeartbeats 2000000 in
theorem pis_any {w : World} {b : Nat} {pa : Option Addr} {cp : Nat} {T : List Lx.Tok} {e : Nat × Nat} {st : Po.St} (h : PRd w b pa cp T e st) (s : ByteArray) :
    Calls Try.prog 108 #[.pointer (some ⟨b, 0, none⟩), .string s] w fun en w' => en = .returned (.bool (Po.is T s.data.toList st)) ∧ Below w.heap.size w w' := by
  have h' := hid h
  have hsm := h.small
  obtain ⟨i, fe, fl, fc⟩ := st
  obtain ⟨hz, c0, c1, c2, c3, c4, c5, c6, hf⟩ := h.f
  simp only at c0 c1 c2 c3 c4 c5 c6
  clear h
  by_cases h0 : fe = 0
  · subst h0
    by_cases hi : i < T.length
    · obtain ⟨g, off, t, rfl, ht, hn, hat, hr⟩ := h'.out.tok hi
      have he := hid (show Po.is T s.data.toList ⟨i, 0, fl, fc⟩ = ((Po.txt t.text).toList == s.toList) by unfold Po.is; rw [txt_eq]; simp only [ht]; rfl)
      obtain ⟨d0, d1, d2, d3, d4⟩ := hat _ hr
      have hg := hr.lt
      clear hr hat ht
      generalize Po.txt t.text = x at *
      cases hx : (x.toList == s.toList) with
      | true =>
        go_enter Try.func108, Try.ntmps108
        go_wp2_with fail
        go_quiet (fail)
        go_wp2_with fail
        go_ret
        rw [he.out, hx]
        exact ⟨rfl, bdrewN (Below.refl _ _) _⟩
      | false =>
        go_enter Try.func108, Try.ntmps108
        go_wp2_with fail
        go_quiet (fail)
        go_wp2_with fail
        go_ret
        rw [he.out, hx]
        exact ⟨rfl, bdrewN (Below.refl _ _) _⟩
    · have hi' : decide ((i : Int) < T.length) = false := decide_eq_false (by omega)
      have he : Po.is T s.data.toList ⟨i, 0, fl, fc⟩ = false := by unfold Po.is; simp only [List.getElem?_eq_none (show T.length ≤ i by omega)]; rfl
      rw [he]
      go_enter Try.func108, Try.ntmps108
      go_wp2_with fail
      go_quiet (fail)
      go_wp2_with fail
      go_ret
      exact ⟨rfl, bdrewN (Below.refl _ _) _⟩
  · have h0' : ((fe : Int) == 0) = false := by rw [beq_eq_false_iff_ne]; omega
    have he : Po.is T s.data.toList ⟨i, fe, fl, fc⟩ = false := by unfold Po.is; simp [h0]
    rw [he]
    clear h0
    go_enter Try.func108, Try.ntmps108
    go_wp2_with fail
    go_quiet (fail)
    go_wp2_with fail
    go_ret
    exact ⟨rfl, bdrewN (Below.refl _ _) _⟩

end Go.Proofs.Ytelphkhacadfaaa
