/-
  The walks of geom and rules: small functions, by value.
  Whole structs by value: laid into a block, stored, loaded, handed back, without a look at their cells.
  Plain laws of the rules: the program's and the reference's answers are one; the order of rules; one rule more. No program.
  Rows of boxes in memory, as they may come in; small laws on lists.
  The walks of rules: boxes, right, Right, For, has.
-/
import Derived.Test.YteddkgpnklfppaaGreatDoorPk05
import Derived.Test.YteddkgpnklfppaaGreatDoorPk01
import Derived.Great.BuildSlice
import Derived.Deep.MidRow
import Derived.Deep.WholeRow

namespace Go.Proofs.YteddkgpnklfppaaGreatDoor
open Go.RowKit Go.Sort

def ptV (x y : Int) : Value := .agg #[.int .i64 x, .int .i64 y]

theorem fits_any (x y : Int) (w : World) : Calls Tryz.prog 24 #[ptV x y] w fun e w' => e = .returned (.bool (Ru.fits x y)) ∧ Below w.heap.size w w' := by
  unfold ptV
  go_enter Tryz.func24, Tryz.ntmps24
  go_wp2
  all_goals
    go_ret
    exact ⟨ret_bool (by unfold Ru.fits Ru.inside; first | (simp_all; done) | (simp_all; omega)), balloc _ _⟩
theorem low_any (b : Po.Box) (w : World) : Calls Tryz.prog 76 #[pboxV b] w fun e w' => e = .returned (ptV b.x0 b.y0) ∧ Below w.heap.size w w' := by
  obtain ⟨x0, y0, x1, y1⟩ := b
  unfold ptV pboxV
  go_enter Tryz.func76, Tryz.ntmps76
  go_wp2
  exact bodyPost_ret (v := .agg #[.int .i64 x0, .int .i64 y0]) (by simp [results, Tryz.results76, go_sem]) rfl ⟨rfl, bthen (balloc w _) (balloc _ _)⟩
theorem high_any (b : Po.Box) (w : World) : Calls Tryz.prog 77 #[pboxV b] w fun e w' => e = .returned (ptV b.x1 b.y1) ∧ Below w.heap.size w w' := by
  obtain ⟨x0, y0, x1, y1⟩ := b
  unfold ptV pboxV
  go_enter Tryz.func77, Tryz.ntmps77
  go_wp2
  exact bodyPost_ret (v := .agg #[.int .i64 x1, .int .i64 y1]) (by simp [results, Tryz.results77, go_sem]) rfl ⟨rfl, bthen (balloc w _) (balloc _ _)⟩
theorem boxhas_any (b : Po.Box) (x y : Int) (w : World) : Calls Tryz.prog 25 #[pboxV b, ptV x y] w fun e w' => e = .returned (.bool (decide (b.x0 ≤ x) && decide (x ≤ b.x1) && decide (b.y0 ≤ y) && decide (y ≤ b.y1))) ∧ Below w.heap.size w w' := by
  obtain ⟨x0, y0, x1, y1⟩ := b
  unfold ptV pboxV
  go_enter Tryz.func25, Tryz.ntmps25
  go_wp2
  all_goals
    go_ret
    exact ⟨ret_bool (by first | (simp_all; done) | (simp_all; omega)), bthen (balloc w _) (balloc _ _)⟩
theorem both_any (b : Po.Box) (w : World) : Calls Tryz.prog 43 #[pboxV b, .func (.func 24) #[] #[]] w fun e w' => e = .returned (.bool (Ru.fits b.x0 b.y0 && Ru.fits b.x1 b.y1)) ∧ Below w.heap.size w w' := by
  have hen : ∀ (args : Array Value) (w : World), Sem.run Tryz.prog (callFunc 24 args) w = .ok (.enter 24 args) w := fun _ _ => by kernel_rfl
  have hl := hid (low_any b)
  have hh := hid (high_any b)
  have hf1 := hid (fits_any b.x0 b.y0)
  have hf2 := hid (fits_any b.x1 b.y1)
  have B0 := hid (Blk.new w #[.int .i64 b.x0, .int .i64 b.y0, .int .i64 b.x1, .int .i64 b.y1] 68)
  have Q0 := hid (balloc w (.cells #[.int .i64 b.x0, .int .i64 b.y0, .int .i64 b.x1, .int .i64 b.y1] 68))
  obtain ⟨x0, y0, x1, y1⟩ := b
  simp only at hl hh hf1 hf2 B0 Q0
  unfold pboxV at *
  go_enter Tryz.func43, Tryz.ntmps43
  go_wp2_with fail
  refine (hl.out _).mono ?_
  rintro e w1 ⟨rfl, hb1⟩
  have B1 := hid (B0.out.ext hb1)
  have Q1 := hid (bthen Q0.out hb1)
  go_wp2_with fail
  refine (hf1.out _).mono ?_
  rintro e w2 ⟨rfl, hb2⟩
  have B2 := hid (B1.out.ext hb2)
  have Q2 := hid (bthen Q1.out hb2)
  obtain ⟨c0, c1, c2, c3, cf, cz⟩ := B2.out.four
  cases h1 : Ru.fits x0 y0 with
  | false =>
    go_wp2_with fail
    go_ret
    exact ⟨ret_bool (by rw [h1]; rfl), Q2.out⟩
  | true =>
    go_wp2_with fail
    refine (hh.out _).mono ?_
    rintro e w3 ⟨rfl, hb3⟩
    have Q3 := hid (bthen Q2.out hb3)
    go_wp2_with fail
    refine (hf2.out _).mono ?_
    rintro e w4 ⟨rfl, hb4⟩
    go_wp2_with fail
    go_ret
    exact ⟨ret_bool (by rw [h1]; rfl), bthen Q3.out hb4⟩
theorem boxright_any (b : Po.Box) (w : World) : Calls Tryz.prog 23 #[pboxV b] w fun e w' => e = .returned (.bool (Ru.boxR b)) ∧ Below w.heap.size w w' := by
  have hb := hid (both_any b)
  have B0 := hid (Blk.new w #[.int .i64 b.x0, .int .i64 b.y0, .int .i64 b.x1, .int .i64 b.y1] 27)
  have Q0 := hid (balloc w (.cells #[.int .i64 b.x0, .int .i64 b.y0, .int .i64 b.x1, .int .i64 b.y1] 27))
  unfold Ru.boxR
  obtain ⟨x0, y0, x1, y1⟩ := b
  simp only at hb B0 Q0 ⊢
  unfold pboxV at *
  simp only at hb
  go_enter Tryz.func23, Tryz.ntmps23
  go_wp2_with fail
  refine (hb.out _).mono ?_
  rintro e w1 ⟨rfl, hb1⟩
  have B1 := hid (B0.out.ext hb1)
  have Q1 := hid (bthen Q0.out hb1)
  obtain ⟨c0, c1, c2, c3, cf, cz⟩ := B1.out.four
  generalize hff : (Ru.fits x0 y0 && Ru.fits x1 y1) = f at *
  have hff' := hid hff
  clear hb B0 Q0 B1 hb1 hff
  go_wp2_with fail
  all_goals
    go_ret
    refine ⟨ret_bool ?_, Q1.out⟩
    clear c0 c1 c2 c3 cf cz Q1
    rw [hff'.out]
    first | (simp_all; done) | (simp_all; omega)
theorem has_any (b : Po.Box) (x y : Int) (w : World) : Calls Tryz.prog 9 #[pboxV b, ptV x y] w fun e w' => e = .returned (.bool (Ru.boxHas b x y)) ∧ Below w.heap.size w w' := by
  have hb := hid (boxright_any b)
  have hf := hid (fits_any x y)
  have hh := hid (boxhas_any b x y)
  have B0 := hid ((Blk.new w #[.int .i64 b.x0, .int .i64 b.y0, .int .i64 b.x1, .int .i64 b.y1] 27).alloc (.cells #[.int .i64 x, .int .i64 y] 25))
  have P0 := hid (Blk.newAt (w := w.alloc (.cells #[.int .i64 b.x0, .int .i64 b.y0, .int .i64 b.x1, .int .i64 b.y1] 27)) (k := w.heap.size + 1) (by simp) #[.int .i64 x, .int .i64 y] 25)
  have Q0 := hid (bthen (balloc w (.cells #[.int .i64 b.x0, .int .i64 b.y0, .int .i64 b.x1, .int .i64 b.y1] 27)) (balloc _ (.cells #[.int .i64 x, .int .i64 y] 25)))
  unfold Ru.boxHas
  generalize hr : Ru.boxR b = r at *
  generalize hft : Ru.fits x y = f at *
  obtain ⟨x0, y0, x1, y1⟩ := b
  simp only at hb hh B0 P0 Q0 ⊢
  generalize hc : (decide (x0 ≤ x) && decide (x ≤ x1) && decide (y0 ≤ y) && decide (y ≤ y1)) = c at *
  clear hr hft hc
  unfold pboxV ptV at *
  simp only at hb hh hf
  go_enter Tryz.func9, Tryz.ntmps9
  go_wp2_with fail
  refine (hb.out _).mono ?_
  rintro e w1 ⟨rfl, hb1⟩
  have B1 := hid (B0.out.ext hb1)
  have P1 := hid (P0.out.ext hb1)
  have Q1 := hid (bthen Q0.out hb1)
  obtain ⟨p0, p1, pf, pz⟩ := P1.out.two
  cases r with
  | false =>
    go_wp2_with fail
    go_ret
    exact ⟨rfl, Q1.out⟩
  | true =>
    go_wp2_with fail
    refine (hf.out _).mono ?_
    rintro e w2 ⟨rfl, hb2⟩
    have B2 := hid (B1.out.ext hb2)
    have P2 := hid (P1.out.ext hb2)
    have Q2 := hid (bthen Q1.out hb2)
    clear p0 p1 pf pz
    obtain ⟨p0, p1, pf, pz⟩ := P2.out.two
    obtain ⟨c0, c1, c2, c3, cf, cz⟩ := B2.out.four
    cases f with
    | false =>
      go_wp2_with fail
      go_ret
      exact ⟨rfl, Q2.out⟩
    | true =>
      go_wp2_with fail
      refine (hh.out _).mono ?_
      rintro e w3 ⟨rfl, hb3⟩
      go_wp2_with fail
      go_ret
      exact ⟨rfl, bthen Q2.out hb3⟩
theorem grid_any (w : World) : Calls Tryz.prog 119 #[] w fun e w' => e = .returned (pboxV Ru.grid) ∧ Below w.heap.size w w' := by
  go_enter Tryz.func119, Tryz.ntmps119
  go_wp2
  exact bodyPost_ret (v := pboxV Ru.grid) (by simp [results, Tryz.results119, go_sem, pboxV, Ru.grid]) rfl ⟨rfl, balloc w _⟩
theorem small_any (n m : Int) (w : World) : Calls Tryz.prog 69 #[.int .i64 n, .int .i64 m] w fun e w' => e = .returned (.bool (Ru.small n m)) ∧ w = w' := by
  go_enter Tryz.func69, Tryz.ntmps69
  go_wp2
  all_goals
    go_ret
    exact ⟨ret_bool (by unfold Ru.small; first | (simp_all; done) | (simp_all; omega)), rfl⟩
theorem numbers3_any (a b c : Int) (w : World) : Calls Tryz.prog 41 #[.int .i64 a, .int .i64 b, .int .i64 c] w fun e w' => e = .returned (.bool (Ru.numbers3 a b c)) ∧ w = w' := by
  go_enter Tryz.func41, Tryz.ntmps41
  go_wp2_with (go_at_call 69; refine (small_any _ _ _).mono ?_; rintro e w' ⟨rfl, rfl⟩)
  all_goals
    go_ret
    exact ⟨ret_bool (by unfold Ru.numbers3; simp_all), rfl⟩
theorem in_any (s n : Int) (w : World) (hs : 0 ≤ s) (hs2 : s ≤ 255) (hn : 0 ≤ n) (hn2 : n ≤ 7) : Calls Tryz.prog 42 #[.int .i64 s, .int .i64 n] w fun e w' => e = .returned (.bool (Ru.inSum s n)) ∧ w = w' := by
  have hb : ∀ n : Fin 8, ∀ s : Fin 256, (bits BinOp.and IntKind.i64 ((s.val : Int) / 2 ^ ((n.val : Int)).toNat) 1 == 1) = Ru.inSum s.val n.val := by decide +kernel
  have hb2 := hid (hb ⟨n.toNat, by omega⟩ ⟨s.toNat, by omega⟩)
  clear hb
  go_enter Tryz.func42, Tryz.ntmps42
  go_wp2
  go_ret
  refine ⟨ret_bool ?_, rfl⟩
  have h := hb2.out
  simp only [show ((s.toNat : Nat) : Int) = s from by omega, show ((n.toNat : Nat) : Int) = n from by omega] at h
  exact h

end Go.Proofs.YteddkgpnklfppaaGreatDoor

namespace Go.Proofs.YteddkgpnklfppaaGreatDoor
open Go.RowKit Go.Sort

section
variable {P : Program} {ops : Array Oper} {rest : List Oper} {o : Oper} {a : Act} {w : World} {Q : Exit → Act → World → Prop}
/-- a whole struct into the block that was laid last -/
theorem wpList_store_new (hgd : o.guard = none) (ty : TypeId) (x y : Operand) (ho : o.op = .store ty x y) (hd : o.dst = none) (w0 : World) (t : TypeId) (old cells : Array Value) (hw : w = w0.alloc (.cells old t))
    (hx : a.eval x = .pointer (some ⟨w0.heap.size, 0, none⟩)) (hy : a.eval y = .agg cells) (hi : (P.info? ty).map (·.size) = some cells.size) (hold : old.size = cells.size) (h1 : cells.all (·.oneCell') = true)
    (h : wpList P ops Q rest a (w0.alloc (.cells cells t))) : wpList P ops Q (o :: rest) a w := by
  subst hw
  refine wpList_store_rowTo hgd ty x y ho hd w0.heap.size cells hx hy t old (heap_alloc_last w0 _) hi hold h1 ?_
  rw [World.setRow_alloc_new]
  exact h
/-- a whole struct into a block that is known whole -/
theorem wpList_store_blk (hgd : o.guard = none) (ty : TypeId) (x y : Operand) (ho : o.op = .store ty x y) (hd : o.dst = none) (g : Nat) (t : TypeId) (old cells : Array Value) (hb : Blk w g old t)
    (hx : a.eval x = .pointer (some ⟨g, 0, none⟩)) (hy : a.eval y = .agg cells) (hi : (P.info? ty).map (·.size) = some cells.size) (hold : old.size = cells.size) (h1 : cells.all (·.oneCell') = true)
    (h : wpList P ops Q rest a (w.setRow g cells)) : wpList P ops Q (o :: rest) a w :=
  wpList_store_rowTo hgd ty x y ho hd g cells hx hy t old hb hi hold h1 h
/-- a whole struct out of a block that is known whole -/
theorem wpList_load_blk (hgd : o.guard = none) (ty : TypeId) (x : Operand) (ho : o.op = .load ty x) (k : Tmp) (hd : o.dst = some k) (g : Nat) (t : TypeId) (cells : Array Value) (hb : Blk w g cells t)
    (hx : a.eval x = .pointer (some ⟨g, 0, none⟩)) {d : TypeDesc} (hu : P.underlying ty = some d) (hr : d.isRow = true) (hi : (P.info? ty).map (·.size) = some cells.size)
    (h : wpList P ops Q rest (a.put (some k) (.agg cells)) w) : wpList P ops Q (o :: rest) a w :=
  wpList_load_row hgd ty x ho g hx t cells (0, 0) d hb hu (by cases d <;> simp_all) hi (by rw [hd]; exact h)
/-- a whole struct out of the middle of a row -/
theorem wpList_load_at (hgd : o.guard = none) (ty : TypeId) (x : Operand) (ho : o.op = .load ty x) (k : Tmp) (hd : o.dst = some k) (g off : Nat) (cells : Array Value) (hb : w.rangeAt g off cells.toList)
    (hx : a.eval x = .pointer (some ⟨g, off, none⟩)) {d : TypeDesc} (hu : P.underlying ty = some d) (hr : d.isRow = true) (hi : (P.info? ty).map (·.size) = some cells.size)
    (h : wpList P ops Q rest (a.put (some k) (.agg cells)) w) : wpList P ops Q (o :: rest) a w :=
  wpList_load_mid hgd ty x ho g off hx cells.toList d hb hu hr (by simpa using hi) (by rw [hd]; simpa using h)
/-- the same under a guard that is decided -/
theorem wpList_want (hw : Region.wanted o (yielded ops a.tmps) = true) (h : ∀ K : Act → World → Prop, (∀ a w, wpList P ops Q rest a w → K a w) → o.wp P a w K Q) : wpList P ops Q (o :: rest) a w :=
  wpList_step fun K hK => by rw [if_pos hw]; exact h K hK
theorem wpList_load_blkG (hw : Region.wanted o (yielded ops a.tmps) = true) (ty : TypeId) (x : Operand) (ho : o.op = .load ty x) (k : Tmp) (hd : o.dst = some k) (g : Nat) (t : TypeId) (cells : Array Value) (hb : Blk w g cells t)
    (hx : a.eval x = .pointer (some ⟨g, 0, none⟩)) {d : TypeDesc} (hu : P.underlying ty = some d) (hr : d.isRow = true) (hi : (P.info? ty).map (·.size) = some cells.size)
    (h : wpList P ops Q rest (a.put (some k) (.agg cells)) w) : wpList P ops Q (o :: rest) a w :=
  wpList_want hw fun _ hK => wp_load_row ty x ho g hx t cells (0, 0) d hb hu (by cases d <;> simp_all) hi (by rw [hd]; exact hK _ _ h)
/-- a part of a block that is known whole -/
theorem wpList_load_partG (hw : Region.wanted o (yielded ops a.tmps) = true) (ty : TypeId) (x : Operand) (ho : o.op = .load ty x) (k : Tmp) (hd : o.dst = some k) (g off : Nat) (cells : Array Value) (hb : w.rangeAt g off cells.toList)
    (hx : a.eval x = .pointer (some ⟨g, off, none⟩)) {d : TypeDesc} (hu : P.underlying ty = some d) (hr : d.isRow = true) (hi : (P.info? ty).map (·.size) = some cells.size)
    (h : wpList P ops Q rest (a.put (some k) (.agg cells)) w) : wpList P ops Q (o :: rest) a w :=
  wpList_want hw fun _ hK => wp_load_mid ty x ho g off hx cells.toList d hb hu hr (by simpa using hi) (by rw [hd]; simpa using hK _ _ h)
/-- a slice of one struct: what 'append(l, x)' lays first -/
theorem wpList_buildOne (hg : o.guard = none) (t e : TypeId) (x : Operand) (ho : o.op = .buildSlice t 1 #[(0, x)]) (k : Tmp) (hd : o.dst = some k) (hu : P.underlying t = some (.slice e)) (ie : TypeInfo) (z : Value) (hie : P.info? e = some ie)
    (hz : ie.zero = some z) (size : Nat) (hsize : ie.size = size) (hpos : 0 < size) (hsm : size ≤ 16777216) (cells : Array Value) (hx : a.eval x = .agg cells) (hc : cells.size = size)
    (h : wpList P ops Q rest (a.put (some k) (.slice (some ⟨w.heap.size, 0, none⟩) 1 1)) (w.alloc (.cells cells e))) : wpList P ops Q (o :: rest) a w := by
  refine wpList_buildSlice hg t e 1 #[(0, x)] ho cells ie z hu hie hz (by rw [hsize]; omega) (by rw [hsize]; omega) ?_ (by rw [hd]; exact h)
  have hf := Great.fill_whole (s := size) hpos [.agg cells] ((Array.range (1 * size)).map (z.cells[· % z.cells.size]!)) (by intro v hv; rw [List.mem_singleton] at hv; rw [hv]; exact hc) (by simp)
  rw [hsize]
  have e1 : (#[(0, x)].map fun (y : Nat × Operand) => (y.1, a.eval y.2)).toList = (([Value.agg cells].zipIdx 0).map fun y => (y.2, y.1)) := by simp [hx]
  have e2 : ([Value.agg cells].flatMap fun v => v.cells.toList).toArray = cells := by simp [Value.cells]
  rw [e2] at hf
  rw [← hf]
  congr 1
end

theorem Blk.range {w : World} {b : Nat} {cs : Array Value} {t : TypeId} (h : Blk w b cs t) (o n : Nat) : w.rangeAt b o (cs.extract o (o + n)).toList := World.rangeAt_of_block h o n
theorem Blk.setRow {w : World} {b : Nat} {cs : Array Value} {t : TypeId} (h : Blk w b cs t) (cs' : Array Value) : Blk (w.setRow b cs') b cs' t := setRow_heap w b cs cs' t (0, 0) h
theorem Blk.setRowOther {w : World} {b k : Nat} {cs cs' : Array Value} {t : TypeId} (h : Blk w b cs t) (hk : b ≠ k) : Blk (w.setRow k cs') b cs t := (setRow_other w k b cs' hk).trans h
theorem Touch.setRow {b : Nat} {a w : World} (h : Touch b a w) (cs : Array Value) : Touch b a (w.setRow b cs) :=
  h.trans ⟨rfl, rfl, rfl, by simp, fun k _ hn => setRow_other w b k cs hn⟩
theorem Touch.setRowNew {b k : Nat} {a w : World} (h : Touch b a w) (hk : a.heap.size ≤ k) (cs : Array Value) : Touch b a (w.setRow k cs) :=
  ⟨h.os, h.tape, h.output, by simpa using h.size, fun i hi hn => (setRow_other w k i cs (by omega)).trans (h.block i hi hn)⟩
theorem below_setRow {B k : Nat} {a w : World} (h : Below B a w) (hk : B ≤ k) (cs : Array Value) : Below B a (w.setRow k cs) :=
  ⟨h.os, h.tape, h.output, by simpa using h.size, fun i hi => (setRow_other w k i cs (by omega)).trans (h.block i hi)⟩
theorem Row.setRow {w : World} {v : Value} {n size : Nat} {xs : List Value} {k : Nat} (h : Row w v n size xs) (hne : v.ownBlock ≠ some k) (cs : Array Value) : Row (w.setRow k cs) v n size xs := h.touch ((Touch.refl k w).setRow cs) hne
/-- a struct that is handed back out of a block that is known whole -/
theorem results_blk {P : Program} {fn : Func} {p : Tmp} {ty : TypeId} (h : fn.results = #[.cell p ty]) (tmps : Array Value) (w : World) (g : Nat) (t : TypeId) (cs : Array Value) (hp : tmps.getD p undef = .pointer (some ⟨g, 0, none⟩)) (hb : Blk w g cs t)
    {d : TypeDesc} (hu : P.underlying ty = some d) (hr : d.isRow = true) (hi : (P.info? ty).map (·.size) = some cs.size) : (results fn tmps).run P w = .ok (.agg cs) w :=
  results_cell_row h tmps w g t cs (0, 0) d hp hb hu (by cases d <;> simp_all) hi

/-! ### rows of structs -/
/-- where the structs of a row lie -/
structure SRow {α : Type} (w : World) (g off cap size : Nat) (f : α → Array Value) (l : List α) : Prop where
  cap : l.length ≤ cap
  lt : g < w.heap.size
  get : ∀ (i : Nat) (hi : i < l.length), w.rangeAt g (off + i * size) (f l[i]).toList
theorem flat_part {α : Type} {f : α → Array Value} {size : Nat} : ∀ (l : List α), (∀ x ∈ l, (f x).size = size) → ∀ (i : Nat) (hi : i < l.length) (j : Nat), j < size → (l.flatMap fun x => (f x).toList)[i * size + j]? = (f l[i])[j]?
  | [], _, i, hi, _, _ => by simp at hi
  | x :: l, hs, i, hi, j, hj => by
    have hx : (f x).toList.length = size := by simpa using hs x List.mem_cons_self
    rw [List.flatMap_cons]
    cases i with
    | zero => rw [List.getElem?_append_left (by omega)]; simp
    | succ i =>
      rw [List.getElem?_append_right (by rw [hx, Nat.add_mul]; omega), hx]
      have e : (i + 1) * size + j - size = i * size + j := by rw [Nat.add_mul]; omega
      rw [e, flat_part l (fun y hy => hs y (List.mem_cons_of_mem _ hy)) i (by simpa using hi) j hj]
      simp
theorem srow_of {α : Type} {w : World} {v : Value} {size : Nat} {f : α → Array Value} {l : List α} (hs : ∀ x ∈ l, (f x).size = size) (h : Row w v l.length size (l.flatMap fun x => (f x).toList)) :
    (v = .slice none 0 0 ∧ l = []) ∨ ∃ g off cap, v = .slice (some ⟨g, off, none⟩) l.length cap ∧ SRow w g off cap size f l := by
  rcases h.2 with ⟨hv, hn⟩ | ⟨g, off, cap, hv, hn, hg, hc⟩
  · exact .inl ⟨hv, List.eq_nil_of_length_eq_zero hn⟩
  · refine .inr ⟨g, off, cap, hv, hn, hg, fun i hi j u hu => ?_⟩
    have hsz : (f l[i]).size = size := hs _ (List.getElem_mem hi)
    have hj : j < size := by
      rw [← hsz]
      have := (List.getElem?_eq_some_iff.1 hu).1
      simpa using this
    rw [show off + i * size + j = off + (i * size + j) by omega]
    exact hc _ _ (by rw [flat_part l hs i hi j hj]; simpa using hu)
theorem SRow.ext {α : Type} {w w' : World} {g off cap size : Nat} {f : α → Array Value} {l : List α} (h : SRow w g off cap size f l) (hb : Below w.heap.size w w') : SRow w' g off cap size f l :=
  ⟨h.cap, Nat.lt_of_lt_of_le h.lt hb.size, fun i hi j u hu => (hb.cell (p := ⟨g, off + i * size + j, none⟩) h.lt).trans (h.get i hi j u hu)⟩
theorem SRow.below {α : Type} {w w' : World} {B : Nat} {g off cap size : Nat} {f : α → Array Value} {l : List α} (h : SRow w g off cap size f l) (hb : Below B w w') (hB : w.heap.size ≤ B) : SRow w' g off cap size f l :=
  h.ext (hb.mono hB)
theorem row_shape {w : World} {v : Value} {n size : Nat} {xs : List Value} (h : Row w v n size xs) : ∃ p c, v = .slice p n c := by
  rcases h.2 with ⟨rfl, rfl⟩ | ⟨g, off, cap, rfl, _⟩
  · exact ⟨_, _, rfl⟩
  · exact ⟨_, _, rfl⟩

end Go.Proofs.YteddkgpnklfppaaGreatDoor

namespace Go.Proofs.YteddkgpnklfppaaGreatDoor.Ru
open Po (Box Who Decl)

theorem rruleR_eq (r : Rule) : rruleR r = ruleR r := by
  unfold rruleR ruleR
  by_cases h6 : r.kind = 6
  · rw [if_pos h6, if_pos h6]
    by_cases hb : r.boxes = []
    · rw [hb]; simp
    · have : ((r.boxes.length : Int) == 0) = false := by
        rw [beq_eq_false_iff_ne]
        have := List.length_pos_iff.2 hb
        omega
      rw [this]; simp
  · rw [if_neg h6, if_neg h6]
    by_cases h4 : r.kind = 4 ∨ r.kind = 5
    · have e : (r.kind == 4 || r.kind == 5) = true := by simpa using h4
      rw [if_pos h4, e]
      unfold boxesR small
      rw [Bool.eq_iff_iff]
      simp only [Bool.and_eq_true, decide_eq_true_eq, Bool.true_and]
      constructor <;> intro h <;> simp_all
    · have e : (r.kind == 4 || r.kind == 5) = false := by
        rw [Bool.eq_false_iff]; simpa using h4
      rw [if_neg h4, e]; simp
theorem rulesR_eq (l : List Rule) : l.all rruleR = rulesR l := by
  unfold rulesR; congr 1; funext r; exact rruleR_eq r
theorem ruleR_kind {r : Rule} (h : ruleR r = true) : r.kind = 4 ∨ r.kind = 5 ∨ r.kind = 6 := by
  unfold ruleR at h
  split at h
  · omega
  · split at h
    · omega
    · cases h
theorem rforR_eq (r : Rule) (role tier label : Int) : rforR r role tier label = forR r role tier label := by
  unfold rforR forR numbers3
  rw [rruleR_eq]
  cases h : ruleR r with
  | false => simp
  | true =>
    have hk := ruleR_kind h
    have e : decide (r.kind < 6) = (r.kind != 6) := by
      rw [Bool.eq_iff_iff]
      simp only [decide_eq_true_eq, bne_iff_ne]
      omega
    rw [e]
    simp only [Bool.true_and, Bool.and_assoc]
theorem boxHas_fits {b : Box} {x y : Int} (h : boxHas b x y = true) : fits x y = true := by
  unfold boxHas at h
  simp only [Bool.and_eq_true] at h
  exact h.1.2
theorem rfor2_eq (r : Rule) (role tier label x y : Int) : rfor2 r role tier label x y = (forR r role tier label && hasB r.boxes x y) := by
  unfold rfor2 hasB
  rw [rforR_eq]
  cases forR r role tier label with
  | false => simp
  | true =>
    simp only [Bool.true_and]
    cases hf : fits x y with
    | true => simp
    | false =>
      simp only [Bool.false_and]
      symm
      rw [List.any_eq_false]
      intro b hb h
      rw [boxHas_fits h] at hf
      cases hf
theorem forR_zoom {r : Rule} {role tier label : Int} (h : forR r role tier label = true) : 0 ≤ r.zoom ∧ r.zoom ≤ 16 ∧ (r.kind = 4 ∨ r.kind = 5) := by
  unfold forR at h
  simp only [Bool.and_eq_true, bne_iff_ne] at h
  have h1 := h.1.1.1.1.1.1
  have h2 := h.1.1.1.1.1.2
  have hk := ruleR_kind h1
  have h4 : r.kind = 4 ∨ r.kind = 5 := by omega
  unfold ruleR at h1
  rw [if_neg h2, if_pos h4] at h1
  unfold small at h1
  simp only [Bool.and_eq_true, decide_eq_true_eq] at h1
  exact ⟨h1.2.1, h1.2.2, h4⟩

/-- the two folds, apart -/
theorem fold_allowed (role tier label x y : Int) (l : List Rule) : ∀ p : Int × Int, (l.foldl (zoomStep role tier label x y) p).1 = l.foldl (rstepA role tier label x y) p.1 := by
  induction l with
  | nil => intro p; rfl
  | cons r l ih =>
    intro p
    rw [List.foldl_cons, List.foldl_cons, ih]
    congr 1
    unfold zoomStep rstepA
    rw [rfor2_eq]
    cases hf : (forR r role tier label && hasB r.boxes x y) with
    | false => simp
    | true =>
      by_cases h4 : r.kind = 4
      · simp only [h4, if_true, BEq.rfl, Bool.true_and, Bool.and_true]
        by_cases hz : p.1 < r.zoom
        · rw [if_pos (by simpa using hz)]; omega
        · rw [if_neg (by simpa using hz)]; omega
      · simp [h4]
theorem fold_capped (role tier label x y : Int) (l : List Rule) : ∀ (p : Int × Int) (a : Int), l.foldl (rstepC role tier label x y) (min a p.2) = min a (l.foldl (zoomStep role tier label x y) p).2 := by
  induction l with
  | nil => intro p a; rfl
  | cons r l ih =>
    intro p a
    rw [List.foldl_cons, List.foldl_cons, ← ih]
    congr 1
    unfold zoomStep rstepC
    rw [rfor2_eq]
    cases hf : (forR r role tier label && hasB r.boxes x y) with
    | false => simp
    | true =>
      have hz := forR_zoom (by simp only [Bool.and_eq_true] at hf; exact hf.1)
      by_cases h4 : r.kind = 4
      · have h5 : (r.kind == 5) = false := by rw [beq_eq_false_iff_ne]; omega
        simp [h4]
      · have h5 : (r.kind == 5) = true := by rw [beq_iff_eq]; omega
        simp only [h4, h5, if_true, if_false, Bool.true_and, Bool.and_true]
        by_cases hz : r.zoom < min a p.2
        · rw [if_pos (by simpa using hz)]; omega
        · rw [if_neg (by simpa using hz)]; omega
theorem fold_bounds (role tier label x y : Int) (l : List Rule) : ∀ p : Int × Int, 0 ≤ p.1 → p.1 ≤ 16 → p.2 ≤ 16 → 0 ≤ p.2 →
    0 ≤ (l.foldl (zoomStep role tier label x y) p).1 ∧ (l.foldl (zoomStep role tier label x y) p).1 ≤ 16 ∧ (l.foldl (zoomStep role tier label x y) p).2 ≤ 16 ∧ 0 ≤ (l.foldl (zoomStep role tier label x y) p).2 := by
  induction l with
  | nil => intro p h1 h2 h3 h4; exact ⟨h1, h2, h3, h4⟩
  | cons r l ih =>
    intro p h1 h2 h3 h4
    rw [List.foldl_cons]
    unfold zoomStep
    split
    · rename_i hf
      have hz := forR_zoom (by simp only [Bool.and_eq_true] at hf; exact hf.1)
      split
      · exact ih _ (by show 0 ≤ max p.1 r.zoom; omega) (by show max p.1 r.zoom ≤ 16; omega) h3 h4
      · exact ih _ h1 h2 (by show min p.2 r.zoom ≤ 16; omega) (by show 0 ≤ min p.2 r.zoom; omega)
    · exact ih _ h1 h2 h3 h4
theorem rzoom_eq (l : List Rule) (role tier label x y : Int) : rzoomV l role tier label x y = zoomV l role tier label x y := by
  unfold rzoomV zoomV
  rw [rulesR_eq]
  split
  · have h1 := fold_allowed role tier label x y l (0, 16)
    have h2 := fold_bounds role tier label x y l (0, 16) (by decide) (by decide) (by decide) (by decide)
    have h3 := fold_capped role tier label x y l (0, 16) (l.foldl (rstepA role tier label x y) 0)
    simp only at h1 h3
    rw [← h1] at h3 ⊢
    rw [← h3]
    congr 1
    show _ = min _ 16
    omega
  · rfl
theorem rcloaks_eq (l : List Rule) (role : Int) : rcloaksV l role = cloaksV l role := by
  unfold rcloaksV cloaksV
  rw [rulesR_eq]
  cases rulesR l with
  | false => simp
  | true =>
    cases small role 7 with
    | false =>
      simp
    | true => simp

/-! ### in any order -/
theorem zoomStep_comm (role tier label x y : Int) (p : Int × Int) (r s : Rule) : zoomStep role tier label x y (zoomStep role tier label x y p r) s = zoomStep role tier label x y (zoomStep role tier label x y p s) r := by
  unfold zoomStep
  cases (forR r role tier label && hasB r.boxes x y) <;> cases (forR s role tier label && hasB s.boxes x y) <;> simp only [Bool.false_eq_true, if_true, if_false]
  by_cases h1 : r.kind = 4 <;> by_cases h2 : s.kind = 4 <;> simp only [h1, h2, if_true, if_false] <;> ext <;> simp only <;> omega
theorem all_perm {α : Type} {l m : List α} (h : l.Perm m) (f : α → Bool) : l.all f = m.all f := by
  rw [Bool.eq_iff_iff, List.all_eq_true, List.all_eq_true]
  exact ⟨fun hl x hx => hl x (h.mem_iff.2 hx), fun hl x hx => hl x (h.mem_iff.1 hx)⟩
theorem any_perm {α : Type} {l m : List α} (h : l.Perm m) (f : α → Bool) : l.any f = m.any f := by
  rw [Bool.eq_iff_iff, List.any_eq_true, List.any_eq_true]
  exact ⟨fun ⟨x, hx, hf⟩ => ⟨x, h.mem_iff.1 hx, hf⟩, fun ⟨x, hx, hf⟩ => ⟨x, h.mem_iff.2 hx, hf⟩⟩
theorem foldl_perm {α β : Type} {f : β → α → β} (hc : ∀ p r s, f (f p r) s = f (f p s) r) {l m : List α} (h : l.Perm m) : ∀ p, l.foldl f p = m.foldl f p := by
  induction h with
  | nil => intro p; rfl
  | cons x _ ih => intro p; exact ih _
  | swap x y l => intro p; simp only [List.foldl_cons]; rw [hc]
  | trans _ _ ih1 ih2 => intro p; rw [ih1, ih2]
theorem zoom_perm {l m : List Rule} (h : l.Perm m) (role tier label x y : Int) : zoomV l role tier label x y = zoomV m role tier label x y := by
  unfold zoomV rulesR
  rw [all_perm h, foldl_perm (zoomStep_comm role tier label x y) h]
theorem cloaks_perm {l m : List Rule} (h : l.Perm m) (role : Int) : cloaksV l role = cloaksV m role := by
  unfold cloaksV rulesR
  rw [all_perm h, any_perm h]
/-- the turned row of RulesTurned -/
theorem turned_perm (l : List Rule) (at_ : Nat) : l.Perm ((l.drop at_).reverse ++ l.take at_) := by
  have h1 : ((l.drop at_).reverse ++ l.take at_).Perm (l.drop at_ ++ l.take at_) := (List.reverse_perm _).append_right _
  have h2 : (l.drop at_ ++ l.take at_).Perm (l.take at_ ++ l.drop at_) := List.perm_append_comm
  rw [List.take_append_drop] at h2
  exact (h1.trans h2).symm

/-! ### one rule more -/
theorem zoom_more {l : List Rule} {r : Rule} (hr : ruleR r = true) (role tier label x y : Int) :
    (r.kind = 4 → zoomV l role tier label x y ≤ zoomV (l ++ [r]) role tier label x y) ∧ (r.kind = 5 → zoomV (l ++ [r]) role tier label x y ≤ zoomV l role tier label x y) ∧ (r.kind = 6 → zoomV l role tier label x y = zoomV (l ++ [r]) role tier label x y) := by
  unfold zoomV rulesR
  rw [List.all_append]
  simp only [List.all_cons, List.all_nil, hr, Bool.and_true, List.foldl_append, List.foldl_cons, List.foldl_nil]
  cases l.all ruleR with
  | false => simp
  | true =>
    simp only [if_true]
    generalize l.foldl (zoomStep role tier label x y) (0, 16) = p
    refine ⟨fun h4 => ?_, fun h5 => ?_, fun h6 => ?_⟩
    · unfold zoomStep
      split
      · show min p.1 p.2 ≤ min (max p.1 r.zoom) p.2; omega
      · exact Int.le_refl _
    · unfold zoomStep
      split
      · rw [if_neg (by omega)]; show min p.1 (min p.2 r.zoom) ≤ min p.1 p.2; omega
      · exact Int.le_refl _
    · have : forR r role tier label = false := by
        unfold forR
        have : (r.kind != 6) = false := by rw [h6]; rfl
        rw [this]; simp
      unfold zoomStep
      rw [this]; simp

end Go.Proofs.YteddkgpnklfppaaGreatDoor.Ru

namespace Go.Proofs.YteddkgpnklfppaaGreatDoor
open Go.RowKit Go.Sort

def boxArr (x : Po.Box) : Array Value := #[.int .i64 x.x0, .int .i64 x.y0, .int .i64 x.x1, .int .i64 x.y1]
theorem pboxV_eq (x : Po.Box) : pboxV x = .agg (boxArr x) := rfl
/-- boxes in memory, as they may come in: of none it does not matter where they lie -/
def BRow (w : World) (v : Value) (l : List Po.Box) : Prop := (∃ p c, v = .slice p 0 c ∧ l = []) ∨ Row w v l.length 4 (boxesCells l)
theorem Row.b {w : World} {v : Value} {l : List Po.Box} (h : Row w v l.length 4 (boxesCells l)) : BRow w v l := .inr h
theorem BRow.ext {w w' : World} {v : Value} {l : List Po.Box} (h : BRow w v l) (hb : Below w.heap.size w w') : BRow w' v l := h.imp id (fun r => r.ext hb)
theorem BRow.shape {w : World} {v : Value} {l : List Po.Box} (h : BRow w v l) : ∃ p c, v = .slice p l.length c := by
  rcases h with ⟨p, c, rfl, rfl⟩ | h
  · exact ⟨p, c, rfl⟩
  · exact row_shape h
theorem BRow.one {w : World} {v : Value} {l : List Po.Box} (h : BRow w v l) : v.oneCell' = true := by
  obtain ⟨p, c, rfl⟩ := h.shape; rfl
theorem BRow.pos {w : World} {v : Value} {l : List Po.Box} (h : BRow w v l) (hl : 0 < l.length) : Row w v l.length 4 (boxesCells l) := by
  rcases h with ⟨_, _, _, rfl⟩ | h
  · simp at hl
  · exact h
theorem brow_of {w : World} {v : Value} {l : List Po.Box} (h : BRow w v l) : (∃ p c, v = .slice p 0 c ∧ l = []) ∨ ∃ g off cap, v = .slice (some ⟨g, off, none⟩) l.length cap ∧ SRow w g off cap 4 boxArr l := by
  rcases h with h | h
  · exact .inl h
  · rcases srow_of (f := boxArr) (fun _ _ => rfl) (show Row w v l.length 4 (l.flatMap fun x => (boxArr x).toList) from h) with ⟨rfl, rfl⟩ | h
    · exact .inl ⟨none, 0, rfl, rfl⟩
    · exact .inr h
theorem boxArr_one (x : Po.Box) : (boxArr x).all (·.oneCell') = true := by unfold boxArr; rw [← Array.all_toList]; rfl
theorem all_take {α : Type} {p : α → Bool} {l : List α} {i : Nat} (hi : i < l.length) (h : (l.take i).all p = true) (hp : p l[i] = true) : (l.take (i + 1)).all p = true := by
  rw [List.take_succ_eq_append_getElem hi, List.all_append, h]; simp [hp]
theorem all_no {α : Type} {p : α → Bool} {l : List α} {i : Nat} (hi : i < l.length) (hp : p l[i] = false) : l.all p = false := by
  rw [List.all_eq_false]; exact ⟨_, List.getElem_mem hi, by simp [hp]⟩
theorem any_take {α : Type} {p : α → Bool} {l : List α} {i : Nat} (hi : i < l.length) (h : (l.take i).any p = false) (hp : p l[i] = false) : (l.take (i + 1)).any p = false := by
  rw [List.take_succ_eq_append_getElem hi, List.any_append, h]; simp [hp]
theorem any_yes {α : Type} {p : α → Bool} {l : List α} {i : Nat} (hi : i < l.length) (hp : p l[i] = true) : l.any p = true := by
  rw [List.any_eq_true]; exact ⟨_, List.getElem_mem hi, hp⟩

end Go.Proofs.YteddkgpnklfppaaGreatDoor

namespace Go.Proofs.YteddkgpnklfppaaGreatDoor
open Go.RowKit Go.Sort

set_option maxHeartbeats 1000000 in
theorem boxes_any {w : World} {v : Value} {l : List Po.Box} (h : BRow w v l) (hn : l.length ≤ 140737488355328) :
    Calls Tryz.prog 70 #[v] w fun e w' => e = .returned (.bool (Ru.boxesR l)) ∧ Below w.heap.size w w' := by
  rcases brow_of h with ⟨p0, c0, rfl, rfl⟩ | ⟨g, off, cap, rfl, hr⟩
  · clear h
    go_enter Tryz.func70, Tryz.ntmps70
    go_wp2_with fail
    go_loop [7] (fun u => u = .int .i64 0) (fun _ => 0)
    case atStart => rfl
    case round =>
      subst hrel
      go_wp2_with fail
      go_ret
      exact ⟨rfl, Below.refl _ _⟩
  · have hr' := hid hr
    clear h hr
    go_enter Tryz.func70, Tryz.ntmps70
    go_wp2_with fail
    go_loopw [7] (fun u wr => ∃ i : Nat, u = .int .i64 i ∧ i ≤ l.length ∧ Below w.heap.size w wr ∧ (l.take i).all Ru.boxR = true) (fun u _ => l.length - (intOf u).toNat)
    case atStart => exact ⟨0, rfl, Nat.zero_le _, Below.refl _ _, rfl⟩
    case round =>
      obtain ⟨i, rfl, hle, hQ, hall⟩ := hrel
      have hQ' := hid hQ
      have hall' := hid hall
      clear hQ hall
      by_cases hlt : i < l.length
      · have hs := hid ((hr'.out.ext hQ'.out).get i hlt)
        have hyes := hid (fun h => all_take hlt hall'.out h)
        have hno := hid (fun h => all_no (p := Ru.boxR) hlt h)
        have hb : Hid (∀ w, Calls Tryz.prog 23 #[.agg (boxArr l[i])] w fun e w' => e = .returned (.bool (Ru.boxR l[i])) ∧ Below w.heap.size w w') := hid (boxright_any l[i])
        generalize l[i] = x at *
        go_wp2_with (first | (refine wpList_load_at rfl 27 (.tmp 9) rfl 10 rfl g (off + i * 4) (boxArr x) (hs.out) rfl Tryz.underlying27 rfl (by kernel_rfl) ?_) | (refine wpList_store_new rfl 27 (.tmp 4) (.tmp 10) rfl rfl wr 27 _ (boxArr x) rfl rfl rfl (by kernel_rfl) rfl (boxArr_one x) ?_) | (refine wpList_load_blk rfl 27 (.tmp 4) rfl 11 rfl wr.heap.size 27 (boxArr x) (Blk.new wr _ _) rfl Tryz.underlying27 rfl (by kernel_rfl) ?_))
        refine (hb.out _).mono ?_
        rintro e w1 ⟨rfl, hb1⟩
        have Q1 := hid (bthen hQ'.out (bthen (balloc wr _) hb1))
        generalize Ru.boxR x = r at *
        cases r with
        | true =>
          have hy := hid (hyes.out rfl)
          go_wp2_with fail
          go_roundw
          case rel => exact ⟨i + 1, by go_num, by omega, Q1.out, hy.out⟩
          case measure => simp [intOf]; omega
        | false =>
          have hy := hid (hno.out rfl)
          go_wp2_with fail
          go_ret
          exact ⟨ret_bool hy.out.symm, Q1.out⟩
      · obtain rfl : i = l.length := by omega
        have hf := hid (show Ru.boxesR l = true by have h := hall'.out; rw [List.take_of_length_le (Nat.le_refl _)] at h; exact h)
        go_wp2_with fail
        go_ret
        exact ⟨ret_bool hf.out.symm, hQ'.out⟩

theorem Blk.seven {w : World} {b : Nat} {a0 a1 a2 a3 a4 a5 a6 : Value} {t : TypeId} (h : Blk w b #[a0, a1, a2, a3, a4, a5, a6] t) : w.cell? ⟨b, 0, none⟩ = some a0 ∧ w.cell? ⟨b, 1, none⟩ = some a1 ∧ w.cell? ⟨b, 2, none⟩ = some a2 ∧ w.cell? ⟨b, 3, none⟩ = some a3 ∧ w.cell? ⟨b, 4, none⟩ = some a4 ∧ w.cell? ⟨b, 5, none⟩ = some a5 ∧ w.cell? ⟨b, 6, none⟩ = some a6 ∧ (∀ o, w.frozen? ⟨b, o, none⟩ = false) ∧ b < w.heap.size :=
  ⟨h.cell 0 rfl, h.cell 1 rfl, h.cell 2 rfl, h.cell 3 rfl, h.cell 4 rfl, h.cell 5 rfl, h.cell 6 rfl, h.free, h.lt⟩
def ruleArr (r : Ru.Rule) (v : Value) : Array Value := #[.int .i64 r.kind, .int .i64 r.roles, .int .i64 r.lo, .int .i64 r.hi, .int .i64 r.labels, v, .int .i64 r.zoom]

set_option maxHeartbeats 2000000 in
theorem right_any {w : World} {v : Value} (r : Ru.Rule) (h : BRow w v r.boxes) (hn : r.boxes.length ≤ 140737488355328) :
    Calls Tryz.prog 38 #[.agg (ruleArr r v)] w fun e w' => e = .returned (.bool (Ru.ruleR r)) ∧ Below w.heap.size w w' := by
  obtain ⟨p, c, rfl⟩ := h.shape
  have hz := balloc w (.cells (ruleArr r (.slice p r.boxes.length c)) 56)
  have Q0 := hid hz
  have hbx := hid (boxes_any (h.ext hz) hn)
  have B0 := hid (Blk.new w (ruleArr r (.slice p r.boxes.length c)) 56)
  clear h hz
  unfold ruleArr at *
  by_cases h6 : r.kind = 6
  · have e := hid (show Ru.ruleR r = _ from by unfold Ru.ruleR; rw [if_pos h6])
    obtain ⟨kind, roles, lo, hi, labels, boxes, zoom⟩ := r
    simp only at h6 e hn hbx Q0 B0
    subst h6
    go_enter Tryz.func38, Tryz.ntmps38
    go_wp2_with (go_at_call 69; refine (small_any _ _ _).mono ?_; rintro e w' ⟨rfl, rfl⟩)
    all_goals
      go_ret
      rw [e.out]
      refine ⟨ret_bool ?_, balloc w _⟩
      clear hbx Q0 e hn B0
      simp_all
  · by_cases h4 : r.kind = 4 ∨ r.kind = 5
    · have e := hid (show Ru.ruleR r = _ from by unfold Ru.ruleR; rw [if_neg h6, if_pos h4])
      obtain ⟨kind, roles, lo, hi, labels, boxes, zoom⟩ := r
      simp only at h6 h4 e hn hbx Q0 B0
      have k6 : ((kind : Int) == 6) = false := beq_eq_false_iff_ne.2 h6
      clear h6
      rcases h4 with rfl | rfl
      all_goals
        go_enter Tryz.func38, Tryz.ntmps38
        go_wp2_with (first | (go_at_call 69; refine (small_any _ _ _).mono ?_; rintro e w' ⟨rfl, rfl⟩) | (go_at_call 70; refine hbx.out.mono ?_; rintro en w1 ⟨rfl, hb1⟩; have Q1 := hid (bthen Q0.out hb1); obtain ⟨x0, x1, x2, x3, x4, x5, x6, xf, xz⟩ := (B0.out.ext hb1).seven; clear hb1))
        all_goals
          go_ret
          rw [e.out]
          refine ⟨ret_bool ?_, by first | exact balloc w _ | exact Q1.out⟩
          clear hbx Q0 e hn B0
          try clear Q1 x0 x1 x2 x3 x4 x5 x6 xf xz
          first | (simp_all; done) | (simp_all; omega)
    · have e := hid (show Ru.ruleR r = false from by unfold Ru.ruleR; rw [if_neg h6, if_neg h4])
      have k6 : ((r.kind : Int) == 6) = false := beq_eq_false_iff_ne.2 h6
      have k4 : ((r.kind : Int) == 4) = false := beq_eq_false_iff_ne.2 (by omega)
      have k5 : ((r.kind : Int) == 5) = false := beq_eq_false_iff_ne.2 (by omega)
      clear h6 h4
      go_enter Tryz.func38, Tryz.ntmps38
      go_wp2_with fail
      go_ret
      exact ⟨ret_bool e.out.symm, Q0.out⟩

end Go.Proofs.YteddkgpnklfppaaGreatDoor
