/- Whole structs by value: laid into a block, stored, loaded, handed back, without a look at their cells. -/
import Derived.Test.YtelphkhacadfaaaBase
import Derived.Great.BuildSlice
import Derived.Deep.MidRow
import Derived.Deep.WholeRow
namespace Go.Proofs.Ytelphkhacadfaaa
open Go.RowKit Go.Sort

section
variable {P : Program} {ops : Array Oper} {rest : List Oper} {o : Oper} {a : Act} {w : World} {Q : Exit → Act → World → Prop}
/-- a whole struct into the block that was laid last -/
theorem wpList_store_new (hgd : o.guard = none) (ty : TypeId) (x y : Operand) (ho : o.op = .store ty x y) (hd : o.dst = none) (w0 : World) (t : TypeId) (old cells : Array Value) (hw : w = w0.alloc (.cells old t))
    (hx : a.eval x = .pointer (some ⟨w0.heap.size, 0, none⟩)) (hy : a.eval y = .agg cells) (hi : (P.info? ty).map (·.size) = some cells.size) (hold : old.size = cells.size) (h1 : cells.all (·.oneCell') = true)
    (h : wpList P ops Q rest a (w0.alloc (.cells cells t))) : wpList P ops Q (o :: rest) a w := by
  subst hw
  refine wpList_store_rowTo hgd ty x y ho hd w0.heap.size cells hx hy t old (heap_alloc_last w0 _) hi hold h1 ?_
  rw [World.setRow_alloc_new]
  exact h
/-- a whole struct into a block that is known whole -/
theorem wpList_store_blk (hgd : o.guard = none) (ty : TypeId) (x y : Operand) (ho : o.op = .store ty x y) (hd : o.dst = none) (g : Nat) (t : TypeId) (old cells : Array Value) (hb : Blk w g old t)
    (hx : a.eval x = .pointer (some ⟨g, 0, none⟩)) (hy : a.eval y = .agg cells) (hi : (P.info? ty).map (·.size) = some cells.size) (hold : old.size = cells.size) (h1 : cells.all (·.oneCell') = true)
    (h : wpList P ops Q rest a (w.setRow g cells)) : wpList P ops Q (o :: rest) a w :=
  wpList_store_rowTo hgd ty x y ho hd g cells hx hy t old hb hi hold h1 h
/-- a whole struct out of a block that is known whole -/
theorem wpList_load_blk (hgd : o.guard = none) (ty : TypeId) (x : Operand) (ho : o.op = .load ty x) (k : Tmp) (hd : o.dst = some k) (g : Nat) (t : TypeId) (cells : Array Value) (hb : Blk w g cells t)
    (hx : a.eval x = .pointer (some ⟨g, 0, none⟩)) {d : TypeDesc} (hu : P.underlying ty = some d) (hr : d.isRow = true) (hi : (P.info? ty).map (·.size) = some cells.size)
    (h : wpList P ops Q rest (a.put (some k) (.agg cells)) w) : wpList P ops Q (o :: rest) a w :=
  wpList_load_row hgd ty x ho g hx t cells (0, 0) d hb hu (by cases d <;> simp_all) hi (by rw [hd]; exact h)
/-- a whole struct out of the middle of a row -/
theorem wpList_load_at (hgd : o.guard = none) (ty : TypeId) (x : Operand) (ho : o.op = .load ty x) (k : Tmp) (hd : o.dst = some k) (g off : Nat) (cells : Array Value) (hb : w.rangeAt g off cells.toList)
    (hx : a.eval x = .pointer (some ⟨g, off, none⟩)) {d : TypeDesc} (hu : P.underlying ty = some d) (hr : d.isRow = true) (hi : (P.info? ty).map (·.size) = some cells.size)
    (h : wpList P ops Q rest (a.put (some k) (.agg cells)) w) : wpList P ops Q (o :: rest) a w :=
  wpList_load_mid hgd ty x ho g off hx cells.toList d hb hu hr (by simpa using hi) (by rw [hd]; simpa using h)
/-- the same under a guard that is decided -/
theorem wpList_want (hw : Region.wanted o (yielded ops a.tmps) = true) (h : ∀ K : Act → World → Prop, (∀ a w, wpList P ops Q rest a w → K a w) → o.wp P a w K Q) : wpList P ops Q (o :: rest) a w :=
  wpList_step fun K hK => by rw [if_pos hw]; exact h K hK
theorem wpList_load_blkG (hw : Region.wanted o (yielded ops a.tmps) = true) (ty : TypeId) (x : Operand) (ho : o.op = .load ty x) (k : Tmp) (hd : o.dst = some k) (g : Nat) (t : TypeId) (cells : Array Value) (hb : Blk w g cells t)
    (hx : a.eval x = .pointer (some ⟨g, 0, none⟩)) {d : TypeDesc} (hu : P.underlying ty = some d) (hr : d.isRow = true) (hi : (P.info? ty).map (·.size) = some cells.size)
    (h : wpList P ops Q rest (a.put (some k) (.agg cells)) w) : wpList P ops Q (o :: rest) a w :=
  wpList_want hw fun _ hK => wp_load_row ty x ho g hx t cells (0, 0) d hb hu (by cases d <;> simp_all) hi (by rw [hd]; exact hK _ _ h)
/-- a part of a block that is known whole -/
theorem wpList_load_partG (hw : Region.wanted o (yielded ops a.tmps) = true) (ty : TypeId) (x : Operand) (ho : o.op = .load ty x) (k : Tmp) (hd : o.dst = some k) (g off : Nat) (cells : Array Value) (hb : w.rangeAt g off cells.toList)
    (hx : a.eval x = .pointer (some ⟨g, off, none⟩)) {d : TypeDesc} (hu : P.underlying ty = some d) (hr : d.isRow = true) (hi : (P.info? ty).map (·.size) = some cells.size)
    (h : wpList P ops Q rest (a.put (some k) (.agg cells)) w) : wpList P ops Q (o :: rest) a w :=
  wpList_want hw fun _ hK => wp_load_mid ty x ho g off hx cells.toList d hb hu hr (by simpa using hi) (by rw [hd]; simpa using hK _ _ h)
/-- a slice of one struct: what 'append(l, x)' lays first -/
theorem wpList_buildOne (hg : o.guard = none) (t e : TypeId) (x : Operand) (ho : o.op = .buildSlice t 1 #[(0, x)]) (k : Tmp) (hd : o.dst = some k) (hu : P.underlying t = some (.slice e)) (ie : TypeInfo) (z : Value) (hie : P.info? e = some ie)
    (hz : ie.zero = some z) (size : Nat) (hsize : ie.size = size) (hpos : 0 < size) (hsm : size ≤ 16777216) (cells : Array Value) (hx : a.eval x = .agg cells) (hc : cells.size = size)
    (h : wpList P ops Q rest (a.put (some k) (.slice (some ⟨w.heap.size, 0, none⟩) 1 1)) (w.alloc (.cells cells e))) : wpList P ops Q (o :: rest) a w := by
  refine wpList_buildSlice hg t e 1 #[(0, x)] ho cells ie z hu hie hz (by rw [hsize]; omega) (by rw [hsize]; omega) ?_ (by rw [hd]; exact h)
  have hf := Great.fill_whole (s := size) hpos [.agg cells] ((Array.range (1 * size)).map (z.cells[· % z.cells.size]!)) (by intro v hv; rw [List.mem_singleton] at hv; rw [hv]; exact hc) (by simp)
  rw [hsize]
  have e1 : (#[(0, x)].map fun (y : Nat × Operand) => (y.1, a.eval y.2)).toList = (([Value.agg cells].zipIdx 0).map fun y => (y.2, y.1)) := by simp [hx]
  have e2 : ([Value.agg cells].flatMap fun v => v.cells.toList).toArray = cells := by simp [Value.cells]
  rw [e2] at hf
  rw [← hf]
  congr 1
end

theorem Blk.range {w : World} {b : Nat} {cs : Array Value} {t : TypeId} (h : Blk w b cs t) (o n : Nat) : w.rangeAt b o (cs.extract o (o + n)).toList := World.rangeAt_of_block h o n
theorem Blk.setRow {w : World} {b : Nat} {cs : Array Value} {t : TypeId} (h : Blk w b cs t) (cs' : Array Value) : Blk (w.setRow b cs') b cs' t := setRow_heap w b cs cs' t (0, 0) h
theorem Blk.setRowOther {w : World} {b k : Nat} {cs cs' : Array Value} {t : TypeId} (h : Blk w b cs t) (hk : b ≠ k) : Blk (w.setRow k cs') b cs t := (setRow_other w k b cs' hk).trans h
theorem Touch.setRow {b : Nat} {a w : World} (h : Touch b a w) (cs : Array Value) : Touch b a (w.setRow b cs) :=
  h.trans ⟨rfl, rfl, rfl, by simp, fun k _ hn => setRow_other w b k cs hn⟩
theorem Touch.setRowNew {b k : Nat} {a w : World} (h : Touch b a w) (hk : a.heap.size ≤ k) (cs : Array Value) : Touch b a (w.setRow k cs) :=
  ⟨h.os, h.tape, h.output, by simpa using h.size, fun i hi hn => (setRow_other w k i cs (by omega)).trans (h.block i hi hn)⟩
theorem below_setRow {B k : Nat} {a w : World} (h : Below B a w) (hk : B ≤ k) (cs : Array Value) : Below B a (w.setRow k cs) :=
  ⟨h.os, h.tape, h.output, by simpa using h.size, fun i hi => (setRow_other w k i cs (by omega)).trans (h.block i hi)⟩
theorem Row.setRow {w : World} {v : Value} {n size : Nat} {xs : List Value} {k : Nat} (h : Row w v n size xs) (hne : v.ownBlock ≠ some k) (cs : Array Value) : Row (w.setRow k cs) v n size xs := h.touch ((Touch.refl k w).setRow cs) hne
/-- a struct that is handed back out of a block that is known whole -/
theorem results_blk {P : Program} {fn : Func} {p : Tmp} {ty : TypeId} (h : fn.results = #[.cell p ty]) (tmps : Array Value) (w : World) (g : Nat) (t : TypeId) (cs : Array Value) (hp : tmps.getD p undef = .pointer (some ⟨g, 0, none⟩)) (hb : Blk w g cs t)
    {d : TypeDesc} (hu : P.underlying ty = some d) (hr : d.isRow = true) (hi : (P.info? ty).map (·.size) = some cs.size) : (results fn tmps).run P w = .ok (.agg cs) w :=
  results_cell_row h tmps w g t cs (0, 0) d hp hb hu (by cases d <;> simp_all) hi

/-! ### rows of structs -/
/-- where the structs of a row lie -/
structure SRow {α : Type} (w : World) (g off cap size : Nat) (f : α → Array Value) (l : List α) : Prop where
  cap : l.length ≤ cap
  lt : g < w.heap.size
  get : ∀ (i : Nat) (hi : i < l.length), w.rangeAt g (off + i * size) (f l[i]).toList
theorem flat_part {α : Type} {f : α → Array Value} {size : Nat} : ∀ (l : List α), (∀ x ∈ l, (f x).size = size) → ∀ (i : Nat) (hi : i < l.length) (j : Nat), j < size → (l.flatMap fun x => (f x).toList)[i * size + j]? = (f l[i])[j]?
  | [], _, i, hi, _, _ => by simp at hi
  | x :: l, hs, i, hi, j, hj => by
    have hx : (f x).toList.length = size := by simpa using hs x List.mem_cons_self
    rw [List.flatMap_cons]
    cases i with
    | zero => rw [List.getElem?_append_left (by omega)]; simp
    | succ i =>
      rw [List.getElem?_append_right (by rw [hx, Nat.add_mul]; omega), hx]
      have e : (i + 1) * size + j - size = i * size + j := by rw [Nat.add_mul]; omega
      rw [e, flat_part l (fun y hy => hs y (List.mem_cons_of_mem _ hy)) i (by simpa using hi) j hj]
      simp
theorem srow_of {α : Type} {w : World} {v : Value} {size : Nat} {f : α → Array Value} {l : List α} (hs : ∀ x ∈ l, (f x).size = size) (h : Row w v l.length size (l.flatMap fun x => (f x).toList)) :
    (v = .slice none 0 0 ∧ l = []) ∨ ∃ g off cap, v = .slice (some ⟨g, off, none⟩) l.length cap ∧ SRow w g off cap size f l := by
  rcases h.2 with ⟨hv, hn⟩ | ⟨g, off, cap, hv, hn, hg, hc⟩
  · exact .inl ⟨hv, List.eq_nil_of_length_eq_zero hn⟩
  · refine .inr ⟨g, off, cap, hv, hn, hg, fun i hi j u hu => ?_⟩
    have hsz : (f l[i]).size = size := hs _ (List.getElem_mem hi)
    have hj : j < size := by
      rw [← hsz]
      have := (List.getElem?_eq_some_iff.1 hu).1
      simpa using this
    rw [show off + i * size + j = off + (i * size + j) by omega]
    exact hc _ _ (by rw [flat_part l hs i hi j hj]; simpa using hu)
theorem SRow.ext {α : Type} {w w' : World} {g off cap size : Nat} {f : α → Array Value} {l : List α} (h : SRow w g off cap size f l) (hb : Below w.heap.size w w') : SRow w' g off cap size f l :=
  ⟨h.cap, Nat.lt_of_lt_of_le h.lt hb.size, fun i hi j u hu => (hb.cell (p := ⟨g, off + i * size + j, none⟩) h.lt).trans (h.get i hi j u hu)⟩
theorem SRow.below {α : Type} {w w' : World} {B : Nat} {g off cap size : Nat} {f : α → Array Value} {l : List α} (h : SRow w g off cap size f l) (hb : Below B w w') (hB : w.heap.size ≤ B) : SRow w' g off cap size f l :=
  h.ext (hb.mono hB)
theorem row_shape {w : World} {v : Value} {n size : Nat} {xs : List Value} (h : Row w v n size xs) : ∃ p c, v = .slice p n c := by
  rcases h.2 with ⟨rfl, rfl⟩ | ⟨g, off, cap, rfl, _⟩
  · exact ⟨_, _, rfl⟩
  · exact ⟨_, _, rfl⟩

end Go.Proofs.Ytelphkhacadfaaa
