/-
  The tree of points in memory: a leaf's records are let go, or grow.
  Whole structs by value: laid into a block, stored, loaded, handed back, without a look at their cells.
  The walk of the tree of points: a leaf is parted.
-/
import Derived.Test.YteddkgpnklfppaaPk05
import Derived.Test.YteddkgpnklfppaaPk02
import Derived.Great.BuildSlice
import Derived.Deep.MidRow
import Derived.Deep.WholeRow
import Derived.RegionTactic

namespace Go.Proofs.Yteddkgpnklfppaa
open Go.RowKit Go.Sort Go.Maps

theorem set_back {ps : List NP} {a : Nat} {p u : NP} (ha : ps[a]? = some p) {i : Nat} {q : NP} (h : (ps.set a u)[i]? = some q) : (i = a ∧ q = u) ∨ (i ≠ a ∧ ps[i]? = some q) := by
  have hlt : a < ps.length := (List.getElem?_eq_some_iff.1 ha).1
  rw [List.getElem?_set] at h
  by_cases e : a = i
  · subst e
    rw [if_pos rfl] at h
    simp only [hlt, if_true, Option.some.injEq] at h
    exact .inl ⟨rfl, h.symm⟩
  · rw [if_neg e] at h
    exact .inr ⟨fun x => e x.symm, h⟩
/-- a leaf's records are let go -/
theorem TrM.dropL {w : World} {t m b : Nat} {ps : List NP} {O : Nat → Prop} {g cap : Nat} (h : TrM w t m b ps (.slice (some ⟨g, 0, none⟩) ps.length cap) O) {a : Nat} {p : NP} (ha : ps[a]? = some p) :
    TrM (w.setCell ⟨g, a * 10 + 9, none⟩ (.slice none 0 0)) t m b (ps.set a ({ p.1 with l := [] }, .slice none 0 0)) (.slice (some ⟨g, 0, none⟩) ps.length cap) (fun q => O q ∧ p.2.ownBlock ≠ some q) := by
  have hlt : a < ps.length := (List.getElem?_eq_some_iff.1 ha).1
  have ho := h.inO g rfl
  have ht := h.bd g ho
  have tch : Touch g w (w.setCell ⟨g, a * 10 + 9, none⟩ (.slice none 0 0)) := (Touch.refl g w).setCell _ _
  refine ⟨h.blk.touch tch (by omega), ?_, fun i q hq => ?_, fun i q hq => ?_, fun i k q r hq hr hik => ?_, fun q hq => ⟨h.inO q hq, fun e => h.sep a p ha q e hq⟩, fun i q hq => ?_, fun q hq => ⟨(h.bd q hq.1).1, by rw [World.size_setCell]; exact (h.bd q hq.1).2⟩⟩
  · rw [List.length_set, nodesC_set ps a 9 p ({ p.1 with l := [] }, .slice none 0 0) (.slice none 0 0) ha (by decide) rfl]
    exact owns_set h.row (by rw [nodesC_len]; omega) _
  · rcases set_back ha hq with ⟨rfl, rfl⟩ | ⟨hi, hq⟩
    · exact World.ownsRow_nil _ _ _ _
    · exact owns_other (h.recs i q hq) tch (fun e => h.sep i q hq g e rfl)
  · rcases set_back ha hq with ⟨rfl, rfl⟩ | ⟨hi, hq⟩
    · intro k hk; cases hk
    · exact h.sep i q hq
  · rcases set_back ha hq with ⟨rfl, rfl⟩ | ⟨hi, hq⟩
    · intro k hk; cases hk
    · rcases set_back ha hr with ⟨rfl, rfl⟩ | ⟨hi2, hr⟩
      · intro _ _ e; cases e
      · exact h.sep2 i k q r hq hr hik
  · rcases set_back ha hq with ⟨rfl, rfl⟩ | ⟨hi, hq⟩
    · intro k hk; cases hk
    · exact fun k hk => ⟨h.inO2 i q hq k hk, fun e => h.sep2 i a q p hq ha hi k hk e⟩
/-- a leaf's records have grown -/
theorem TrM.newL {w wx wy : World} {t m b g cap gg c2 : Nat} {ps : List NP} {O : Nat → Prop} {a : Nat} {p : NP} {r : Tc.Rec} (h : TrM w t m b ps (.slice (some ⟨g, 0, none⟩) ps.length cap) O) (ha : ps[a]? = some p) (hb : Below w.heap.size w wx)
    (hown : wy.ownsRow (t + 1) 40 4 (.slice (some ⟨gg, 0, none⟩) (p.1.l.length + 1) c2) (p.1.l.length + 1) (recsC p.1.l ++ (recArr r).toList)) (hg : wx.grownBy wy p.2.ownBlock) (hat : p.2.ownBlock = some gg ∨ gg = wx.heap.size) (hltg : gg < wy.heap.size) :
    TrM (wy.setCell ⟨g, a * 10 + 9, none⟩ (.slice (some ⟨gg, 0, none⟩) (p.1.l.length + 1) c2)) t m b (ps.set a ({ p.1 with l := p.1.l ++ [r] }, .slice (some ⟨gg, 0, none⟩) (p.1.l.length + 1) c2)) (.slice (some ⟨g, 0, none⟩) ps.length cap) (fun k => O k ∨ k = gg) ∧ (O gg ∨ w.heap.size ≤ gg) ∧ Keep (TrS t O) w (wy.setCell ⟨g, a * 10 + 9, none⟩ (.slice (some ⟨gg, 0, none⟩) (p.1.l.length + 1) c2)) := by
  have hlt : a < ps.length := (List.getElem?_eq_some_iff.1 ha).1
  have hx := h.ext hb
  have ho := h.inO g rfl
  have ht := h.bd g ho
  have hgO : O gg ∨ w.heap.size ≤ gg := by
    rcases hat with e | e
    · exact .inl (h.inO2 a p ha gg e)
    · exact .inr (by rw [e]; exact hb.size)
  have htg : t < gg := by
    rcases hgO with e | e
    · exact (h.bd gg e).1
    · have := h.blk.lt; omega
  have hne : gg ≠ g := by
    rcases hat with e | e
    · exact fun e2 => h.sep a p ha gg e (by rw [e2]; rfl)
    · have := hb.size; omega
  have tch : Touch g wy (wy.setCell ⟨g, a * 10 + 9, none⟩ (.slice (some ⟨gg, 0, none⟩) (p.1.l.length + 1) c2)) := (Touch.refl g wy).setCell _ _
  have far : ∀ (i : Nat) (u : NP), i ≠ a → ps[i]? = some u → ∀ q, u.2.ownBlock = some q → q ≠ gg := fun i u hi hu q hq e => by
    subst e
    rcases hat with e2 | e2
    · exact h.sep2 i a u p hu ha hi q hq e2
    · have := (h.bd q (h.inO2 i u hu q hq)).2
      have := hb.size
      omega
  refine ⟨⟨?_, ?_, fun i u hu => ?_, fun i u hu q hq => ?_, fun i j u v hu hv hij q hq => ?_, fun q hq => .inl (h.inO q hq), fun i u hu q hq => ?_, fun q hq => ?_⟩, hgO, ?_⟩
  · exact (hx.blk.grown hg (fun e => by have := (h.bd t (h.inO2 a p ha t e)).1; omega)).touch tch (by omega)
  · rw [List.length_set, nodesC_set ps a 9 p ({ p.1 with l := p.1.l ++ [r] }, .slice (some ⟨gg, 0, none⟩) (p.1.l.length + 1) c2) (.slice (some ⟨gg, 0, none⟩) (p.1.l.length + 1) c2) ha (by decide) rfl]
    exact owns_set (owns_grown hx.row hg (fun q hq e => h.sep a p ha q e hq)) (by rw [nodesC_len]; omega) _
  · rcases set_back ha hu with ⟨rfl, rfl⟩ | ⟨hi, hu⟩
    · have e : recsC (p.1.l ++ [r]) = recsC p.1.l ++ (recArr r).toList := recsC_snoc _ _
      show World.ownsRow _ _ _ _ _ (p.1.l ++ [r]).length (recsC (p.1.l ++ [r]))
      rw [e, List.length_append, List.length_singleton]
      exact owns_other hown tch (fun e => hne (Option.some.inj e))
    · exact owns_other (owns_grown (hx.recs i u hu) hg (fun q hq e => h.sep2 i a u p hu ha hi q hq e)) tch (fun e => h.sep i u hu g e rfl)
  · rcases set_back ha hu with ⟨rfl, rfl⟩ | ⟨hi, hu⟩
    · have : q = gg := (Option.some.inj hq).symm
      intro e
      have : g = q := Option.some.inj e
      omega
    · exact h.sep i u hu q hq
  · rcases set_back ha hu with ⟨rfl, rfl⟩ | ⟨hi, hu2⟩
    · rcases set_back ha hv with ⟨e, _⟩ | ⟨hi2, hv2⟩
      · exact absurd e.symm hij
      · have : q = gg := (Option.some.inj hq).symm
        exact fun e => far j v hi2 hv2 q e this
    · rcases set_back ha hv with ⟨rfl, rfl⟩ | ⟨hi2, hv2⟩
      · exact fun e => far i u hi hu2 q hq (Option.some.inj e).symm
      · exact h.sep2 i j u v hu2 hv2 hij q hq
  · rcases set_back ha hu with ⟨rfl, rfl⟩ | ⟨hi, hu⟩
    · exact .inr (Option.some.inj hq).symm
    · exact .inl (h.inO2 i u hu q hq)
  · rw [World.size_setCell]
    rcases hq with hq | rfl
    · have h2 := h.bd q hq
      have := hb.size
      have := hg.size
      exact ⟨h2.1, by omega⟩
    · exact ⟨htg, hltg⟩
  · exact (((Keep.of_below (S := TrS t O) hb).trans ((Keep.of_grown (S := TrS t O) hg (fun k hk => .inr (h.inO2 a p ha k hk))))).trans (Keep.of_touch tch (.inr ho)))

def PutPost (w : World) (t m b : Nat) (N' : List Tc.Node) (O : Nat → Prop) (w' : World) : Prop :=
  ∃ O', TrN w' t m b N' O' ∧ (∀ q, O' q → O q ∨ w.heap.size ≤ q) ∧ Keep (TrS t O) w w'
/-- a putting with so much fuel does what the plain one does -/
def PutOK (b f : Nat) : Prop := ∀ (w : World) (t m : Nat) (N : List Tc.Node) (O : Nat → Prop) (a : Nat) (n : Tc.Node) (r : Tc.Rec) (A : List Tc.Rec), TrN w t m b N O → Tc.Pre f N a n r A → A.length ≤ 1000 → (∀ x ∈ A, x.fit) →
  Calls Try.prog 24 #[.pointer (some ⟨t, 0, none⟩), .int .i64 a, .agg (recArr r)] w fun e w' => e = .returned (.tuple #[]) ∧ PutPost w t m b (Tc.putV b f N a r) O w'

end Go.Proofs.Yteddkgpnklfppaa

namespace Go.Proofs.Yteddkgpnklfppaa
open Go.RowKit Go.Sort

section
variable {P : Program} {ops : Array Oper} {rest : List Oper} {o : Oper} {a : Act} {w : World} {Q : Exit → Act → World → Prop}
/-- a whole struct into the block that was laid last -/
theorem wpList_store_new (hgd : o.guard = none) (ty : TypeId) (x y : Operand) (ho : o.op = .store ty x y) (hd : o.dst = none) (w0 : World) (t : TypeId) (old cells : Array Value) (hw : w = w0.alloc (.cells old t))
    (hx : a.eval x = .pointer (some ⟨w0.heap.size, 0, none⟩)) (hy : a.eval y = .agg cells) (hi : (P.info? ty).map (·.size) = some cells.size) (hold : old.size = cells.size) (h1 : cells.all (·.oneCell') = true)
    (h : wpList P ops Q rest a (w0.alloc (.cells cells t))) : wpList P ops Q (o :: rest) a w := by
  subst hw
  refine wpList_store_rowTo hgd ty x y ho hd w0.heap.size cells hx hy t old (heap_alloc_last w0 _) hi hold h1 ?_
  rw [World.setRow_alloc_new]
  exact h
/-- a whole struct into a block that is known whole -/
theorem wpList_store_blk (hgd : o.guard = none) (ty : TypeId) (x y : Operand) (ho : o.op = .store ty x y) (hd : o.dst = none) (g : Nat) (t : TypeId) (old cells : Array Value) (hb : Blk w g old t)
    (hx : a.eval x = .pointer (some ⟨g, 0, none⟩)) (hy : a.eval y = .agg cells) (hi : (P.info? ty).map (·.size) = some cells.size) (hold : old.size = cells.size) (h1 : cells.all (·.oneCell') = true)
    (h : wpList P ops Q rest a (w.setRow g cells)) : wpList P ops Q (o :: rest) a w :=
  wpList_store_rowTo hgd ty x y ho hd g cells hx hy t old hb hi hold h1 h
/-- a whole struct out of a block that is known whole -/
theorem wpList_load_blk (hgd : o.guard = none) (ty : TypeId) (x : Operand) (ho : o.op = .load ty x) (k : Tmp) (hd : o.dst = some k) (g : Nat) (t : TypeId) (cells : Array Value) (hb : Blk w g cells t)
    (hx : a.eval x = .pointer (some ⟨g, 0, none⟩)) {d : TypeDesc} (hu : P.underlying ty = some d) (hr : d.isRow = true) (hi : (P.info? ty).map (·.size) = some cells.size)
    (h : wpList P ops Q rest (a.put (some k) (.agg cells)) w) : wpList P ops Q (o :: rest) a w :=
  wpList_load_row hgd ty x ho g hx t cells (0, 0) d hb hu (by cases d <;> simp_all) hi (by rw [hd]; exact h)
/-- a whole struct out of the middle of a row -/
theorem wpList_load_at (hgd : o.guard = none) (ty : TypeId) (x : Operand) (ho : o.op = .load ty x) (k : Tmp) (hd : o.dst = some k) (g off : Nat) (cells : Array Value) (hb : w.rangeAt g off cells.toList)
    (hx : a.eval x = .pointer (some ⟨g, off, none⟩)) {d : TypeDesc} (hu : P.underlying ty = some d) (hr : d.isRow = true) (hi : (P.info? ty).map (·.size) = some cells.size)
    (h : wpList P ops Q rest (a.put (some k) (.agg cells)) w) : wpList P ops Q (o :: rest) a w :=
  wpList_load_mid hgd ty x ho g off hx cells.toList d hb hu hr (by simpa using hi) (by rw [hd]; simpa using h)
/-- the same under a guard that is decided -/
theorem wpList_want (hw : Region.wanted o (yielded ops a.tmps) = true) (h : ∀ K : Act → World → Prop, (∀ a w, wpList P ops Q rest a w → K a w) → o.wp P a w K Q) : wpList P ops Q (o :: rest) a w :=
  wpList_step fun K hK => by rw [if_pos hw]; exact h K hK
theorem wpList_load_blkG (hw : Region.wanted o (yielded ops a.tmps) = true) (ty : TypeId) (x : Operand) (ho : o.op = .load ty x) (k : Tmp) (hd : o.dst = some k) (g : Nat) (t : TypeId) (cells : Array Value) (hb : Blk w g cells t)
    (hx : a.eval x = .pointer (some ⟨g, 0, none⟩)) {d : TypeDesc} (hu : P.underlying ty = some d) (hr : d.isRow = true) (hi : (P.info? ty).map (·.size) = some cells.size)
    (h : wpList P ops Q rest (a.put (some k) (.agg cells)) w) : wpList P ops Q (o :: rest) a w :=
  wpList_want hw fun _ hK => wp_load_row ty x ho g hx t cells (0, 0) d hb hu (by cases d <;> simp_all) hi (by rw [hd]; exact hK _ _ h)
/-- a part of a block that is known whole -/
theorem wpList_load_partG (hw : Region.wanted o (yielded ops a.tmps) = true) (ty : TypeId) (x : Operand) (ho : o.op = .load ty x) (k : Tmp) (hd : o.dst = some k) (g off : Nat) (cells : Array Value) (hb : w.rangeAt g off cells.toList)
    (hx : a.eval x = .pointer (some ⟨g, off, none⟩)) {d : TypeDesc} (hu : P.underlying ty = some d) (hr : d.isRow = true) (hi : (P.info? ty).map (·.size) = some cells.size)
    (h : wpList P ops Q rest (a.put (some k) (.agg cells)) w) : wpList P ops Q (o :: rest) a w :=
  wpList_want hw fun _ hK => wp_load_mid ty x ho g off hx cells.toList d hb hu hr (by simpa using hi) (by rw [hd]; simpa using hK _ _ h)
/-- a slice of one struct: what 'append(l, x)' lays first -/
theorem wpList_buildOne (hg : o.guard = none) (t e : TypeId) (x : Operand) (ho : o.op = .buildSlice t 1 #[(0, x)]) (k : Tmp) (hd : o.dst = some k) (hu : P.underlying t = some (.slice e)) (ie : TypeInfo) (z : Value) (hie : P.info? e = some ie)
    (hz : ie.zero = some z) (size : Nat) (hsize : ie.size = size) (hpos : 0 < size) (hsm : size ≤ 16777216) (cells : Array Value) (hx : a.eval x = .agg cells) (hc : cells.size = size)
    (h : wpList P ops Q rest (a.put (some k) (.slice (some ⟨w.heap.size, 0, none⟩) 1 1)) (w.alloc (.cells cells e))) : wpList P ops Q (o :: rest) a w := by
  refine wpList_buildSlice hg t e 1 #[(0, x)] ho cells ie z hu hie hz (by rw [hsize]; omega) (by rw [hsize]; omega) ?_ (by rw [hd]; exact h)
  have hf := Great.fill_whole (s := size) hpos [.agg cells] ((Array.range (1 * size)).map (z.cells[· % z.cells.size]!)) (by intro v hv; rw [List.mem_singleton] at hv; rw [hv]; exact hc) (by simp)
  rw [hsize]
  have e1 : (#[(0, x)].map fun (y : Nat × Operand) => (y.1, a.eval y.2)).toList = (([Value.agg cells].zipIdx 0).map fun y => (y.2, y.1)) := by simp [hx]
  have e2 : ([Value.agg cells].flatMap fun v => v.cells.toList).toArray = cells := by simp [Value.cells]
  rw [e2] at hf
  rw [← hf]
  congr 1
end

theorem Blk.range {w : World} {b : Nat} {cs : Array Value} {t : TypeId} (h : Blk w b cs t) (o n : Nat) : w.rangeAt b o (cs.extract o (o + n)).toList := World.rangeAt_of_block h o n
theorem Blk.setRow {w : World} {b : Nat} {cs : Array Value} {t : TypeId} (h : Blk w b cs t) (cs' : Array Value) : Blk (w.setRow b cs') b cs' t := setRow_heap w b cs cs' t (0, 0) h
theorem Blk.setRowOther {w : World} {b k : Nat} {cs cs' : Array Value} {t : TypeId} (h : Blk w b cs t) (hk : b ≠ k) : Blk (w.setRow k cs') b cs t := (setRow_other w k b cs' hk).trans h
theorem Touch.setRow {b : Nat} {a w : World} (h : Touch b a w) (cs : Array Value) : Touch b a (w.setRow b cs) :=
  h.trans ⟨rfl, rfl, rfl, by simp, fun k _ hn => setRow_other w b k cs hn⟩
theorem Touch.setRowNew {b k : Nat} {a w : World} (h : Touch b a w) (hk : a.heap.size ≤ k) (cs : Array Value) : Touch b a (w.setRow k cs) :=
  ⟨h.os, h.tape, h.output, by simpa using h.size, fun i hi hn => (setRow_other w k i cs (by omega)).trans (h.block i hi hn)⟩
theorem below_setRow {B k : Nat} {a w : World} (h : Below B a w) (hk : B ≤ k) (cs : Array Value) : Below B a (w.setRow k cs) :=
  ⟨h.os, h.tape, h.output, by simpa using h.size, fun i hi => (setRow_other w k i cs (by omega)).trans (h.block i hi)⟩
theorem Row.setRow {w : World} {v : Value} {n size : Nat} {xs : List Value} {k : Nat} (h : Row w v n size xs) (hne : v.ownBlock ≠ some k) (cs : Array Value) : Row (w.setRow k cs) v n size xs := h.touch ((Touch.refl k w).setRow cs) hne
/-- a struct that is handed back out of a block that is known whole -/
theorem results_blk {P : Program} {fn : Func} {p : Tmp} {ty : TypeId} (h : fn.results = #[.cell p ty]) (tmps : Array Value) (w : World) (g : Nat) (t : TypeId) (cs : Array Value) (hp : tmps.getD p undef = .pointer (some ⟨g, 0, none⟩)) (hb : Blk w g cs t)
    {d : TypeDesc} (hu : P.underlying ty = some d) (hr : d.isRow = true) (hi : (P.info? ty).map (·.size) = some cs.size) : (results fn tmps).run P w = .ok (.agg cs) w :=
  results_cell_row h tmps w g t cs (0, 0) d hp hb hu (by cases d <;> simp_all) hi

/-! ### rows of structs -/
/-- where the structs of a row lie -/
structure SRow {α : Type} (w : World) (g off cap size : Nat) (f : α → Array Value) (l : List α) : Prop where
  cap : l.length ≤ cap
  lt : g < w.heap.size
  get : ∀ (i : Nat) (hi : i < l.length), w.rangeAt g (off + i * size) (f l[i]).toList
theorem flat_part {α : Type} {f : α → Array Value} {size : Nat} : ∀ (l : List α), (∀ x ∈ l, (f x).size = size) → ∀ (i : Nat) (hi : i < l.length) (j : Nat), j < size → (l.flatMap fun x => (f x).toList)[i * size + j]? = (f l[i])[j]?
  | [], _, i, hi, _, _ => by simp at hi
  | x :: l, hs, i, hi, j, hj => by
    have hx : (f x).toList.length = size := by simpa using hs x List.mem_cons_self
    rw [List.flatMap_cons]
    cases i with
    | zero => rw [List.getElem?_append_left (by omega)]; simp
    | succ i =>
      rw [List.getElem?_append_right (by rw [hx, Nat.add_mul]; omega), hx]
      have e : (i + 1) * size + j - size = i * size + j := by rw [Nat.add_mul]; omega
      rw [e, flat_part l (fun y hy => hs y (List.mem_cons_of_mem _ hy)) i (by simpa using hi) j hj]
      simp
theorem srow_of {α : Type} {w : World} {v : Value} {size : Nat} {f : α → Array Value} {l : List α} (hs : ∀ x ∈ l, (f x).size = size) (h : Row w v l.length size (l.flatMap fun x => (f x).toList)) :
    (v = .slice none 0 0 ∧ l = []) ∨ ∃ g off cap, v = .slice (some ⟨g, off, none⟩) l.length cap ∧ SRow w g off cap size f l := by
  rcases h.2 with ⟨hv, hn⟩ | ⟨g, off, cap, hv, hn, hg, hc⟩
  · exact .inl ⟨hv, List.eq_nil_of_length_eq_zero hn⟩
  · refine .inr ⟨g, off, cap, hv, hn, hg, fun i hi j u hu => ?_⟩
    have hsz : (f l[i]).size = size := hs _ (List.getElem_mem hi)
    have hj : j < size := by
      rw [← hsz]
      have := (List.getElem?_eq_some_iff.1 hu).1
      simpa using this
    rw [show off + i * size + j = off + (i * size + j) by omega]
    exact hc _ _ (by rw [flat_part l hs i hi j hj]; simpa using hu)
theorem SRow.ext {α : Type} {w w' : World} {g off cap size : Nat} {f : α → Array Value} {l : List α} (h : SRow w g off cap size f l) (hb : Below w.heap.size w w') : SRow w' g off cap size f l :=
  ⟨h.cap, Nat.lt_of_lt_of_le h.lt hb.size, fun i hi j u hu => (hb.cell (p := ⟨g, off + i * size + j, none⟩) h.lt).trans (h.get i hi j u hu)⟩
theorem SRow.below {α : Type} {w w' : World} {B : Nat} {g off cap size : Nat} {f : α → Array Value} {l : List α} (h : SRow w g off cap size f l) (hb : Below B w w') (hB : w.heap.size ≤ B) : SRow w' g off cap size f l :=
  h.ext (hb.mono hB)
theorem row_shape {w : World} {v : Value} {n size : Nat} {xs : List Value} (h : Row w v n size xs) : ∃ p c, v = .slice p n c := by
  rcases h.2 with ⟨rfl, rfl⟩ | ⟨g, off, cap, rfl, _⟩
  · exact ⟨_, _, rfl⟩
  · exact ⟨_, _, rfl⟩

end Go.Proofs.Yteddkgpnklfppaa

namespace Go.Proofs.Yteddkgpnklfppaa
open Go.RowKit Go.Sort Go.Maps

/-- the four numbers of children, so many laid -/
def kidArr (s i : Nat) : Array Value := #[.int .i64 (if 0 < i then (s : Int) else 0), .int .i64 (if 1 < i then (s + 1 : Int) else 0), .int .i64 (if 2 < i then (s + 2 : Int) else 0), .int .i64 (if 3 < i then (s + 3 : Int) else 0)]
theorem Keep.setNew {S : Nat → Prop} {a w : World} (h : Keep S a w) {k : Nat} (hk : a.heap.size ≤ k) (o : Nat) (u : Value) : Keep S a (w.setCell ⟨k, o, none⟩ u) :=
  ⟨h.os, h.tape, h.output, by simpa [World.setCell] using h.size, fun i hi hn => (Below.heap_setCell _ _ _ _ (show i ≠ (⟨k, o, none⟩ : Addr).block by simp only; omega)).trans (h.block i hi hn)⟩
theorem kidArr_set (s : Nat) {i : Nat} (hi : i < 4) : (kidArr s i).setIfInBounds i (.int .i64 ((s + i : Nat) : Int)) = kidArr s (i + 1) := by
  obtain rfl | rfl | rfl | rfl : i = 0 ∨ i = 1 ∨ i = 2 ∨ i = 3 := by omega
  all_goals simp [kidArr]
theorem kidArr_get (s i : Nat) {j : Nat} (hj : j < 4) : ∃ v, (kidArr s i)[j]? = some (.int .i64 v) := by
  obtain rfl | rfl | rfl | rfl : j = 0 ∨ j = 1 ∨ j = 2 ∨ j = 3 := by omega
  all_goals exact ⟨_, rfl⟩
def nils (l : List Tc.Node) : List NP := l.map fun n => (n, .slice none 0 0)
theorem TrM.setN' {w : World} {t m b : Nat} {ps : List NP} {O : Nat → Prop} {g cap L : Nat} (h : TrM w t m b ps (.slice (some ⟨g, 0, none⟩) L cap) O) (hL : L = ps.length) {a j : Nat} {p : NP} {n' : Tc.Node} {u : Value} (ha : ps[a]? = some p) (hj : j < 10) (hl : n'.l = p.1.l) (hu : nodeArr n' p.2 = (nodeArr p.1 p.2).setIfInBounds j u) :
    TrM (w.setCell ⟨g, a * 10 + j, none⟩ u) t m b (ps.set a (n', p.2)) (.slice (some ⟨g, 0, none⟩) L cap) O := by
  subst hL; exact h.setN ha hj hl hu
theorem set_at {ps : List NP} {a : Nat} (h : a < ps.length) (u : NP) : (ps.set a u)[a]? = some u := by rw [List.getElem?_set_self h]
/-- a leaf is parted: its marks -/
theorem TrM.split {w : World} {t m b : Nat} {ps : List NP} {O : Nat → Prop} {g cap : Nat} (h : TrM w t m b ps (.slice (some ⟨g, 0, none⟩) ps.length cap) O) {a : Nat} {p : NP} (ha : ps[a]? = some p) (s : Nat) :
    TrM (((((((w.setCell ⟨g, a * 10 + 9, none⟩ (.slice none 0 0)).setCell ⟨g, a * 10 + 8, none⟩ (.bool true)).setCell ⟨g, a * 10 + 3, none⟩ (.int .i64 s)).setCell ⟨g, a * 10 + 3 + 1, none⟩ (.int .i64 (s + 1))).setCell ⟨g, a * 10 + 3 + 2, none⟩ (.int .i64 (s + 2))).setCell ⟨g, a * 10 + 3 + 3, none⟩ (.int .i64 (s + 3))).setCell ⟨g, a * 10 + 7, none⟩ (.int .i64 0)) t m b
      (ps.set a (Tc.splitN s p.1, .slice none 0 0)) (.slice (some ⟨g, 0, none⟩) ps.length cap) (fun q => O q ∧ p.2.ownBlock ≠ some q) := by
  have hlt : a < ps.length := (List.getElem?_eq_some_iff.1 ha).1
  have h9 := h.dropL ha
  have h8 := h9.setN' (by rw [List.length_set]) (set_at hlt _) (j := 8) (n' := { p.1 with l := [], split := true }) (u := .bool true) (by decide) rfl rfl
  rw [List.set_set] at h8
  have h3 := h8.setN' (by rw [List.length_set]) (set_at hlt _) (j := 3) (n' := { p.1 with l := [], split := true, k0 := s }) (u := .int .i64 s) (by decide) rfl rfl
  rw [List.set_set] at h3
  have h4 := h3.setN' (by rw [List.length_set]) (set_at hlt _) (j := 4) (n' := { p.1 with l := [], split := true, k0 := s, k1 := s + 1 }) (u := .int .i64 (s + 1)) (by decide) rfl rfl
  rw [List.set_set] at h4
  have h5 := h4.setN' (by rw [List.length_set]) (set_at hlt _) (j := 5) (n' := { p.1 with l := [], split := true, k0 := s, k1 := s + 1, k2 := s + 2 }) (u := .int .i64 (s + 2)) (by decide) rfl rfl
  rw [List.set_set] at h5
  have h6 := h5.setN' (by rw [List.length_set]) (set_at hlt _) (j := 6) (n' := { p.1 with l := [], split := true, k0 := s, k1 := s + 1, k2 := s + 2, k3 := s + 3 }) (u := .int .i64 (s + 3)) (by decide) rfl rfl
  rw [List.set_set] at h6
  have h7 := h6.setN' (by rw [List.length_set]) (set_at hlt _) (j := 7) (n' := { p.1 with l := [], split := true, k0 := s, k1 := s + 1, k2 := s + 2, k3 := s + 3, many := 0 }) (u := .int .i64 0) (by decide) rfl rfl
  rw [List.set_set] at h7
  exact h7
theorem recArr_one (r : Tc.Rec) : (recArr r).all (·.oneCell') = true := by
  unfold recArr
  rw [← Array.all_toList]
  rfl
theorem recsC_len (l : List Tc.Rec) : (recsC l).length = l.length * 4 := by
  induction l with
  | nil => rfl
  | cons r l ih =>
    have e : recsC (r :: l) = (recArr r).toList ++ recsC l := rfl
    rw [e, List.length_append, ih, List.length_cons]
    show 4 + _ = _
    omega
/-- a record of an owned row -/
theorem owns_rec {w : World} {base lg lc L : Nat} {l : List Tc.Rec} (h : w.ownsRow base 40 4 (.slice (some ⟨lg, 0, none⟩) L lc) L (recsC l)) (hL : L = l.length) {j : Nat} (hj : j < l.length) : w.rangeAt lg (j * 4) (recArr l[j]).toList := by
  obtain ⟨g', c', hv, _, _, hc, _⟩ := owns_block h (by omega)
  cases hv
  intro i v hi
  have hi4 : i < 4 := (List.getElem?_eq_some_iff.1 hi).1
  refine hc _ _ ?_
  rw [recsC_get l j i l[j] (List.getElem?_eq_getElem hj) hi4]
  simpa using hi
theorem nils_map (l : List Tc.Node) : (nils l).map (·.1) = l := by unfold nils; rw [List.map_map]; exact List.map_id _
theorem nils_len (l : List Tc.Node) : (nils l).length = l.length := List.length_map _
theorem four_take (lv : Nat) (X Y : Int) {i : Nat} (hi : i < 4) : nils ((Tc.fourOf lv X Y).take (i + 1)) = nils ((Tc.fourOf lv X Y).take i) ++ [(Tc.newLeaf (lv + 1) (2 * X + (i % 2 : Nat)) (2 * Y + (i / 2 : Nat)), .slice none 0 0)] := by
  have h4 : (Tc.fourOf lv X Y).length = 4 := rfl
  have h := Tc.four_at (lv := lv) (X := X) (Y := Y) hi
  have hl : i < (Tc.fourOf lv X Y).length := by rw [h4]; exact hi
  rw [List.getElem?_eq_getElem hl] at h
  unfold nils
  rw [List.take_succ_eq_append_getElem hl, List.map_append, Option.some.inj h]
  rfl
set_option maxRecDepth 100000 in
set_option maxHeartbeats 4000000 in
theorem tpart_of {b f : Nat} (hP : PutOK b f) {w : World} {t m : Nat} {ps : List NP} {vN : Value} {O : Nat → Prop} {N : List Tc.Node} {a : Nat} {n : Tc.Node} {r : Tc.Rec} {A : List Tc.Rec}
    (h : TrM w t m b ps vN O) (hN : ps.map (·.1) = N.set a (Tc.addR n r)) (hpre : Tc.Pre (f + 1) N a n r A) (hs : n.split = false) (hp : b < n.l.length + 1 ∧ n.lv < 16) (hA : A.length ≤ 1000) (hAf : ∀ x ∈ A, x.fit) :
    Calls Try.prog 38 #[.pointer (some ⟨t, 0, none⟩), .int .i64 a] w fun e w' => e = .returned (.tuple #[]) ∧ PutPost w t m b ((n.l ++ [r]).foldl (fun M x => Tc.putV b f M a x) (Tc.partN N a n)) O w' := by
  have hlen : ps.length = N.length := by have := congrArg List.length hN; simpa using this
  have hlt : a < ps.length := by have := hpre.lt; omega
  obtain ⟨p, hpa, hp1⟩ : ∃ p, ps[a]? = some p ∧ p.1 = Tc.addR n r := by
    have e : (ps.map (·.1))[a]? = some (Tc.addR n r) := by rw [hN]; exact Tc.set_get_self hpre.at_
    rw [List.getElem?_map] at e
    cases hq : ps[a]? with
    | none => rw [hq] at e; simp at e
    | some q => rw [hq] at e; simp at e; exact ⟨q, rfl, e⟩
  have hsz := hpre.shape.len
  obtain ⟨x0, x1, x2, x3, x4⟩ := hpre.shape.cell a n hpre.at_
  obtain ⟨g, cap, rfl, htg, hgl, hcell, hfr⟩ := h.nodes (by omega)
  have hl1 : p.1.l.length = n.l.length + 1 := by rw [hp1]; show (n.l ++ [r]).length = _; simp
  obtain ⟨lg, lc, hlv, htl, hll, hlcell, _⟩ := owns_block (h.recs a p hpa) (by omega)
  have hlc := hid hlcell
  have c1 : w.cell? ⟨t, 1, none⟩ = some (.slice (some ⟨g, 0, none⟩) ps.length cap) := h.blk.cell 1 rfl
  have q9 : w.cell? ⟨g, a * 10 + 9, none⟩ = some (.slice (some ⟨lg, 0, none⟩) (n.l.length + 1) lc) := by
    have := hcell a p hpa 9 p.2 rfl
    rw [this, hlv, hl1]
  have q0 : w.cell? ⟨g, a * 10, none⟩ = some (.int .i64 n.lv) := by
    have := hcell a p hpa 0 (.int .i64 p.1.lv) rfl
    rw [hp1] at this; exact this
  have q1 : w.cell? ⟨g, a * 10 + 1, none⟩ = some (.int .i64 n.X) := by
    have := hcell a p hpa 1 (.int .i64 p.1.X) rfl
    rw [hp1] at this; exact this
  have q2 : w.cell? ⟨g, a * 10 + 1 + 1, none⟩ = some (.int .i64 n.Y) := by
    have := hcell a p hpa 2 (.int .i64 p.1.Y) rfl
    rw [hp1] at this; exact this
  have H0 := hid h
  have hlen' := hid hlen
  have hlen2 : ps.length ≤ 73014444032 := by omega
  have htl := h.blk.lt
  have hltI : (a : Int) < ps.length := by omega
  have hsp : Hid (p.2 = .slice (some ⟨lg, 0, none⟩) (n.l.length + 1) lc) := hid (by rw [hlv, hl1])
  have hN' := hid hN
  have hp1' := hid hp1
  have hpa' := hid hpa
  clear hcell hfr h hlcell hlen hN hp1 hpa hl1 hlv
  go_enter Try.func38, Try.ntmps38
  go_wp2_with fail
  go_region
  clear c1 q9 q0 q1 q2
  have z1 := balloc w (.cells #[.int .i64 n.lv, .int .i64 n.X, .int .i64 n.Y] 24)
  have z2 : Below (w.alloc (.cells #[.int .i64 n.lv, .int .i64 n.X, .int .i64 n.Y] 24)).heap.size (w.alloc (.cells #[.int .i64 n.lv, .int .i64 n.X, .int .i64 n.Y] 24)) ((w.alloc (.cells #[.int .i64 n.lv, .int .i64 n.X, .int .i64 n.Y] 24)).drew.alloc (.cells (kidArr ps.length 0) 82)) := (Below.refl (w.alloc (.cells #[.int .i64 n.lv, .int .i64 n.X, .int .i64 n.Y] 24)).heap.size (w.alloc (.cells #[.int .i64 n.lv, .int .i64 n.X, .int .i64 n.Y] 24))).drew.trans (balloc (w.alloc (.cells #[.int .i64 n.lv, .int .i64 n.X, .int .i64 n.Y] 24)).drew (.cells (kidArr ps.length 0) 82))
  have Q0 := hid (bthen z1 z2)
  have T0 := hid (H0.out.ext Q0.out)
  have C0 := hid ((Blk.new w #[.int .i64 n.lv, .int .i64 n.X, .int .i64 n.Y] 24).ext z2)
  have K0 := hid (Blk.newAt (w := (w.alloc (.cells #[.int .i64 n.lv, .int .i64 n.X, .int .i64 n.Y] 24)).drew) (k := w.heap.size + 1) (by show _ = (w.alloc _).heap.size; simp) (kidArr ps.length 0) 82)
  clear z1 z2
  go_wp2_with fail
  go_loopw [7, 8, 9, 29] (fun _ _ _ u29 wr => ∃ (i : Nat) (vN' : Value) (O' : Nat → Prop), u29 = .int .i64 i ∧ i ≤ 4 ∧ TrM wr t m b (ps ++ nils ((Tc.fourOf n.lv n.X n.Y).take i)) vN' O' ∧ (∀ q, O' q → O q ∨ w.heap.size + 2 ≤ q) ∧ Keep (TrS t O) w wr ∧ w.heap.size + 2 ≤ wr.heap.size ∧
    Blk wr w.heap.size #[.int .i64 n.lv, .int .i64 n.X, .int .i64 n.Y] 24 ∧ Blk wr (w.heap.size + 1) (kidArr ps.length i) 82) (fun _ _ _ u29 _ => 4 - (intOf u29).toNat)
  case atStart => exact ⟨0, _, _, rfl, by omega, (by rw [List.take_zero]; unfold nils; rw [List.map_nil, List.append_nil]; exact T0.out), (fun q hq => .inl hq), Keep.of_below Q0.out, (by show _ ≤ ((w.alloc _).alloc _).heap.size; simp only [World.size_alloc]; omega), C0.out, K0.out⟩
  case round =>
    obtain ⟨i, vN', O', rfl, hi, hT, hO, hK, hsz, hC, hKi⟩ := hrel
    have T1 := hid hT
    have O1 := hid hO
    have K1 := hid hK
    have C1 := hid hC
    have I1 := hid hKi
    have hwk := H0.out.blk.lt
    clear hT hO hK hC hKi T0 Q0 C0 K0
    by_cases hi4 : i < 4
    · have hch0 := tchild_any (X := n.X) (Y := n.Y) hp.2 x1 x2 x3 x4 hi4
      have htake0 := four_take n.lv n.X n.Y hi4
      obtain ⟨l1, hl1⟩ : ∃ l, l = n.lv + 1 := ⟨_, rfl⟩
      obtain ⟨X1, hX1⟩ : ∃ x, x = 2 * n.X + (i % 2 : Nat) := ⟨_, rfl⟩
      obtain ⟨Y1, hY1⟩ : ∃ x, x = 2 * n.Y + (i / 2 : Nat) := ⟨_, rfl⟩
      rw [← hl1, ← hX1, ← hY1] at hch0 htake0
      have hch := hid hch0
      have htake := hid htake0
      clear hch0 htake0 hl1 hX1 hY1
      obtain ⟨c0, c1, c2, cf, cz⟩ := C1.out.three
      have hkset := hid (kidArr_set ps.length hi4)
      have hnl : (nils ((Tc.fourOf n.lv n.X n.Y).take i)).length = i := by
        rw [nils_len, List.length_take]; show min i 4 = i; omega
      have hpl := hid (show (ps ++ nils ((Tc.fourOf n.lv n.X n.Y).take i)).length = ps.length + i by rw [List.length_append, hnl])
      have hpl2 : (ps ++ nils ((Tc.fourOf n.lv n.X n.Y).take i)).length ≤ 73014444132 := by rw [hpl.out]; omega
      have hi4I : (i : Int) < 4 := by omega
      unfold cellV at hch
      go_wp2_with fail
      refine (hch.out _).mono ?_
      rintro e w5 ⟨rfl, hb5⟩
      have z5 := balloc w5 (.cells #[.int .i64 l1, .int .i64 X1, .int .i64 Y1] 24)
      have B5 := hid (bthen hb5 z5)
      have T5 := hid (T1.out.ext B5.out)
      have C5 := hid (C1.out.ext B5.out)
      have I5 := hid (I1.out.ext B5.out)
      have K5 := hid (K1.out.trans (Keep.of_below B5.out))
      clear hb5 z5 hch c0 c1 c2 cf cz hnl
      have hB5s := B5.out.size
      go_wp2_with fail
      generalize w5.alloc (.cells #[.int .i64 l1, .int .i64 X1, .int .i64 Y1] 24) = w6 at *
      have hlf := hid (tleaf_any T5.out hpl2 l1 X1 Y1)
      unfold cellV at hlf
      obtain ⟨s1, hs1⟩ : ∃ s, s = ps.length + i := ⟨_, rfl⟩
      rw [hpl.out, ← hs1] at hlf
      have hs1' := hid hs1
      clear hs1
      refine hlf.out.mono ?_
      rintro e w7 ⟨rfl, vN2, O2, hT2, hO2, hK2⟩
      have hnk : ∀ k, k < w.heap.size + 2 → w.heap.size ≤ k → ¬ TrS t O' k := fun k h1 h2 e => by
        rcases e with e | e
        · omega
        · rcases O1.out k e with e2 | e2
          · have := (H0.out.bd k e2).2; omega
          · omega
      have C7 := hid (C5.out.keep hK2 (hnk _ (by omega) (Nat.le_refl _)))
      have I7 := hid (I5.out.keep hK2 (hnk _ (by omega) (by omega)))
      have K7 := hid (Keep.chain K5.out hK2 (fun q hq => by
        rcases O1.out q hq with e | e
        · exact .inl e
        · exact .inr (by omega)))
      have hs7 := hK2.size
      have T7 := hid hT2
      have O7 := hid (fun q hq => show O q ∨ w.heap.size + 2 ≤ q from by
        rcases hO2 q hq with e | e
        · exact O1.out q e
        · exact .inr (by omega))
      clear hT2 hO2 hK2 hlf T5 C5 I5 K5 T1 O1 K1 C1 I1 hnk
      have I7b := I7.out.lt
      have ifr := I7.out.free
      obtain ⟨iv, hiv⟩ := kidArr_get ps.length i hi4
      have ic := I7.out.cell i hiv
      clear hiv
      go_wp2_with fail
      go_roundw
      case rel =>
        have tch : Touch (w.heap.size + 1) w7 (w7.setCell ⟨w.heap.size + 1, i, none⟩ (.int .i64 s1)) := (Touch.refl _ _).setCell _ _
        refine ⟨i + 1, vN2, O2, by go_num, by omega, ?_, O7.out, K7.out.setNew (by omega) _ _, by rw [World.size_setCell]; omega, C7.out.touch tch (by omega), ?_⟩
        · rw [htake.out, ← List.append_assoc]
          refine T7.out.keep (S := fun k => k = w.heap.size + 1) (Keep.of_touch tch rfl) (fun k hk => ⟨by omega, fun e => ?_⟩)
          rcases O7.out k e with e2 | e2
          · have := (H0.out.bd k e2).2; omega
          · omega
        · rw [← hkset.out, ← hs1'.out]
          exact I7.out.set i _
      case measure => simp [intOf]; omega
    · obtain rfl : i = 4 := by omega
      rw [show ((4 : Nat) : Int) = 4 from rfl]
      have e4 : (Tc.fourOf n.lv n.X n.Y).take 4 = Tc.fourOf n.lv n.X n.Y := rfl
      rw [e4] at T1
      have hpl := hid (show (ps ++ nils (Tc.fourOf n.lv n.X n.Y)).length = ps.length + 4 by rw [List.length_append, nils_len]; rfl)
      have hpa4 := hid (show (ps ++ nils (Tc.fourOf n.lv n.X n.Y))[a]? = some p by rw [List.getElem?_append_left hlt]; exact hpa'.out)
      generalize hps4 : ps ++ nils (Tc.fourOf n.lv n.X n.Y) = ps4 at *
      have hps4' := hid hps4
      have hpl4 : a < ps4.length := by rw [hpl.out]; omega
      obtain ⟨g4, cap4, rfl, htg4, hgl4, hcell4, hfr4⟩ := T1.out.nodes (by omega)
      have hln : (a : Int) < ps4.length := by omega
      have c1 : wr.cell? ⟨t, 1, none⟩ = some (.slice (some ⟨g4, 0, none⟩) ps4.length cap4) := T1.out.blk.cell 1 rfl
      have q9 : wr.cell? ⟨g4, a * 10 + 9, none⟩ = some p.2 := hcell4 a p hpa4.out 9 _ rfl
      have q8 : wr.cell? ⟨g4, a * 10 + 8, none⟩ = some (.bool p.1.split) := hcell4 a p hpa4.out 8 _ rfl
      have q7 : wr.cell? ⟨g4, a * 10 + 7, none⟩ = some (.int .i64 p.1.many) := hcell4 a p hpa4.out 7 _ rfl
      have q3 : wr.cell? ⟨g4, a * 10 + 3, none⟩ = some (.int .i64 p.1.k0) := hcell4 a p hpa4.out 3 _ rfl
      have q4 : wr.cell? ⟨g4, a * 10 + 3 + 1, none⟩ = some (.int .i64 p.1.k1) := hcell4 a p hpa4.out 4 _ rfl
      have q5 : wr.cell? ⟨g4, a * 10 + 3 + 1 + 1, none⟩ = some (.int .i64 p.1.k2) := hcell4 a p hpa4.out 5 _ rfl
      have q6 : wr.cell? ⟨g4, a * 10 + 3 + 1 + 1 + 1, none⟩ = some (.int .i64 p.1.k3) := hcell4 a p hpa4.out 6 _ rfl
      obtain ⟨k0, k1, k2, k3, kf, kz⟩ := (show Blk wr (w.heap.size + 1) #[.int .i64 ps.length, .int .i64 (ps.length + 1 : Int), .int .i64 (ps.length + 2 : Int), .int .i64 (ps.length + 3 : Int)] 82 from I1.out).tfour
      have hne1 : g4 ≠ w.heap.size + 1 := by
        intro e
        rcases O1.out g4 (T1.out.inO g4 rfl) with e2 | e2
        · have := (H0.out.bd g4 e2).2; omega
        · omega
      clear hcell4 hps4
      go_upto_region 9 with (fail)
      go_region
      have hDS := hid (T1.out.split hpa4.out ps.length)
      have tch : Touch g4 wr (((((((wr.setCell ⟨g4, a * 10 + 9, none⟩ (.slice none 0 0)).setCell ⟨g4, a * 10 + 8, none⟩ (.bool true)).setCell ⟨g4, a * 10 + 3, none⟩ (.int .i64 ps.length)).setCell ⟨g4, a * 10 + 3 + 1, none⟩ (.int .i64 (ps.length + 1))).setCell ⟨g4, a * 10 + 3 + 2, none⟩ (.int .i64 (ps.length + 2))).setCell ⟨g4, a * 10 + 3 + 3, none⟩ (.int .i64 (ps.length + 3))).setCell ⟨g4, a * 10 + 7, none⟩ (.int .i64 0)) :=
        (((((((Touch.refl g4 wr).setCell _ _).setCell _ _).setCell _ _).setCell _ _).setCell _ _).setCell _ _).setCell _ _
      have T9 := hid tch
      clear tch
      generalize ((((((wr.setCell ⟨g4, a * 10 + 9, none⟩ (.slice none 0 0)).setCell ⟨g4, a * 10 + 8, none⟩ (.bool true)).setCell ⟨g4, a * 10 + 3, none⟩ (.int .i64 ps.length)).setCell ⟨g4, a * 10 + 3 + 1, none⟩ (.int .i64 (ps.length + 1))).setCell ⟨g4, a * 10 + 3 + 2, none⟩ (.int .i64 (ps.length + 2))).setCell ⟨g4, a * 10 + 3 + 3, none⟩ (.int .i64 (ps.length + 3))).setCell ⟨g4, a * 10 + 7, none⟩ (.int .i64 0) = wy at *
      clear c1 q9 q8 q7 q3 q4 q5 q6 k0 k1 k2 k3 kf kz
      have K9 := hid (Keep.chain K1.out (Keep.of_touch (S := TrS t O') T9.out (.inr (T1.out.inO g4 rfl))) (fun q hq => by
        rcases O1.out q hq with e | e
        · exact .inl e
        · exact .inr (by omega)))
      have R9 := hid (show wy.ownsRow (t + 1) 40 4 (.slice (some ⟨lg, 0, none⟩) (n.l.length + 1) lc) (n.l.length + 1) (recsC (n.l ++ [r])) from by
        have h1 := owns_other (T1.out.recs a p hpa4.out) T9.out (fun e => T1.out.sep a p hpa4.out g4 e rfl)
        have e1 : p.1.l = n.l ++ [r] := by rw [hp1'.out]; rfl
        rw [hsp.out, e1, List.length_append, List.length_singleton] at h1
        exact h1)
      have N9 := hid (show (ps4.set a (Tc.splitN ps.length p.1, Value.slice none 0 0)).map (·.1) = Tc.partN N a n from by
        rw [← hps4'.out, List.set_append_left _ _ hlt, List.map_append, nils_map, List.map_set, hN'.out, List.set_set]
        have e1 : Tc.splitN ps.length p.1 = Tc.splitN N.length n := by rw [hp1'.out, hlen'.out]; rfl
        rw [e1]
        rfl)
      obtain ⟨O5, hO5⟩ : ∃ O5 : Nat → Prop, O5 = (fun q => O' q ∧ p.2.ownBlock ≠ some q) := ⟨_, rfl⟩
      rw [← hO5] at hDS
      have O9 := hid (show ∀ q, O5 q → (O q ∨ w.heap.size + 2 ≤ q) ∧ q ≠ lg from fun q hq => by
        rw [hO5] at hq
        exact ⟨O1.out q hq.1, fun e => hq.2 (by rw [hsp.out, e]; rfl)⟩)
      clear hO5
      have hsz9 : w.heap.size + 2 ≤ wy.drew.heap.size := Nat.le_trans hsz T9.out.size
      have hmid := hid (hpre.mid hs hp.2)
      have hall := hid (hpre.all hs hAf)
      have hshort := hpre.short hs
      have hfuel : 2 * (16 - n.lv) ≤ f := by have := hpre.fuel; rw [hs] at this; simp at this; omega
      have W9 := hid (TrN.ext (w' := wy.drew) ⟨_, _, N9.out, hDS.out⟩ (Below.refl _ _).drew)
      have K10 := hid (K9.out.trans (Keep.of_below (Below.refl wy.heap.size wy).drew))
      have R10 := hid (owns_keep (S := fun _ => False) R9.out (Keep.of_below (Below.refl wy.heap.size wy).drew) (fun _ _ e => e))
      have hLL := hid (show (n.l ++ [r]).length = n.l.length + 1 by simp)
      generalize hLs : n.l ++ [r] = Ls at *
      have hLs' := hid hLs
      clear hLs T9 K9 R9 N9 hDS T1 O1 K1 C1 I1 hne1 hsz hlen2
      have hn1000 : n.l.length ≤ 1000 := by omega
      clear hshort
      go_wp2_with fail
      go_loopw [12, 65] (fun _ u65 wr => ∃ (j : Nat) (M : List Tc.Node) (Oj : Nat → Prop), u65 = .int .i64 j ∧ j ≤ n.l.length + 1 ∧ TrN wr t m b M Oj ∧ (∀ q, Oj q → (O q ∨ w.heap.size + 2 ≤ q) ∧ q ≠ lg) ∧ Keep (TrS t O) w wr ∧ w.heap.size + 2 ≤ wr.heap.size ∧ Tc.Mid a n (Ls.take j) M ∧ M = (Ls.take j).foldl (fun M x => Tc.putV b f M a x) (Tc.partN N a n) ∧
        wr.ownsRow (t + 1) 40 4 (.slice (some ⟨lg, 0, none⟩) (n.l.length + 1) lc) (n.l.length + 1) (recsC Ls)) (fun _ u65 _ => n.l.length + 1 - (intOf u65).toNat)
      case atStart => exact ⟨0, _, O5, rfl, Nat.zero_le _, W9.out, O9.out, K10.out, hsz9, hmid.out, rfl, R10.out⟩
      case round =>
        obtain ⟨j, M, Oj, rfl, hj, hT, hO, hK, hwz, hM, hMe, hR⟩ := hrel
        have T1 := hid hT
        have O1 := hid hO
        have K1 := hid hK
        have M1 := hid hM
        have E1 := hid hMe
        have R1 := hid hR
        clear hT hO hK hM hMe hR W9 O9 K10 hmid R10
        by_cases hjl : j < n.l.length + 1
        · have hjL : j < Ls.length := by rw [hLL.out]; exact hjl
          have hrec := hid (owns_rec R1.out hLL.out.symm hjL)
          obtain ⟨hxn, hxf⟩ := hall.out _ (List.getElem_mem hjL)
          obtain ⟨n2, hpr⟩ := M1.out.pre hxn hxf hfuel
          have hst := hid (M1.out.step hxn hxf hfuel b)
          have htk := hid (show Ls.take (j + 1) = Ls.take j ++ [Ls[j]] from List.take_succ_eq_append_getElem hjL)
          have hpl : (Ls.take j).length ≤ 1000 := by rw [List.length_take]; omega
          have hpf : ∀ x ∈ Ls.take j, x.fit := fun x hx => (hall.out x (List.mem_of_mem_take hx)).2
          have z := balloc wr (.cells (recArr Ls[j]) 40)
          have hput := hid (hP _ t m M Oj a n2 Ls[j] (Ls.take j) (T1.out.ext z) hpr hpl hpf)
          have K2 := hid (K1.out.trans (Keep.of_below z))
          have R2 := hid (owns_keep (S := fun _ => False) R1.out (Keep.of_below z) (fun _ _ e => e))
          have hks := K1.out.size
          have hzs := z.size
          generalize Ls[j] = x at *
          have hjI : (j : Int) < n.l.length + 1 := by omega
          have X2 := hid (Blk.new wr (recArr x) 40)
          clear z T1 M1 hxn hxf hpr hpl hpf
          go_wp2_with (first | (refine wpList_load_at rfl 40 (.tmp 67) rfl 68 rfl lg (j * 4) (recArr x) (hrec.out) rfl Try.underlying40 rfl (by kernel_rfl) ?_) | (refine wpList_store_new rfl 40 (.tmp 12) (.tmp 68) rfl rfl wr 40 _ (recArr x) rfl rfl rfl (by kernel_rfl) rfl (recArr_one x) ?_) | (refine wpList_load_blk rfl 40 (.tmp 12) rfl 71 rfl wr.heap.size 40 (recArr x) (X2.out) rfl Try.underlying40 rfl (by kernel_rfl) ?_))
          refine hput.out.mono ?_
          rintro e w7 ⟨rfl, O7, hT7, hO7, hK7⟩
          have T7 := hid hT7
          have O8 := hid (show ∀ q, O7 q → (O q ∨ w.heap.size + 2 ≤ q) ∧ q ≠ lg from fun q hq => by
            rcases hO7 q hq with e | e
            · exact O1.out q e
            · have hws := World.size_alloc wr (.cells (recArr x) 40)
              exact ⟨.inr (by omega), by omega⟩)
          have hnl : ¬ TrS t Oj lg := fun e => by
            rcases e with e | e
            · omega
            · exact (O1.out lg e).2 rfl
          have R7 := hid (owns_keep R2.out hK7 (fun q hq e => hnl (by rw [show lg = q from Option.some.inj hq]; exact e)))
          have K8 := hid (Keep.chain K2.out hK7 (fun q hq => by
            rcases (O1.out q hq).1 with e | e
            · exact .inl e
            · exact .inr (by omega)))
          have hs7 : w.heap.size + 2 ≤ w7.heap.size := by
            have hws := World.size_alloc wr (.cells (recArr x) 40)
            have := hK7.size
            omega
          clear hT7 hO7 hK7 hput R2 K2 R1 O1 K1 hnl X2
          go_wp2_with fail
          go_roundw
          case rel => exact ⟨j + 1, _, O7, by go_num, by omega, T7.out, O8.out, K8.out, hs7, by rw [htk.out]; exact hst.out, by rw [htk.out, List.foldl_append, ← E1.out]; rfl, R7.out⟩
          case measure => simp [intOf]; omega
        · obtain rfl : j = n.l.length + 1 := by omega
          have hfull := hid (show Ls.take (n.l.length + 1) = Ls from List.take_of_length_le (by rw [hLL.out]; exact Nat.le_refl _))
          go_wp2_with fail
          go_end0
          refine ⟨rfl, Oj, ?_, fun q hq => ?_, K1.out⟩
          · have e1 := E1.out
            rw [hfull.out] at e1
            rw [hLs'.out, ← e1]
            exact T1.out
          · rcases (O1.out q hq).1 with e | e
            · exact .inl e
            · exact .inr (by omega)

end Go.Proofs.Yteddkgpnklfppaa
