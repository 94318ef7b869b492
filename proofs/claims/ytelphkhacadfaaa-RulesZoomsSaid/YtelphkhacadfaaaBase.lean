/- Small general laws: what a call leaves of memory ('Below', 'Touch'), facts kept hidden, blocks and their cells. -/
import Derived.Test.YtelphkhacadfaaaRows
import Derived.WalkKit
import Derived.WalkSpells
import Derived.WalkLawsBesides
import Derived.Deep.QuietTactic
import Derived.BigQuiet
import Derived.Deep.DeepFit
import Derived.Deep.DeepMust
import Derived.Deep.RegionHeld3
import Derived.Deep.DeepCutAuto
import Derived.Lib.QuietBelow
namespace Go.Proofs.Ytelphkhacadfaaa
open Go.RowKit Go.Sort

theorem hid {p : Prop} (h : p) : Hid p := h

theorem bcell {W w1 : World} (hb : Below W.heap.size W w1) : (∀ b o, b < W.heap.size → w1.cell? ⟨b, o, none⟩ = W.cell? ⟨b, o, none⟩) ∧ (∀ b o, b < W.heap.size → w1.frozen? ⟨b, o, none⟩ = W.frozen? ⟨b, o, none⟩) :=
  ⟨fun b o h => hb.cell (p := ⟨b, o, none⟩) h, fun b o h => hb.frozen (p := ⟨b, o, none⟩) h⟩

theorem ret_int {k : IntKind} {a b : Int} (h : a = b) : Ending.returned (.int k a) = .returned (.int k b) := by rw [h]
theorem ret_bool {a b : Bool} (h : a = b) : Ending.returned (.bool a) = .returned (.bool b) := by rw [h]
theorem ret_str {a b : ByteArray} (h : a = b) : Ending.returned (.string a) = .returned (.string b) := by rw [h]
theorem ret_eq {a b : Value} (h : a = b) : Ending.returned a = .returned b := by rw [h]

/-- two calls behind one another -/
theorem bthen {x y z : World} (h : Below x.heap.size x y) (k : Below y.heap.size y z) : Below x.heap.size x z := h.trans (k.mono h.size)
theorem balloc (w : World) (o : Obj) : Below w.heap.size w (w.alloc o) := (Below.refl _ _).alloc (Nat.le_refl _) _
theorem bdrewN {B : Nat} {a w : World} (h : Below B a w) (n : Nat) : Below B a (w.drewN n) := h.trans ⟨rfl, rfl, rfl, Nat.le_refl _, fun _ _ => rfl⟩
theorem bset {B : Nat} {a w : World} (h : Below B a w) {b o : Nat} (hp : B ≤ b) (u : Value) : Below B a (w.setCell ⟨b, o, none⟩ u) := h.setCell (p := ⟨b, o, none⟩) hp u
theorem same_below {P : Program} {f : FuncId} {args : Array Value} {w : World} {e : Ending} (h : Calls P f args w fun e' w' => e' = e ∧ w = w') : Calls P f args w fun e' w' => e' = e ∧ Below w.heap.size w w' :=
  h.mono fun _ _ ⟨h1, h2⟩ => ⟨h1, h2 ▸ Below.refl _ _⟩

/-- only block b of what was there may have changed -/
structure Touch (b : Nat) (w w' : World) : Prop where
  os : w'.os = w.os
  tape : w'.tape = w.tape
  output : w'.output = w.output
  size : w.heap.size ≤ w'.heap.size
  block : ∀ k, k < w.heap.size → k ≠ b → w'.heap[k]? = w.heap[k]?

theorem Touch.refl (b : Nat) (w : World) : Touch b w w := ⟨rfl, rfl, rfl, Nat.le_refl _, fun _ _ _ => rfl⟩
theorem Touch.trans {b : Nat} {x y z : World} (h : Touch b x y) (k : Touch b y z) : Touch b x z :=
  ⟨k.os.trans h.os, k.tape.trans h.tape, k.output.trans h.output, Nat.le_trans h.size k.size, fun i hi hn => (k.block i (Nat.lt_of_lt_of_le hi h.size) hn).trans (h.block i hi hn)⟩
theorem Touch.of_below {b : Nat} {w w' : World} (h : Below w.heap.size w w') : Touch b w w' := ⟨h.os, h.tape, h.output, h.size, fun k hk _ => h.block k hk⟩
theorem Touch.below {b : Nat} {x y z : World} (h : Touch b x y) (k : Below y.heap.size y z) : Touch b x z := h.trans (Touch.of_below k)
theorem Touch.drew {b : Nat} {a w : World} (h : Touch b a w) : Touch b a w.drew := ⟨h.os, h.tape, h.output, h.size, h.block⟩
theorem Touch.drewN {b : Nat} {a w : World} (h : Touch b a w) (n : Nat) : Touch b a (w.drewN n) := h.trans ⟨rfl, rfl, rfl, Nat.le_refl _, fun _ _ _ => rfl⟩
theorem Touch.setCell {b : Nat} {a w : World} (h : Touch b a w) (o : Nat) (u : Value) : Touch b a (w.setCell ⟨b, o, none⟩ u) :=
  h.trans ⟨rfl, rfl, rfl, by simp [World.setCell], fun k _ hn => Below.heap_setCell _ _ _ _ hn⟩
theorem Touch.alloc {b : Nat} {a w : World} (h : Touch b a w) (o : Obj) : Touch b a (w.alloc o) :=
  h.trans ⟨rfl, rfl, rfl, by simp, fun k hk _ => Below.heap_alloc _ _ _ hk⟩
/-- a store into a block of the call's own -/
theorem Touch.setNew {b : Nat} {a w : World} (h : Touch b a w) {k : Nat} (hk : a.heap.size ≤ k) (o : Nat) (u : Value) : Touch b a (w.setCell ⟨k, o, none⟩ u) :=
  ⟨h.os, h.tape, h.output, by simpa [World.setCell] using h.size, fun i hi hn => (Below.heap_setCell _ _ _ _ (show i ≠ (⟨k, o, none⟩ : Addr).block by simp only; omega)).trans (h.block i hi hn)⟩
theorem Touch.to_below {b B : Nat} {x y : World} (h : Touch b x y) (hB : B ≤ x.heap.size) (hb : B ≤ b) : Below B x y := ⟨h.os, h.tape, h.output, h.size, fun k hk => h.block k (by omega) (by omega)⟩
theorem tcell {b : Nat} {W w1 : World} (hb : Touch b W w1) : (∀ k o, k < W.heap.size → k ≠ b → w1.cell? ⟨k, o, none⟩ = W.cell? ⟨k, o, none⟩) ∧ (∀ k o, k < W.heap.size → k ≠ b → w1.frozen? ⟨k, o, none⟩ = W.frozen? ⟨k, o, none⟩) :=
  ⟨fun k o h hn => World.cell?_of_block (w := W) (a := ⟨k, o, none⟩) (hb.block k h hn), fun k o h hn => World.frozen?_of_block (w := W) (a := ⟨k, o, none⟩) (hb.block k h hn)⟩

/-- block b holds these cells -/
def Blk (w : World) (b : Nat) (cs : Array Value) (t : TypeId) : Prop := w.heap[b]? = some (.cells cs t (0, 0))
theorem Blk.lt {w : World} {b : Nat} {cs : Array Value} {t : TypeId} (h : Blk w b cs t) : b < w.heap.size := lt_of_block h
theorem Blk.cell {w : World} {b : Nat} {cs : Array Value} {t : TypeId} (h : Blk w b cs t) (o : Nat) {v : Value} (hv : cs[o]? = some v) : w.cell? ⟨b, o, none⟩ = some v := by
  unfold Blk at h; simp [World.cell?, h, hv]
theorem Blk.free {w : World} {b : Nat} {cs : Array Value} {t : TypeId} (h : Blk w b cs t) (o : Nat) : w.frozen? ⟨b, o, none⟩ = false := by
  unfold Blk at h; simp [World.frozen?, h]
theorem Blk.below {B : Nat} {w w' : World} {b : Nat} {cs : Array Value} {t : TypeId} (h : Blk w b cs t) (hb : Below B w w') (hB : b < B) : Blk w' b cs t := (hb.block b hB).trans h
theorem Blk.ext {w w' : World} {b : Nat} {cs : Array Value} {t : TypeId} (h : Blk w b cs t) (hb : Below w.heap.size w w') : Blk w' b cs t := h.below hb h.lt
theorem Blk.touch {k : Nat} {w w' : World} {b : Nat} {cs : Array Value} {t : TypeId} (h : Blk w b cs t) (hb : Touch k w w') (hn : b ≠ k) : Blk w' b cs t := (hb.block b h.lt hn).trans h
theorem Blk.drew {w : World} {b : Nat} {cs : Array Value} {t : TypeId} (h : Blk w b cs t) : Blk w.drew b cs t := h
theorem Blk.drewN {w : World} {b : Nat} {cs : Array Value} {t : TypeId} (h : Blk w b cs t) (n : Nat) : Blk (w.drewN n) b cs t := h
theorem Blk.alloc {w : World} {b : Nat} {cs : Array Value} {t : TypeId} (h : Blk w b cs t) (o : Obj) : Blk (w.alloc o) b cs t := (Below.heap_alloc _ _ _ h.lt).trans h
theorem Blk.new (w : World) (cs : Array Value) (t : TypeId) : Blk (w.alloc (.cells cs t)) w.heap.size cs t := heap_alloc_new w _
theorem Blk.newAt {w : World} {k : Nat} (h : k = w.heap.size) (cs : Array Value) (t : TypeId) : Blk (w.alloc (.cells cs t)) k cs t := h ▸ Blk.new w cs t
theorem Blk.set {w : World} {b : Nat} {cs : Array Value} {t : TypeId} (h : Blk w b cs t) (o : Nat) (u : Value) : Blk (w.setCell ⟨b, o, none⟩ u) b (cs.setIfInBounds o u) t := by
  have hlt := h.lt
  unfold Blk at *
  have h' : w.heap[b] = .cells cs t (0, 0) := by simpa [Array.getElem?_eq_getElem hlt] using h
  show (w.heap.modify b _)[b]? = _
  rw [Array.getElem?_eq_getElem (by simpa using hlt), Array.getElem_modify_self, h']
  simp
theorem Blk.setOther {w : World} {b : Nat} {cs : Array Value} {t : TypeId} (h : Blk w b cs t) {k : Nat} (hk : b ≠ k) (o : Nat) (u : Value) : Blk (w.setCell ⟨k, o, none⟩ u) b cs t :=
  (Below.heap_setCell _ _ _ _ hk).trans h

theorem Blk.setOther_iff {w : World} {b : Nat} {cs : Array Value} {t : TypeId} {k : Nat} (hk : b ≠ k) (o : Nat) (u : Value) : Blk (w.setCell ⟨k, o, none⟩ u) b cs t ↔ Blk w b cs t := by
  unfold Blk; rw [Below.heap_setCell _ _ _ _ hk]
theorem Touch.setNew_iff {b : Nat} {a w : World} {k : Nat} (hk : a.heap.size ≤ k) (o : Nat) (u : Value) : Touch b a (w.setCell ⟨k, o, none⟩ u) ↔ Touch b a w :=
  ⟨fun h => ⟨h.os, h.tape, h.output, by simpa [World.setCell] using h.size, fun i hi hn => (Below.heap_setCell _ _ _ _ (show i ≠ (⟨k, o, none⟩ : Addr).block by simp only; omega)).symm.trans (h.block i hi hn)⟩, fun h => h.setNew hk o u⟩
theorem below_setNew_iff {B : Nat} {a w : World} {k : Nat} (hk : B ≤ k) (o : Nat) (u : Value) : Below B a (w.setCell ⟨k, o, none⟩ u) ↔ Below B a w :=
  ⟨fun h => ⟨h.os, h.tape, h.output, by simpa [World.setCell] using h.size, fun i hi => (Below.heap_setCell _ _ _ _ (show i ≠ (⟨k, o, none⟩ : Addr).block by simp only; omega)).symm.trans (h.block i hi)⟩, fun h => bset h hk u⟩
theorem Touch.drew_iff {b : Nat} {a w : World} : Touch b a w.drew ↔ Touch b a w := ⟨fun h => ⟨h.os, h.tape, h.output, h.size, h.block⟩, Touch.drew⟩
theorem Touch.drewN_iff {b : Nat} {a w : World} (n : Nat) : Touch b a (w.drewN n) ↔ Touch b a w := ⟨fun h => ⟨h.os, h.tape, h.output, h.size, h.block⟩, fun h => h.drewN n⟩
theorem below_drew_iff {B : Nat} {a w : World} : Below B a w.drew ↔ Below B a w := ⟨fun h => ⟨h.os, h.tape, h.output, h.size, h.block⟩, Below.drew⟩
theorem below_drewN_iff {B : Nat} {a w : World} (n : Nat) : Below B a (w.drewN n) ↔ Below B a w := ⟨fun h => ⟨h.os, h.tape, h.output, h.size, h.block⟩, fun h => bdrewN h n⟩
theorem Blk.drew_iff {w : World} {b : Nat} {cs : Array Value} {t : TypeId} : Blk w.drew b cs t ↔ Blk w b cs t := Iff.rfl
theorem Blk.drewN_iff {w : World} {b : Nat} {cs : Array Value} {t : TypeId} (n : Nat) : Blk (w.drewN n) b cs t ↔ Blk w b cs t := Iff.rfl

/-- what the walk wants of a block of one, two, .. cells: each cell, each mark -/
theorem Blk.two {w : World} {b : Nat} {x y : Value} {t : TypeId} (h : Blk w b #[x, y] t) : w.cell? ⟨b, 0, none⟩ = some x ∧ w.cell? ⟨b, 1, none⟩ = some y ∧ (∀ o, w.frozen? ⟨b, o, none⟩ = false) ∧ b < w.heap.size :=
  ⟨h.cell 0 rfl, h.cell 1 rfl, h.free, h.lt⟩
theorem Blk.one {w : World} {b : Nat} {x : Value} {t : TypeId} (h : Blk w b #[x] t) : w.cell? ⟨b, 0, none⟩ = some x ∧ (∀ o, w.frozen? ⟨b, o, none⟩ = false) ∧ b < w.heap.size :=
  ⟨h.cell 0 rfl, h.free, h.lt⟩
theorem Blk.three {w : World} {b : Nat} {x y z : Value} {t : TypeId} (h : Blk w b #[x, y, z] t) : w.cell? ⟨b, 0, none⟩ = some x ∧ w.cell? ⟨b, 1, none⟩ = some y ∧ w.cell? ⟨b, 2, none⟩ = some z ∧ (∀ o, w.frozen? ⟨b, o, none⟩ = false) ∧ b < w.heap.size :=
  ⟨h.cell 0 rfl, h.cell 1 rfl, h.cell 2 rfl, h.free, h.lt⟩
theorem Blk.five {w : World} {b : Nat} {x y z u v : Value} {t : TypeId} (h : Blk w b #[x, y, z, u, v] t) : w.cell? ⟨b, 0, none⟩ = some x ∧ w.cell? ⟨b, 1, none⟩ = some y ∧ w.cell? ⟨b, 2, none⟩ = some z ∧ w.cell? ⟨b, 3, none⟩ = some u ∧ w.cell? ⟨b, 4, none⟩ = some v ∧ (∀ o, w.frozen? ⟨b, o, none⟩ = false) ∧ b < w.heap.size :=
  ⟨h.cell 0 rfl, h.cell 1 rfl, h.cell 2 rfl, h.cell 3 rfl, h.cell 4 rfl, h.free, h.lt⟩

/-- a slice value that reads as n elements of so many cells -/
def Row (w : World) (v : Value) (n size : Nat) (xs : List Value) : Prop :=
  xs.length = n * size ∧ ((v = .slice none 0 0 ∧ n = 0) ∨
    ∃ g off cap, v = .slice (some ⟨g, off, none⟩) n cap ∧ n ≤ cap ∧ g < w.heap.size ∧ ∀ j u, xs[j]? = some u → w.cell? ⟨g, off + j, none⟩ = some u)
theorem Row.nil (w : World) (size : Nat) : Row w (.slice none 0 0) 0 size [] := ⟨by simp, .inl ⟨rfl, rfl⟩⟩
theorem Row.below {w w' : World} {v : Value} {n size : Nat} {xs : List Value} {B : Nat} (h : Row w v n size xs) (hb : Below B w w') (hB : w.heap.size ≤ B) : Row w' v n size xs := by
  refine ⟨h.1, ?_⟩
  rcases h.2 with h2 | ⟨g, off, cap, hv, hn, hg, hc⟩
  · exact .inl h2
  · exact .inr ⟨g, off, cap, hv, hn, Nat.lt_of_lt_of_le hg hb.size, fun j u hj => (hb.cell (p := ⟨g, off + j, none⟩) (by simp only; omega)).trans (hc j u hj)⟩
theorem Row.ext {w w' : World} {v : Value} {n size : Nat} {xs : List Value} (h : Row w v n size xs) (hb : Below w.heap.size w w') : Row w' v n size xs := h.below hb (Nat.le_refl _)
theorem Row.touch {w w' : World} {v : Value} {n size : Nat} {xs : List Value} {b : Nat} (h : Row w v n size xs) (hb : Touch b w w') (hne : v.ownBlock ≠ some b) : Row w' v n size xs := by
  refine ⟨h.1, ?_⟩
  rcases h.2 with h2 | ⟨g, off, cap, hv, hn, hg, hc⟩
  · exact .inl h2
  · subst hv
    exact .inr ⟨g, off, cap, rfl, hn, Nat.lt_of_lt_of_le hg hb.size, fun j u hj => (World.cell?_of_block (w := w) (a := ⟨g, off + j, none⟩) (hb.block g hg (fun e => hne (by simp [Value.ownBlock, e])))).trans (hc j u hj)⟩
theorem Row.of_owns {w : World} {base : Nat} {e : TypeId} {size : Nat} {v : Value} {n : Nat} {xs : List Value} (h : w.ownsRow base e size v n xs) : Row w v n size xs := by
  refine ⟨h.1, ?_⟩
  rcases h.2 with h2 | ⟨g, cap, cur, hv, hb, hg, hn, hm, hs, ht⟩
  · exact .inl h2
  · refine .inr ⟨g, 0, cap, hv, hn, lt_of_block hg, fun j u hj => ?_⟩
    rw [Nat.zero_add, cell_of_row w g j cur e (0, 0) hg]
    rw [← ht, List.getElem?_take] at hj
    split at hj
    · simpa using hj
    · cases hj
theorem Row.empty {w : World} {k : Nat} (hk : k < w.heap.size) (size : Nat) : Row w (.slice (some ⟨k, 0, none⟩) 0 0) 0 size [] :=
  ⟨by simp, .inr ⟨k, 0, 0, rfl, Nat.le_refl _, hk, fun j u h => by simp at h⟩⟩
/-- an owned row while another block is written, whatever comes behind -/
theorem owns_touch {w w' : World} {base : Nat} {e : TypeId} {size : Nat} {v : Value} {n : Nat} {xs : List Value} {b : Nat} (h : w.ownsRow base e size v n xs) (hb : Touch b w w') (hlt : b < base) : w'.ownsRow base e size v n xs := by
  refine ⟨h.1, ?_⟩
  rcases h.2 with h2 | ⟨g, cap, cur, hv, hbb, hg, r⟩
  · exact .inl h2
  · exact .inr ⟨g, cap, cur, hv, hbb, (hb.block g (lt_of_block hg) (by omega)).trans hg, r⟩
theorem owns_ext {w w' : World} {base : Nat} {e : TypeId} {size : Nat} {v : Value} {n : Nat} {xs : List Value} (h : w.ownsRow base e size v n xs) (hb : Below w.heap.size w w') : w'.ownsRow base e size v n xs := by
  refine ⟨h.1, ?_⟩
  rcases h.2 with h2 | ⟨g, cap, cur, hv, hbb, hg, r⟩
  · exact .inl h2
  · exact .inr ⟨g, cap, cur, hv, hbb, (hb.block g (lt_of_block hg)).trans hg, r⟩
/-- behind an append to the call's own row: all else is as it was -/
theorem Blk.grown {w w' : World} {row : Option Nat} {b : Nat} {cs : Array Value} {t : TypeId} (h : Blk w b cs t) (hg : w.grownBy w' row) (hn : row ≠ some b) : Blk w' b cs t := (hg.block b h.lt (Ne.symm hn)).trans h
theorem own_ne {w : World} {base : Nat} {e : TypeId} {size : Nat} {v : Value} {n : Nat} {xs : List Value} (h : w.ownsRow base e size v n xs) {b : Nat} (hb : b < base) : v.ownBlock ≠ some b := fun e => by
  have := (h.lt b e).1; omega
theorem Touch.grown {b : Nat} {x y z : World} {row : Option Nat} (h : Touch b x y) (hg : y.grownBy z row) (hr : ∀ k, row = some k → x.heap.size ≤ k) : Touch b x z :=
  ⟨hg.os.trans h.os, hg.tape.trans h.tape, hg.output.trans h.output, Nat.le_trans h.size hg.size, fun k hk hn =>
    (hg.block k (Nat.lt_of_lt_of_le hk h.size) (fun e => by have := hr k e.symm; omega)).trans (h.block k hk hn)⟩

/-- the cells of a block that has just been laid -/
theorem cells_new (w : World) (cs : List Value) (t : TypeId) {k : Nat} (hk : k = w.heap.size) : ∀ j u, cs[j]? = some u → (w.alloc (.cells cs.toArray t)).cell? ((⟨k, 0, none⟩ : Addr).add j) = some u := by
  intro j u hj
  have hadd : (⟨k, 0, none⟩ : Addr).add j = ⟨k, j, none⟩ := by unfold Addr.add; split <;> simp_all
  rw [hadd]
  exact (Blk.newAt hk cs.toArray t).cell j (by simpa using hj)

end Go.Proofs.Ytelphkhacadfaaa
