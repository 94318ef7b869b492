/-
  Small general laws: what a call leaves of memory ('Below', 'Touch'), facts kept hidden, blocks and their cells.
  The lexer as plain Lean over lists of bytes: no program, no memory.
  The walks of package lex: bytes, the reader's methods.
-/
import Derived.Test.YteddkgpnklfppaaGreatDoorRows
import Derived.WalkKit
import Derived.WalkSpells
import Derived.WalkLawsBesides
import Derived.Deep.QuietTactic
import Derived.BigQuiet
import Derived.Deep.DeepFit
import Derived.Deep.DeepMust
import Derived.Deep.RegionHeld3
import Derived.Deep.DeepCutAuto
import Derived.Lib.QuietBelow
import Derived.KernelRfl

namespace Go.Proofs.YteddkgpnklfppaaGreatDoor
open Go.RowKit Go.Sort

theorem hid {p : Prop} (h : p) : Hid p := h

theorem bcell {W w1 : World} (hb : Below W.heap.size W w1) : (∀ b o, b < W.heap.size → w1.cell? ⟨b, o, none⟩ = W.cell? ⟨b, o, none⟩) ∧ (∀ b o, b < W.heap.size → w1.frozen? ⟨b, o, none⟩ = W.frozen? ⟨b, o, none⟩) :=
  ⟨fun b o h => hb.cell (p := ⟨b, o, none⟩) h, fun b o h => hb.frozen (p := ⟨b, o, none⟩) h⟩

theorem ret_int {k : IntKind} {a b : Int} (h : a = b) : Ending.returned (.int k a) = .returned (.int k b) := by rw [h]
theorem ret_bool {a b : Bool} (h : a = b) : Ending.returned (.bool a) = .returned (.bool b) := by rw [h]
theorem ret_str {a b : ByteArray} (h : a = b) : Ending.returned (.string a) = .returned (.string b) := by rw [h]
theorem ret_eq {a b : Value} (h : a = b) : Ending.returned a = .returned b := by rw [h]

/-- two calls behind one another -/
theorem bthen {x y z : World} (h : Below x.heap.size x y) (k : Below y.heap.size y z) : Below x.heap.size x z := h.trans (k.mono h.size)
theorem balloc (w : World) (o : Obj) : Below w.heap.size w (w.alloc o) := (Below.refl _ _).alloc (Nat.le_refl _) _
theorem bdrewN {B : Nat} {a w : World} (h : Below B a w) (n : Nat) : Below B a (w.drewN n) := h.trans ⟨rfl, rfl, rfl, Nat.le_refl _, fun _ _ => rfl⟩
theorem bset {B : Nat} {a w : World} (h : Below B a w) {b o : Nat} (hp : B ≤ b) (u : Value) : Below B a (w.setCell ⟨b, o, none⟩ u) := h.setCell (p := ⟨b, o, none⟩) hp u
theorem same_below {P : Program} {f : FuncId} {args : Array Value} {w : World} {e : Ending} (h : Calls P f args w fun e' w' => e' = e ∧ w = w') : Calls P f args w fun e' w' => e' = e ∧ Below w.heap.size w w' :=
  h.mono fun _ _ ⟨h1, h2⟩ => ⟨h1, h2 ▸ Below.refl _ _⟩

/-- only block b of what was there may have changed -/
structure Touch (b : Nat) (w w' : World) : Prop where
  os : w'.os = w.os
  tape : w'.tape = w.tape
  output : w'.output = w.output
  size : w.heap.size ≤ w'.heap.size
  block : ∀ k, k < w.heap.size → k ≠ b → w'.heap[k]? = w.heap[k]?

theorem Touch.refl (b : Nat) (w : World) : Touch b w w := ⟨rfl, rfl, rfl, Nat.le_refl _, fun _ _ _ => rfl⟩
theorem Touch.trans {b : Nat} {x y z : World} (h : Touch b x y) (k : Touch b y z) : Touch b x z :=
  ⟨k.os.trans h.os, k.tape.trans h.tape, k.output.trans h.output, Nat.le_trans h.size k.size, fun i hi hn => (k.block i (Nat.lt_of_lt_of_le hi h.size) hn).trans (h.block i hi hn)⟩
theorem Touch.of_below {b : Nat} {w w' : World} (h : Below w.heap.size w w') : Touch b w w' := ⟨h.os, h.tape, h.output, h.size, fun k hk _ => h.block k hk⟩
theorem Touch.below {b : Nat} {x y z : World} (h : Touch b x y) (k : Below y.heap.size y z) : Touch b x z := h.trans (Touch.of_below k)
theorem Touch.drew {b : Nat} {a w : World} (h : Touch b a w) : Touch b a w.drew := ⟨h.os, h.tape, h.output, h.size, h.block⟩
theorem Touch.drewN {b : Nat} {a w : World} (h : Touch b a w) (n : Nat) : Touch b a (w.drewN n) := h.trans ⟨rfl, rfl, rfl, Nat.le_refl _, fun _ _ _ => rfl⟩
theorem Touch.setCell {b : Nat} {a w : World} (h : Touch b a w) (o : Nat) (u : Value) : Touch b a (w.setCell ⟨b, o, none⟩ u) :=
  h.trans ⟨rfl, rfl, rfl, by simp [World.setCell], fun k _ hn => Below.heap_setCell _ _ _ _ hn⟩
theorem Touch.alloc {b : Nat} {a w : World} (h : Touch b a w) (o : Obj) : Touch b a (w.alloc o) :=
  h.trans ⟨rfl, rfl, rfl, by simp, fun k hk _ => Below.heap_alloc _ _ _ hk⟩
/-- a store into a block of the call's own -/
theorem Touch.setNew {b : Nat} {a w : World} (h : Touch b a w) {k : Nat} (hk : a.heap.size ≤ k) (o : Nat) (u : Value) : Touch b a (w.setCell ⟨k, o, none⟩ u) :=
  ⟨h.os, h.tape, h.output, by simpa [World.setCell] using h.size, fun i hi hn => (Below.heap_setCell _ _ _ _ (show i ≠ (⟨k, o, none⟩ : Addr).block by simp only; omega)).trans (h.block i hi hn)⟩
theorem Touch.to_below {b B : Nat} {x y : World} (h : Touch b x y) (hB : B ≤ x.heap.size) (hb : B ≤ b) : Below B x y := ⟨h.os, h.tape, h.output, h.size, fun k hk => h.block k (by omega) (by omega)⟩
theorem tcell {b : Nat} {W w1 : World} (hb : Touch b W w1) : (∀ k o, k < W.heap.size → k ≠ b → w1.cell? ⟨k, o, none⟩ = W.cell? ⟨k, o, none⟩) ∧ (∀ k o, k < W.heap.size → k ≠ b → w1.frozen? ⟨k, o, none⟩ = W.frozen? ⟨k, o, none⟩) :=
  ⟨fun k o h hn => World.cell?_of_block (w := W) (a := ⟨k, o, none⟩) (hb.block k h hn), fun k o h hn => World.frozen?_of_block (w := W) (a := ⟨k, o, none⟩) (hb.block k h hn)⟩

/-- block b holds these cells -/
def Blk (w : World) (b : Nat) (cs : Array Value) (t : TypeId) : Prop := w.heap[b]? = some (.cells cs t (0, 0))
theorem Blk.lt {w : World} {b : Nat} {cs : Array Value} {t : TypeId} (h : Blk w b cs t) : b < w.heap.size := lt_of_block h
theorem Blk.cell {w : World} {b : Nat} {cs : Array Value} {t : TypeId} (h : Blk w b cs t) (o : Nat) {v : Value} (hv : cs[o]? = some v) : w.cell? ⟨b, o, none⟩ = some v := by
  unfold Blk at h; simp [World.cell?, h, hv]
theorem Blk.free {w : World} {b : Nat} {cs : Array Value} {t : TypeId} (h : Blk w b cs t) (o : Nat) : w.frozen? ⟨b, o, none⟩ = false := by
  unfold Blk at h; simp [World.frozen?, h]
theorem Blk.below {B : Nat} {w w' : World} {b : Nat} {cs : Array Value} {t : TypeId} (h : Blk w b cs t) (hb : Below B w w') (hB : b < B) : Blk w' b cs t := (hb.block b hB).trans h
theorem Blk.ext {w w' : World} {b : Nat} {cs : Array Value} {t : TypeId} (h : Blk w b cs t) (hb : Below w.heap.size w w') : Blk w' b cs t := h.below hb h.lt
theorem Blk.touch {k : Nat} {w w' : World} {b : Nat} {cs : Array Value} {t : TypeId} (h : Blk w b cs t) (hb : Touch k w w') (hn : b ≠ k) : Blk w' b cs t := (hb.block b h.lt hn).trans h
theorem Blk.drew {w : World} {b : Nat} {cs : Array Value} {t : TypeId} (h : Blk w b cs t) : Blk w.drew b cs t := h
theorem Blk.drewN {w : World} {b : Nat} {cs : Array Value} {t : TypeId} (h : Blk w b cs t) (n : Nat) : Blk (w.drewN n) b cs t := h
theorem Blk.alloc {w : World} {b : Nat} {cs : Array Value} {t : TypeId} (h : Blk w b cs t) (o : Obj) : Blk (w.alloc o) b cs t := (Below.heap_alloc _ _ _ h.lt).trans h
theorem Blk.new (w : World) (cs : Array Value) (t : TypeId) : Blk (w.alloc (.cells cs t)) w.heap.size cs t := heap_alloc_new w _
theorem Blk.newAt {w : World} {k : Nat} (h : k = w.heap.size) (cs : Array Value) (t : TypeId) : Blk (w.alloc (.cells cs t)) k cs t := h ▸ Blk.new w cs t
theorem Blk.set {w : World} {b : Nat} {cs : Array Value} {t : TypeId} (h : Blk w b cs t) (o : Nat) (u : Value) : Blk (w.setCell ⟨b, o, none⟩ u) b (cs.setIfInBounds o u) t := by
  have hlt := h.lt
  unfold Blk at *
  have h' : w.heap[b] = .cells cs t (0, 0) := by simpa [Array.getElem?_eq_getElem hlt] using h
  show (w.heap.modify b _)[b]? = _
  rw [Array.getElem?_eq_getElem (by simpa using hlt), Array.getElem_modify_self, h']
  simp
theorem Blk.setOther {w : World} {b : Nat} {cs : Array Value} {t : TypeId} (h : Blk w b cs t) {k : Nat} (hk : b ≠ k) (o : Nat) (u : Value) : Blk (w.setCell ⟨k, o, none⟩ u) b cs t :=
  (Below.heap_setCell _ _ _ _ hk).trans h

theorem Blk.setOther_iff {w : World} {b : Nat} {cs : Array Value} {t : TypeId} {k : Nat} (hk : b ≠ k) (o : Nat) (u : Value) : Blk (w.setCell ⟨k, o, none⟩ u) b cs t ↔ Blk w b cs t := by
  unfold Blk; rw [Below.heap_setCell _ _ _ _ hk]
theorem Touch.setNew_iff {b : Nat} {a w : World} {k : Nat} (hk : a.heap.size ≤ k) (o : Nat) (u : Value) : Touch b a (w.setCell ⟨k, o, none⟩ u) ↔ Touch b a w :=
  ⟨fun h => ⟨h.os, h.tape, h.output, by simpa [World.setCell] using h.size, fun i hi hn => (Below.heap_setCell _ _ _ _ (show i ≠ (⟨k, o, none⟩ : Addr).block by simp only; omega)).symm.trans (h.block i hi hn)⟩, fun h => h.setNew hk o u⟩
theorem below_setNew_iff {B : Nat} {a w : World} {k : Nat} (hk : B ≤ k) (o : Nat) (u : Value) : Below B a (w.setCell ⟨k, o, none⟩ u) ↔ Below B a w :=
  ⟨fun h => ⟨h.os, h.tape, h.output, by simpa [World.setCell] using h.size, fun i hi => (Below.heap_setCell _ _ _ _ (show i ≠ (⟨k, o, none⟩ : Addr).block by simp only; omega)).symm.trans (h.block i hi)⟩, fun h => bset h hk u⟩
theorem Touch.drew_iff {b : Nat} {a w : World} : Touch b a w.drew ↔ Touch b a w := ⟨fun h => ⟨h.os, h.tape, h.output, h.size, h.block⟩, Touch.drew⟩
theorem Touch.drewN_iff {b : Nat} {a w : World} (n : Nat) : Touch b a (w.drewN n) ↔ Touch b a w := ⟨fun h => ⟨h.os, h.tape, h.output, h.size, h.block⟩, fun h => h.drewN n⟩
theorem below_drew_iff {B : Nat} {a w : World} : Below B a w.drew ↔ Below B a w := ⟨fun h => ⟨h.os, h.tape, h.output, h.size, h.block⟩, Below.drew⟩
theorem below_drewN_iff {B : Nat} {a w : World} (n : Nat) : Below B a (w.drewN n) ↔ Below B a w := ⟨fun h => ⟨h.os, h.tape, h.output, h.size, h.block⟩, fun h => bdrewN h n⟩
theorem Blk.drew_iff {w : World} {b : Nat} {cs : Array Value} {t : TypeId} : Blk w.drew b cs t ↔ Blk w b cs t := Iff.rfl
theorem Blk.drewN_iff {w : World} {b : Nat} {cs : Array Value} {t : TypeId} (n : Nat) : Blk (w.drewN n) b cs t ↔ Blk w b cs t := Iff.rfl

/-- what the walk wants of a block of one, two, .. cells: each cell, each mark -/
theorem Blk.two {w : World} {b : Nat} {x y : Value} {t : TypeId} (h : Blk w b #[x, y] t) : w.cell? ⟨b, 0, none⟩ = some x ∧ w.cell? ⟨b, 1, none⟩ = some y ∧ (∀ o, w.frozen? ⟨b, o, none⟩ = false) ∧ b < w.heap.size :=
  ⟨h.cell 0 rfl, h.cell 1 rfl, h.free, h.lt⟩
theorem Blk.one {w : World} {b : Nat} {x : Value} {t : TypeId} (h : Blk w b #[x] t) : w.cell? ⟨b, 0, none⟩ = some x ∧ (∀ o, w.frozen? ⟨b, o, none⟩ = false) ∧ b < w.heap.size :=
  ⟨h.cell 0 rfl, h.free, h.lt⟩
theorem Blk.three {w : World} {b : Nat} {x y z : Value} {t : TypeId} (h : Blk w b #[x, y, z] t) : w.cell? ⟨b, 0, none⟩ = some x ∧ w.cell? ⟨b, 1, none⟩ = some y ∧ w.cell? ⟨b, 2, none⟩ = some z ∧ (∀ o, w.frozen? ⟨b, o, none⟩ = false) ∧ b < w.heap.size :=
  ⟨h.cell 0 rfl, h.cell 1 rfl, h.cell 2 rfl, h.free, h.lt⟩
theorem Blk.five {w : World} {b : Nat} {x y z u v : Value} {t : TypeId} (h : Blk w b #[x, y, z, u, v] t) : w.cell? ⟨b, 0, none⟩ = some x ∧ w.cell? ⟨b, 1, none⟩ = some y ∧ w.cell? ⟨b, 2, none⟩ = some z ∧ w.cell? ⟨b, 3, none⟩ = some u ∧ w.cell? ⟨b, 4, none⟩ = some v ∧ (∀ o, w.frozen? ⟨b, o, none⟩ = false) ∧ b < w.heap.size :=
  ⟨h.cell 0 rfl, h.cell 1 rfl, h.cell 2 rfl, h.cell 3 rfl, h.cell 4 rfl, h.free, h.lt⟩

/-- a slice value that reads as n elements of so many cells -/
def Row (w : World) (v : Value) (n size : Nat) (xs : List Value) : Prop :=
  xs.length = n * size ∧ ((v = .slice none 0 0 ∧ n = 0) ∨
    ∃ g off cap, v = .slice (some ⟨g, off, none⟩) n cap ∧ n ≤ cap ∧ g < w.heap.size ∧ ∀ j u, xs[j]? = some u → w.cell? ⟨g, off + j, none⟩ = some u)
theorem Row.nil (w : World) (size : Nat) : Row w (.slice none 0 0) 0 size [] := ⟨by simp, .inl ⟨rfl, rfl⟩⟩
theorem Row.below {w w' : World} {v : Value} {n size : Nat} {xs : List Value} {B : Nat} (h : Row w v n size xs) (hb : Below B w w') (hB : w.heap.size ≤ B) : Row w' v n size xs := by
  refine ⟨h.1, ?_⟩
  rcases h.2 with h2 | ⟨g, off, cap, hv, hn, hg, hc⟩
  · exact .inl h2
  · exact .inr ⟨g, off, cap, hv, hn, Nat.lt_of_lt_of_le hg hb.size, fun j u hj => (hb.cell (p := ⟨g, off + j, none⟩) (by simp only; omega)).trans (hc j u hj)⟩
theorem Row.ext {w w' : World} {v : Value} {n size : Nat} {xs : List Value} (h : Row w v n size xs) (hb : Below w.heap.size w w') : Row w' v n size xs := h.below hb (Nat.le_refl _)
theorem Row.touch {w w' : World} {v : Value} {n size : Nat} {xs : List Value} {b : Nat} (h : Row w v n size xs) (hb : Touch b w w') (hne : v.ownBlock ≠ some b) : Row w' v n size xs := by
  refine ⟨h.1, ?_⟩
  rcases h.2 with h2 | ⟨g, off, cap, hv, hn, hg, hc⟩
  · exact .inl h2
  · subst hv
    exact .inr ⟨g, off, cap, rfl, hn, Nat.lt_of_lt_of_le hg hb.size, fun j u hj => (World.cell?_of_block (w := w) (a := ⟨g, off + j, none⟩) (hb.block g hg (fun e => hne (by simp [Value.ownBlock, e])))).trans (hc j u hj)⟩
theorem Row.of_owns {w : World} {base : Nat} {e : TypeId} {size : Nat} {v : Value} {n : Nat} {xs : List Value} (h : w.ownsRow base e size v n xs) : Row w v n size xs := by
  refine ⟨h.1, ?_⟩
  rcases h.2 with h2 | ⟨g, cap, cur, hv, hb, hg, hn, hm, hs, ht⟩
  · exact .inl h2
  · refine .inr ⟨g, 0, cap, hv, hn, lt_of_block hg, fun j u hj => ?_⟩
    rw [Nat.zero_add, cell_of_row w g j cur e (0, 0) hg]
    rw [← ht, List.getElem?_take] at hj
    split at hj
    · simpa using hj
    · cases hj
theorem Row.empty {w : World} {k : Nat} (hk : k < w.heap.size) (size : Nat) : Row w (.slice (some ⟨k, 0, none⟩) 0 0) 0 size [] :=
  ⟨by simp, .inr ⟨k, 0, 0, rfl, Nat.le_refl _, hk, fun j u h => by simp at h⟩⟩
/-- an owned row while another block is written, whatever comes behind -/
theorem owns_touch {w w' : World} {base : Nat} {e : TypeId} {size : Nat} {v : Value} {n : Nat} {xs : List Value} {b : Nat} (h : w.ownsRow base e size v n xs) (hb : Touch b w w') (hlt : b < base) : w'.ownsRow base e size v n xs := by
  refine ⟨h.1, ?_⟩
  rcases h.2 with h2 | ⟨g, cap, cur, hv, hbb, hg, r⟩
  · exact .inl h2
  · exact .inr ⟨g, cap, cur, hv, hbb, (hb.block g (lt_of_block hg) (by omega)).trans hg, r⟩
theorem owns_ext {w w' : World} {base : Nat} {e : TypeId} {size : Nat} {v : Value} {n : Nat} {xs : List Value} (h : w.ownsRow base e size v n xs) (hb : Below w.heap.size w w') : w'.ownsRow base e size v n xs := by
  refine ⟨h.1, ?_⟩
  rcases h.2 with h2 | ⟨g, cap, cur, hv, hbb, hg, r⟩
  · exact .inl h2
  · exact .inr ⟨g, cap, cur, hv, hbb, (hb.block g (lt_of_block hg)).trans hg, r⟩
/-- behind an append to the call's own row: all else is as it was -/
theorem Blk.grown {w w' : World} {row : Option Nat} {b : Nat} {cs : Array Value} {t : TypeId} (h : Blk w b cs t) (hg : w.grownBy w' row) (hn : row ≠ some b) : Blk w' b cs t := (hg.block b h.lt (Ne.symm hn)).trans h
theorem own_ne {w : World} {base : Nat} {e : TypeId} {size : Nat} {v : Value} {n : Nat} {xs : List Value} (h : w.ownsRow base e size v n xs) {b : Nat} (hb : b < base) : v.ownBlock ≠ some b := fun e => by
  have := (h.lt b e).1; omega
theorem Touch.grown {b : Nat} {x y z : World} {row : Option Nat} (h : Touch b x y) (hg : y.grownBy z row) (hr : ∀ k, row = some k → x.heap.size ≤ k) : Touch b x z :=
  ⟨hg.os.trans h.os, hg.tape.trans h.tape, hg.output.trans h.output, Nat.le_trans h.size hg.size, fun k hk hn =>
    (hg.block k (Nat.lt_of_lt_of_le hk h.size) (fun e => by have := hr k e.symm; omega)).trans (h.block k hk hn)⟩

/-- the cells of a block that has just been laid -/
theorem cells_new (w : World) (cs : List Value) (t : TypeId) {k : Nat} (hk : k = w.heap.size) : ∀ j u, cs[j]? = some u → (w.alloc (.cells cs.toArray t)).cell? ((⟨k, 0, none⟩ : Addr).add j) = some u := by
  intro j u hj
  have hadd : (⟨k, 0, none⟩ : Addr).add j = ⟨k, j, none⟩ := by unfold Addr.add; split <;> simp_all
  rw [hadd]
  exact (Blk.newAt hk cs.toArray t).cell j (by simpa using hj)

end Go.Proofs.YteddkgpnklfppaaGreatDoor

namespace Go.Proofs.YteddkgpnklfppaaGreatDoor.Lx

abbrev Bytes := List UInt8

def letter (c : UInt8) : Bool := decide (97 ≤ c) && decide (c ≤ 122)
def digit (c : UInt8) : Bool := decide (48 ≤ c) && decide (c ≤ 57)
def inner (c : UInt8) : Bool := letter c || digit c || c == 45
def blank (c : UInt8) : Bool := c == 32 || c == 10

/-- role label region allow cap cloak any all tier in zoom -/
def words : List Bytes := [[114, 111, 108, 101], [108, 97, 98, 101, 108], [114, 101, 103, 105, 111, 110], [97, 108, 108, 111, 119], [99, 97, 112],
  [99, 108, 111, 97, 107], [97, 110, 121], [97, 108, 108], [116, 105, 101, 114], [105, 110], [122, 111, 111, 109]]
def isWord (s : Bytes) : Bool := words.contains s

/-- A name, as a whole. -/
def isName (s : Bytes) : Bool :=
  match s with
  | [] => false
  | c :: _ => decide (s.length ≤ 16) && letter c && s.all inner && !isWord s

structure Tok where
  kind : Nat
  text : Bytes
  n : Nat
  line : Nat
  col : Nat
  deriving DecidableEq, Repr

/-- a place: line, column -/
def adv (p : Nat × Nat) (c : UInt8) : Nat × Nat := if c = 10 then (p.1 + 1, 1) else (p.1, p.2 + 1)
def posOf (l : Bytes) : Nat × Nat := l.foldl adv (1, 1)

/-- how many bytes stand ahead of the next token; the Bool: in a remark -/
def skipN : Bool → Bytes → Nat
  | _, [] => 0
  | true, c :: l => 1 + skipN (c != 10) l
  | false, c :: l => if c == 35 then 1 + skipN true l else if blank c then 1 + skipN false l else 0

def numAcc (n : Nat) (l : Bytes) : Nat := l.foldl (fun n c => 10 * n + (c.toNat - 48)) n
/-- digits' number -/
def number (w : Bytes) : Option Nat :=
  if (1 < w.length ∧ w.head? = some 48) ∨ 65535 < numAcc 0 w then none else some (numAcc 0 w)

/-- the token at the beginning: kind, text, number; or the error -/
def tok : Bytes → Except Nat (Nat × Bytes × Nat)
  | [] => .error 30
  | c :: l =>
    if letter c then
      let w := (c :: l).takeWhile inner
      if 16 < w.length then .error 2 else .ok (if isWord w then 2 else 1, w, 0)
    else if digit c then
      let w := (c :: l).takeWhile digit
      match number w with
      | none => .error 10
      | some n => .ok (3, w, n)
    else if c = 61 ∨ c = 43 ∨ c = 59 then .ok (4, [c], 0)
    else if c = 46 ∧ l.head? = some 46 then .ok (4, [46, 46], 0)
    else .error 30

abbrev Fault := Nat × Nat × Nat
def mkFault (e : Nat) (p : Nat × Nat) : Fault := (e, p.1, p.2)

def toks (L : Bytes) : Nat → Nat → Except Fault (List Tok)
  | 0, _ => .ok []
  | f + 1, i =>
    let a := i + skipN false (L.drop i)
    if L.length ≤ a then .ok []
    else match tok (L.drop a) with
      | .error e => .error (mkFault e (posOf (L.take a)))
      | .ok (k, w, n) => (toks L f (a + w.length)).map (⟨k, w, n, (posOf (L.take a)).1, (posOf (L.take a)).2⟩ :: ·)

/-- a text's tokens -/
def tokens (L : Bytes) : Except Fault (List Tok) :=
  if 512 < L.length then .error (2, 1, 1) else toks L (L.length + 1) 0


/-! ### laws for the walks -/

def hdIs (p : UInt8 → Bool) (l : Bytes) : Bool := match l with | [] => false | c :: _ => p c
def runN (p : UInt8 → Bool) (l : Bytes) : Nat := (l.takeWhile p).length

theorem drop_cons {L : Bytes} {i : Nat} (h : i < L.length) : L.drop i = L[i] :: L.drop (i + 1) := List.drop_eq_getElem_cons h
theorem hdIs_lt {p : UInt8 → Bool} {L : Bytes} {i : Nat} (h : i < L.length) : hdIs p (L.drop i) = p L[i] := by rw [drop_cons h]; rfl
theorem hdIs_ge {p : UInt8 → Bool} {L : Bytes} {i : Nat} (h : L.length ≤ i) : hdIs p (L.drop i) = false := by rw [List.drop_eq_nil_of_le h]; rfl
theorem lt_of_hdIs {p : UInt8 → Bool} {L : Bytes} {i : Nat} (h : hdIs p (L.drop i) = true) : i < L.length := by
  rcases Nat.lt_or_ge i L.length with h' | h'
  · exact h'
  · rw [hdIs_ge h'] at h; cases h
theorem runN_stop {p : UInt8 → Bool} {l : Bytes} (h : hdIs p l = false) : runN p l = 0 := by
  cases l with
  | nil => rfl
  | cons c l => simp only [hdIs] at h; simp [runN, h]
theorem runN_step {p : UInt8 → Bool} {L : Bytes} {i : Nat} (h : hdIs p (L.drop i) = true) : runN p (L.drop i) = 1 + runN p (L.drop (i + 1)) := by
  have hl := lt_of_hdIs h
  rw [hdIs_lt hl] at h
  rw [drop_cons hl]
  unfold runN
  rw [List.takeWhile_cons_of_pos h, List.length_cons]
  omega
theorem runN_le (p : UInt8 → Bool) (l : Bytes) : runN p l ≤ l.length := by
  unfold runN
  exact (List.takeWhile_prefix p).length_le
theorem posOf_succ {L : Bytes} {i : Nat} (h : i < L.length) : posOf (L.take (i + 1)) = adv (posOf (L.take i)) L[i] := by
  unfold posOf
  rw [List.take_succ_eq_append_getElem h, List.foldl_append]
  rfl
theorem posOf_go (l : Bytes) : ∀ (p : Nat × Nat) (n : Nat), 1 ≤ p.1 → p.1 ≤ n + 1 → p.2 ≤ n + 1 → 1 ≤ (l.foldl adv p).1 ∧ (l.foldl adv p).1 ≤ n + l.length + 1 ∧ (l.foldl adv p).2 ≤ n + l.length + 1 := by
  induction l with
  | nil => intro p n _ h1 h2; simp; omega
  | cons c l ih =>
    intro p n h0 h1 h2
    have := ih (adv p c) (n + 1) (by unfold adv; split <;> simp <;> omega) (by unfold adv; split <;> simp <;> omega) (by unfold adv; split <;> simp <;> omega)
    simp only [List.foldl_cons, List.length_cons]
    omega
theorem posOf_le (l : Bytes) : 1 ≤ (posOf l).1 ∧ (posOf l).1 ≤ l.length + 1 ∧ (posOf l).2 ≤ l.length + 1 := by
  have := posOf_go l (1, 1) 0 (by simp) (by simp) (by simp)
  unfold posOf
  omega

theorem skipN_le : ∀ (b : Bool) (l : Bytes), skipN b l ≤ l.length
  | _, [] => by simp [skipN]
  | true, c :: l => by have := skipN_le (c != 10) l; simp only [skipN, List.length_cons]; omega
  | false, c :: l => by
    have h1 := skipN_le true l
    have h2 := skipN_le false l
    simp only [skipN, List.length_cons]
    split
    · omega
    · split <;> omega
/-- a row of blanks first -/
theorem skipN_blanks : ∀ (l : Bytes), skipN false l = runN blank l + skipN false (l.drop (runN blank l))
  | [] => by simp [skipN, runN]
  | c :: l => by
    by_cases hb : blank c = true
    · have h35 : (c == 35) = false := by
        simp only [blank, Bool.or_eq_true, beq_iff_eq] at hb
        rcases hb with rfl | rfl <;> rfl
      have e1 : runN blank (c :: l) = runN blank l + 1 := by simp [runN, hb]
      rw [e1, List.drop_succ_cons]
      simp only [skipN, h35, hb, if_true, Bool.false_eq_true, if_false]
      have := skipN_blanks l
      omega
    · have e1 : runN blank (c :: l) = 0 := by simp [runN, hb]
      rw [e1]; simp
def not10 (c : UInt8) : Bool := c != 10
theorem skipN_true : ∀ (l : Bytes), skipN true l = runN not10 l + (if (l.drop (runN not10 l)).isEmpty then 0 else 1 + skipN false (l.drop (runN not10 l + 1)))
  | [] => by simp [skipN, runN]
  | c :: l => by
    by_cases hb : not10 c = true
    · have e1 : runN not10 (c :: l) = runN not10 l + 1 := by simp [runN, hb]
      have := skipN_true l
      have e2 : (c != 10) = true := hb
      rw [e1, List.drop_succ_cons, List.drop_succ_cons]
      simp only [skipN, e2]
      omega
    · have e1 : runN not10 (c :: l) = 0 := by simp [runN, hb]
      have e2 : (c != 10) = false := by simpa [not10] using hb
      rw [e1]
      simp [skipN, e2]
/-- a remark: what the program's loop does -/
theorem skipN_remark {l : Bytes} (h : hdIs (· == 35) l = true) : skipN false l = runN not10 l + skipN false (l.drop (runN not10 l)) := by
  cases l with
  | nil => cases h
  | cons c l =>
    simp only [hdIs, beq_iff_eq] at h
    subst h
    have e1 : runN not10 (35 :: l) = runN not10 l + 1 := by unfold runN; rw [List.takeWhile_cons_of_pos (by rfl), List.length_cons]
    rw [e1, List.drop_succ_cons]
    have e3 : skipN false (35 :: l) = 1 + skipN true l := by simp [skipN]
    rw [e3, skipN_true l]
    by_cases he : (l.drop (runN not10 l)).isEmpty = true
    · rw [if_pos he]
      have he' : l.drop (runN not10 l) = [] := by simpa using he
      rw [he']; simp [skipN]; omega
    · rw [if_neg he]
      have hne : l.drop (runN not10 l) ≠ [] := by simpa using he
      have hlt : runN not10 l < l.length := by
        rcases Nat.lt_or_ge (runN not10 l) l.length with h' | h'
        · exact h'
        · exact absurd (List.drop_eq_nil_of_le h') hne
      have hc : l[runN not10 l] = 10 := by
        have h2 := List.drop_eq_getElem_cons hlt
        have h3 : l.dropWhile not10 = l.drop (runN not10 l) := by
          have := List.takeWhile_append_dropWhile (p := not10) (l := l)
          have h4 := congrArg (List.drop (runN not10 l)) this
          simp only [runN, List.drop_left] at h4
          exact h4
        have h5 := List.head?_dropWhile_not not10 l
        rw [h3, h2] at h5
        simp only [List.head?_cons, not10] at h5
        simpa using h5
      rw [List.drop_eq_getElem_cons hlt, hc]
      have e4 : skipN false (10 :: l.drop (runN not10 l + 1)) = 1 + skipN false (l.drop (runN not10 l + 1)) := by simp [skipN, blank]
      rw [e4]; omega
theorem skipN_stop {l : Bytes} (h : hdIs blank l = false) (h' : hdIs (· == 35) l = false) : skipN false l = 0 := by
  cases l with
  | nil => rfl
  | cons c l => simp only [hdIs] at h h'; simp [skipN, h, h']
theorem hdIs_drop_runN (p : UInt8 → Bool) (l : Bytes) : hdIs p (l.drop (runN p l)) = false := by
  induction l with
  | nil => rfl
  | cons c l ih =>
    by_cases hb : p c = true
    · have e1 : runN p (c :: l) = runN p l + 1 := by simp [runN, hb]
      rw [e1, List.drop_succ_cons]; exact ih
    · have e1 : runN p (c :: l) = 0 := by simp [runN, hb]
      rw [e1]; simpa [hdIs] using hb

def numRet (L : Bytes) : Nat := if 1 < L.length ∧ L.head? = some 48 then 0 else min 65536 (numAcc 0 L)
theorem number_ok {L : Bytes} (h : ¬ (1 < L.length ∧ L.head? = some 48)) : (number L).isSome = decide (min 65536 (numAcc 0 L) ≤ 65535) := by
  unfold number
  by_cases h2 : 65535 < numAcc 0 L
  · rw [if_pos (Or.inr h2), decide_eq_false (by omega)]; rfl
  · rw [if_neg (by intro h3; rcases h3 with h3 | h3 <;> contradiction), decide_eq_true (by omega)]; rfl
theorem number_some {L : Bytes} {n : Nat} (h : number L = some n) : numRet L = n := by
  unfold number at h
  split at h
  · cases h
  · rename_i h2
    have h3 : ¬ (1 < L.length ∧ L.head? = some 48) := fun x => h2 (Or.inl x)
    have h4 : ¬ 65535 < numAcc 0 L := fun x => h2 (Or.inr x)
    unfold numRet
    rw [if_neg h3]
    have := Option.some.inj h
    omega
theorem numAcc_succ {L : Bytes} {k : Nat} (h : k < L.length) : numAcc 0 (L.take (k + 1)) = 10 * numAcc 0 (L.take k) + (L[k].toNat - 48) := by
  unfold numAcc
  rw [List.take_succ_eq_append_getElem h, List.foldl_append]
  rfl

theorem toks_end {L : Bytes} {f i : Nat} (hf : 0 < f) (h : L.length ≤ i + skipN false (L.drop i)) : toks L f i = .ok [] := by
  cases f with
  | zero => omega
  | succ f => simp only [toks]; rw [if_pos h]
theorem toks_err {L : Bytes} {f i er : Nat} (hf : 0 < f) (h : i + skipN false (L.drop i) < L.length) (ht : tok (L.drop (i + skipN false (L.drop i))) = .error er) :
    toks L f i = .error (mkFault er (posOf (L.take (i + skipN false (L.drop i))))) := by
  cases f with
  | zero => omega
  | succ f => simp only [toks]; rw [if_neg (by omega), ht]
def tokAt (L : Bytes) (a k : Nat) (t : Bytes) (n : Nat) : Tok := ⟨k, t, n, (posOf (L.take a)).1, (posOf (L.take a)).2⟩
theorem toks_ok {L : Bytes} {f i k n : Nat} {t : Bytes} (h : i + skipN false (L.drop i) < L.length) (ht : tok (L.drop (i + skipN false (L.drop i))) = .ok (k, t, n)) :
    toks L (f + 1) i = (toks L f (i + skipN false (L.drop i) + t.length)).map (tokAt L (i + skipN false (L.drop i)) k t n :: ·) := by
  simp only [toks]; rw [if_neg (by omega), ht]; rfl
theorem tok_pos {l : Bytes} {k n : Nat} {t : Bytes} (h : tok l = .ok (k, t, n)) : 0 < t.length := by
  unfold tok at h
  split at h
  · cases h
  · rename_i c l
    split at h
    · rename_i hl
      simp only at h
      split at h
      · cases h
      · have := Except.ok.inj h
        simp only [Prod.mk.injEq] at this
        rw [← this.2.1, List.takeWhile_cons_of_pos (by simp [inner, hl])]
        simp
    · split at h
      · rename_i hl
        simp only at h
        split at h
        · cases h
        · have := Except.ok.inj h
          simp only [Prod.mk.injEq] at this
          rw [← this.2.1, List.takeWhile_cons_of_pos hl]
          simp
      · split at h
        · have := Except.ok.inj h
          simp only [Prod.mk.injEq] at this
          rw [← this.2.1]; simp
        · split at h
          · have := Except.ok.inj h
            simp only [Prod.mk.injEq] at this
            rw [← this.2.1]; simp
          · cases h

end Go.Proofs.YteddkgpnklfppaaGreatDoor.Lx

namespace Go.Proofs.YteddkgpnklfppaaGreatDoor
open Go.RowKit Go.Sort

theorem u8_le (k : UInt8) (n : Int) (h : (k.toNat : Int) = n) (c : UInt8) : decide (k ≤ c) = decide (n ≤ c.toNat) := by
  subst h
  simp only [UInt8.le_iff_toNat_le, Int.ofNat_le]
theorem u8_ge (k : UInt8) (n : Int) (h : (k.toNat : Int) = n) (c : UInt8) : decide (c ≤ k) = decide ((c.toNat : Int) ≤ n) := by
  subst h
  simp only [UInt8.le_iff_toNat_le, Int.ofNat_le]
theorem u8_eq (k : UInt8) (n : Int) (h : (k.toNat : Int) = n) (c : UInt8) : (c == k) = ((c.toNat : Int) == n) := by
  subst h
  by_cases h' : c = k
  · subst h'; simp
  · have : c.toNat ≠ k.toNat := fun e => h' (UInt8.toNat_inj.1 e)
    rw [beq_eq_false_iff_ne.2 h', beq_eq_false_iff_ne.2 (by omega)]
theorem letter_eq (c : UInt8) : Lx.letter c = (decide ((97 : Int) ≤ c.toNat) && decide ((c.toNat : Int) ≤ 122)) := by
  unfold Lx.letter; rw [u8_le 97 97 rfl, u8_ge 122 122 rfl]
theorem digit_eq (c : UInt8) : Lx.digit c = (decide ((48 : Int) ≤ c.toNat) && decide ((c.toNat : Int) ≤ 57)) := by
  unfold Lx.digit; rw [u8_le 48 48 rfl, u8_ge 57 57 rfl]
theorem blank_eq (c : UInt8) : Lx.blank c = (((c.toNat : Int) == 32) || ((c.toNat : Int) == 10)) := by
  unfold Lx.blank; rw [u8_eq 32 32 rfl, u8_eq 10 10 rfl]

theorem letter_any (c : UInt8) (w : World) : Calls Tryz.prog 83 #[.int .u8 c.toNat] w fun e w' => e = .returned (.bool (Lx.letter c)) ∧ w = w' := by
  rw [letter_eq]
  go_enter Tryz.func83, Tryz.ntmps83
  go_wp2
  all_goals (go_ret; exact ⟨ret_bool (by first | rfl | (rw [Bool.eq_iff_iff]; simp; done) | (rw [Bool.eq_iff_iff]; simp; omega)), rfl⟩)
theorem digit_any (c : UInt8) (w : World) : Calls Tryz.prog 85 #[.int .u8 c.toNat] w fun e w' => e = .returned (.bool (Lx.digit c)) ∧ w = w' := by
  rw [digit_eq]
  go_enter Tryz.func85, Tryz.ntmps85
  go_wp2
  all_goals (go_ret; exact ⟨ret_bool (by first | rfl | (rw [Bool.eq_iff_iff]; simp; done) | (rw [Bool.eq_iff_iff]; simp; omega)), rfl⟩)
theorem blank_any (c : UInt8) (w : World) : Calls Tryz.prog 78 #[.int .u8 c.toNat] w fun e w' => e = .returned (.bool (Lx.blank c)) ∧ w = w' := by
  rw [blank_eq]
  go_enter Tryz.func78, Tryz.ntmps78
  go_wp2
  all_goals (go_ret; exact ⟨ret_bool (by first | rfl | (rw [Bool.eq_iff_iff]; simp; done) | (rw [Bool.eq_iff_iff]; simp; omega)), rfl⟩)
theorem is35_any (c : UInt8) (w : World) : Calls Tryz.prog 80 #[.int .u8 c.toNat] w fun e w' => e = .returned (.bool (c == 35)) ∧ w = w' := by
  rw [u8_eq 35 35 rfl]
  go_enter Tryz.func80, Tryz.ntmps80
  go_wp2
  all_goals (go_ret; exact ⟨rfl, rfl⟩)
theorem not10_any (c : UInt8) (w : World) : Calls Tryz.prog 81 #[.int .u8 c.toNat] w fun e w' => e = .returned (.bool (Lx.not10 c)) ∧ w = w' := by
  unfold Lx.not10
  rw [bne, u8_eq 10 10 rfl]
  go_enter Tryz.func81, Tryz.ntmps81
  go_wp2
  all_goals (go_ret; exact ⟨rfl, rfl⟩)
theorem all_any (c : UInt8) (w : World) : Calls Tryz.prog 50 #[.int .u8 c.toNat] w fun e w' => e = .returned (.bool ((fun _ => true) c)) ∧ w = w' := by
  go_enter Tryz.func50, Tryz.ntmps50
  go_wp2
  all_goals (go_ret; exact ⟨rfl, rfl⟩)
theorem inner_any (c : UInt8) (w : World) : Calls Tryz.prog 111 #[.int .u8 c.toNat] w fun e w' => e = .returned (.bool (Lx.inner c)) ∧ w = w' := by
  unfold Lx.inner
  rw [u8_eq 45 45 rfl]
  go_enter Tryz.func111, Tryz.ntmps111
  go_wp2_with (first | (go_at_call 83; refine (letter_any _ _).mono ?_; rintro e w' ⟨rfl, rfl⟩) | (go_at_call 85; refine (digit_any _ _).mono ?_; rintro e w' ⟨rfl, rfl⟩))
  all_goals (go_ret; exact ⟨ret_bool (by simp [*]), rfl⟩)

/-- the reader stands at byte i of s -/
def Rd (w : World) (b : Nat) (s : ByteArray) (i line col : Nat) : Prop := Blk w b #[.string s, .int .i64 i, .int .i64 line, .int .i64 col] 122
def RdP (w : World) (b : Nat) (s : ByteArray) (i : Nat) : Prop := Rd w b s i (Lx.posOf (s.data.toList.take i)).1 (Lx.posOf (s.data.toList.take i)).2

structure RdF (w : World) (b : Nat) (s : ByteArray) (i line col : Nat) : Prop where
  lt : b < w.heap.size
  c0 : w.cell? ⟨b, 0, none⟩ = some (.string s)
  c1 : w.cell? ⟨b, 1, none⟩ = some (.int .i64 i)
  c2 : w.cell? ⟨b, 2, none⟩ = some (.int .i64 line)
  c3 : w.cell? ⟨b, 3, none⟩ = some (.int .i64 col)
  f1 : w.frozen? ⟨b, 1, none⟩ = false
  f2 : w.frozen? ⟨b, 2, none⟩ = false
  f3 : w.frozen? ⟨b, 3, none⟩ = false
theorem Rd.f {w : World} {b : Nat} {s : ByteArray} {i line col : Nat} (h : Rd w b s i line col) : RdF w b s i line col :=
  ⟨Blk.lt h, Blk.cell h 0 rfl, Blk.cell h 1 rfl, Blk.cell h 2 rfl, Blk.cell h 3 rfl, Blk.free h 1, Blk.free h 2, Blk.free h 3⟩
theorem Rd.ext {w w' : World} {b : Nat} {s : ByteArray} {i line col : Nat} (h : Rd w b s i line col) (hb : Below w.heap.size w w') : Rd w' b s i line col := Blk.ext h hb
theorem RdP.ext {w w' : World} {b : Nat} {s : ByteArray} {i : Nat} (h : RdP w b s i) (hb : Below w.heap.size w w') : RdP w' b s i := Blk.ext h hb
theorem RdP.lt {w : World} {b : Nat} {s : ByteArray} {i : Nat} (h : RdP w b s i) : b < w.heap.size := Blk.lt h

theorem list_get (s : ByteArray) (i : Nat) (h : i < s.size) : s.data.toList[i]'(by simpa using h) = s[i] := rfl
theorem list_len (s : ByteArray) : s.data.toList.length = s.size := by simp

theorem step_any {b : Nat} {s : ByteArray} {i : Nat} {w : World} (hr : RdP w b s i) (hl : i < s.size) (hs : s.size ≤ 140737488355328) :
    Calls Tryz.prog 87 #[.pointer (some ⟨b, 0, none⟩)] w fun e w' => e = .returned (.tuple #[]) ∧ RdP w' b s (i + 1) ∧ Touch b w w' := by
  have hp := Lx.posOf_le (s.data.toList.take i)
  have ht : (s.data.toList.take i).length = i := by rw [List.length_take, list_len]; omega
  have hq := hid (Lx.posOf_succ (L := s.data.toList) (i := i) (by simpa using hl))
  rw [ht] at hp
  unfold RdP at hr ⊢
  generalize hg : Lx.posOf (s.data.toList.take i) = p at *
  obtain ⟨line, col⟩ := p
  simp only at hr hp
  clear hg ht
  have H := hid hr
  obtain ⟨hz, h0, h1, h2, h3, f1, f2, f3⟩ := hr.f
  clear hr
  go_enter Tryz.func87, Tryz.ntmps87
  go_wp2
  go_quiet (fail)
  go_wp2
  · have e : s[i] = 10 := by rename_i h; rw [← u8_eq 10 10 rfl] at h; simpa using h
    go_end0
    refine ⟨rfl, ?_, ((((Touch.refl b w).setCell 3 _).drewN nq).setCell 2 _ |>.setCell 3 _).setCell 1 _⟩
    rw [hq.out, list_get _ _ hl]
    simp only [Lx.adv, e, if_true]
    exact (((H.out.set 3 _).drewN nq).set 2 _ |>.set 3 _).set 1 _
  · have e : ¬ s[i] = 10 := by rename_i h; rw [← u8_eq 10 10 rfl] at h; simpa using h
    go_end0
    refine ⟨rfl, ?_, (((Touch.refl b w).setCell 3 _).drewN nq).setCell 1 _⟩
    rw [hq.out, list_get _ _ hl]
    simp only [Lx.adv, e, if_false]
    exact ((H.out.set 3 _).drewN nq).set 1 _

theorem place_any {b : Nat} {s : ByteArray} {i line col : Nat} {w : World} (hr : Rd w b s i line col) :
    Calls Tryz.prog 46 #[.pointer (some ⟨b, 0, none⟩)] w fun e w' => e = .returned (.agg #[.int .i64 line, .int .i64 col]) ∧ Below w.heap.size w w' := by
  obtain ⟨hz, h0, h1, h2, h3, f1, f2, f3⟩ := hr.f
  clear hr
  go_enter Tryz.func46, Tryz.ntmps46
  go_wp2
  go_region
  go_wp2
  exact bodyPost_ret (v := .agg #[.int .i64 line, .int .i64 col]) (by simp [results, Tryz.results46, go_sem]) rfl ⟨rfl, (balloc w _).drew⟩

/-- a contract of a function on bytes -/
structure Holds (g : Nat) (p : UInt8 → Bool) : Prop where
  enter : ∀ (args : Array Value) (w : World), Sem.run Tryz.prog (callFunc g args) w = .ok (.enter g args) w
  run : ∀ (c : UInt8) (w : World), Calls Tryz.prog g #[.int .u8 c.toNat] w fun e w' => e = .returned (.bool (p c)) ∧ w = w'
theorem holds_letter : Holds 83 Lx.letter := ⟨fun _ _ => by kernel_rfl, letter_any⟩
theorem holds_digit : Holds 85 Lx.digit := ⟨fun _ _ => by kernel_rfl, digit_any⟩
theorem holds_inner : Holds 111 Lx.inner := ⟨fun _ _ => by kernel_rfl, inner_any⟩
theorem holds_blank : Holds 78 Lx.blank := ⟨fun _ _ => by kernel_rfl, blank_any⟩
theorem holds_35 : Holds 80 (· == 35) := ⟨fun _ _ => by kernel_rfl, is35_any⟩
theorem holds_not10 : Holds 81 Lx.not10 := ⟨fun _ _ => by kernel_rfl, not10_any⟩
theorem holds_all : Holds 50 (fun _ => true) := ⟨fun _ _ => by kernel_rfl, all_any⟩

theorem more_any {b : Nat} {s : ByteArray} {i line col : Nat} {w : World} (g : Nat) {p : UInt8 → Bool} (hp : Holds g p) (hr : Rd w b s i line col) :
    Calls Tryz.prog 79 #[.pointer (some ⟨b, 0, none⟩), .func (.func g) #[] #[]] w fun e w' => e = .returned (.bool (Lx.hdIs p (s.data.toList.drop i))) ∧ Below w.heap.size w w' := by
  obtain ⟨hz, h0, h1, h2, h3, f1, f2, f3⟩ := hr.f
  clear hr
  by_cases hlt : i < s.size
  · rw [Lx.hdIs_lt (by simpa using hlt), list_get _ _ hlt]
    have hen := hp.enter
    have hru := hid hp.run
    clear hp
    go_enter Tryz.func79, Tryz.ntmps79
    go_wp2
    go_quiet ((exact Calls.quiet_of_same ((hru.out _ _).mono fun _ _ h => ⟨h.1, h.2.symm⟩)))
    go_wp2
    go_ret
    exact ⟨rfl, bdrewN (Below.refl _ _) _⟩
  · rw [Lx.hdIs_ge (by simpa using hlt)]
    have hd : decide (i < s.size) = false := by simpa using hlt
    go_enter Tryz.func79, Tryz.ntmps79
    go_wp2
    go_quiet (fail)
    go_wp2
    go_ret
    exact ⟨rfl, bdrewN (Below.refl _ _) _⟩

theorem while_any {b : Nat} {s : ByteArray} {i : Nat} {w : World} (g : Nat) {p : UInt8 → Bool} (hp : Holds g p) (hr : RdP w b s i) (hi : i ≤ s.size) (hs : s.size ≤ 140737488355328) :
    Calls Tryz.prog 49 #[.pointer (some ⟨b, 0, none⟩), .func (.func g) #[] #[]] w fun e w' =>
      e = .returned (.string (s.extract i (i + Lx.runN p (s.data.toList.drop i)))) ∧ RdP w' b s (i + Lx.runN p (s.data.toList.drop i)) ∧ Touch b w w' := by
  have hp' := hid hp
  have hr' := hid hr
  obtain ⟨hz, h0, h1, h2, h3, f1, f2, f3⟩ := Rd.f hr
  clear hp hr
  go_enter Tryz.func49, Tryz.ntmps49
  go_wp2
  go_loopg [12] (s.size - i) (fun k _ wr => ∃ j, i ≤ j ∧ j ≤ s.size ∧ k = s.size - j ∧ RdP wr b s j ∧ Touch b w wr ∧ j + Lx.runN p (s.data.toList.drop j) = i + Lx.runN p (s.data.toList.drop i))
  case atStart => exact ⟨i, Nat.le_refl _, hi, rfl, hr'.out, Touch.refl _ _, rfl⟩
  case round =>
    obtain ⟨j, hij, hjs, hk, hrj, htj, hsum⟩ := hrel
    have hsum' := hid hsum
    have hk' := hid hk
    have hrj' := hid hrj
    clear hsum hk
    go_wp2_with fail
    refine (more_any _ hp'.out hrj).mono ?_
    rintro e w1 ⟨rfl, hb1⟩
    have hr1 := hid (RdP.ext hrj hb1)
    clear hrj
    by_cases hh : Lx.hdIs p (s.data.toList.drop j) = true
    · have hlt : j < s.size := by simpa using Lx.lt_of_hdIs hh
      go_wp2_with fail
      refine (step_any hr1.out hlt hs).mono ?_
      rintro e w2 ⟨rfl, hr2, ht2⟩
      have hr2' := hid hr2
      clear hr2
      go_wp2_with fail
      go_roundg (s.size - (j + 1))
      case measure => have := hk'.out; omega
      case rel => exact ⟨j + 1, by omega, by omega, rfl, hr2'.out, (htj.below hb1).trans ht2, by have := Lx.runN_step hh; have := hsum'.out; omega⟩
    · have hh' : Lx.hdIs p (s.data.toList.drop j) = false := by simpa using hh
      have hz := Lx.runN_stop hh'
      have hsum := hsum'.out
      have hj : i + Lx.runN p (s.data.toList.drop i) = j := by omega
      clear hh hsum hz hsum'
      have hj' := hid hj
      clear hj
      obtain ⟨hz, g0, g1, g2, g3, k1, k2, k3⟩ := Rd.f hr1.out
      go_wp2
      go_quiet (fail)
      go_wp2
      go_ret
      rw [hj'.out]
      exact ⟨rfl, hr1.out.drewN _, (htj.below hb1).drewN _⟩

end Go.Proofs.YteddkgpnklfppaaGreatDoor
