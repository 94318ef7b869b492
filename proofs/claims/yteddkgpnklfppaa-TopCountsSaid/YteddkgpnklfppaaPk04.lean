/-
  The walk of cell.Code.
  Maps of whatever elements: what a map's block holds, key by key, as the values themselves.
  The pyramid in memory; its walks: New, made, turn.
  The pyramid's walks: made, turn, Add.
  The pyramid's walks: a point added.
  How many entries a map has.
  The pyramid's walks: Add, Count, Total, Level.
-/
import Derived.Test.YteddkgpnklfppaaPk02
import Derived.Laws.BitsAllLaws
import Derived.Laws.BitsLemmas
import Derived.Maps.OwnSet
import Derived.Test.YteddkgpnklfppaaPk03
import Derived.Maps.Range

namespace Go.Proofs.Yteddkgpnklfppaa
open Go.RowKit Go.Sort

theorem i64_in17 (n : Int) (h0 : 0 ≤ n) (h1 : n < 2 ^ 17) : IntKind.i64.wrap n = n := by
  have : (2 : Int) ^ 17 = 131072 := by decide
  exact IntWalk.i64_in _ (by omega)
theorem u64_in40 (n : Int) (h0 : 0 ≤ n) (h1 : n < 2 ^ 40) : IntKind.u64.wrap n = n := by
  have : (2 : Int) ^ 40 = 1099511627776 := by decide
  rw [IntKind.wrap_u64]; omega
theorem and_one {x : Int} (h0 : 0 ≤ x) (h1 : x ≤ 65535) : bits .and .i64 x 1 = x % 2 := by
  obtain ⟨n, rfl⟩ : ∃ n : Nat, x = n := ⟨x.toNat, by omega⟩
  have h := (bits_nat .i64 17 (by decide) i64_in17 n 1 (by omega) (by decide)).1
  rw [nat_mask1] at h
  exact h
theorem or_join {i : Nat} {x y : Int} (h0 : 0 ≤ x) (hm : x % 2 ^ i = 0) (h1 : x < 1099511627776) (h2 : 0 ≤ y) (h3 : y < 2 ^ i) (h4 : y < 1099511627776) : bits .or .u64 x y = x + y :=
  bits_join .u64 40 (by decide) u64_in40 i x y h0 hm (by have : (2 : Int) ^ 40 = 1099511627776 := by decide
                                                         omega) h2 h3 (by have : (2 : Int) ^ 40 = 1099511627776 := by decide
                                                                          omega)
/-- a cell's code, from the top: so many digits are done -/
theorem tcode_step {k i : Nat} {x y : Int} : Tc.mort (k + 1) (x / 2 ^ i) (y / 2 ^ i) = Tc.mort k (x / 2 ^ (i + 1)) (y / 2 ^ (i + 1)) * 4 + y / 2 ^ i % 2 * 2 + x / 2 ^ i % 2 := by
  rw [Tc.mort, Int.pow_succ, Int.ediv_ediv_of_nonneg (by have := Tc.pow_pos i; omega), Int.ediv_ediv_of_nonneg (by have := Tc.pow_pos i; omega)]
theorem div_bd {x : Int} (i : Nat) (h0 : 0 ≤ x) (h1 : x ≤ 65535) : 0 ≤ x / 2 ^ i ∧ x / 2 ^ i ≤ 65535 := by
  have hp := Tc.pow_pos i
  exact ⟨Int.ediv_nonneg h0 (by omega), Int.le_trans (Int.ediv_le_self _ h0) h1⟩
theorem mort_small (n : Nat) (hn : n ≤ 16) (x y : Int) : 0 ≤ Tc.mort n x y ∧ Tc.mort n x y < 4294967296 := by
  obtain ⟨h0, h1⟩ := Tc.mort_bd n x y
  have h2 : (4 : Int) ^ n = 2 ^ (2 * n) := by rw [Int.pow_mul]; rfl
  have h3 := pow_le (k := n) (j := 16 - n) (by omega)
  have h4 : (2 : Int) ^ (2 * n) = 2 ^ n * 2 ^ n := by rw [← Int.pow_add]; congr 1; omega
  have h5 := Tc.pow_pos n
  have h6 : (2 : Int) ^ n * 2 ^ n ≤ 65536 * 65536 := Int.mul_le_mul h3 h3 (by omega) (by omega)
  omega

theorem code_or {m a b : Int} (m0 : 0 ≤ m) (m1 : m < 4294967296) (a0 : 0 ≤ a) (a1 : a ≤ 65535) (b0 : 0 ≤ b) (b1 : b ≤ 65535) :
    bits .or .u64 (bits .or .u64 (m * 4) (IntKind.u64.wrap (IntKind.u64.wrap (bits .and .i64 b 1) * 2))) (IntKind.u64.wrap (bits .and .i64 a 1)) = m * 4 + b % 2 * 2 + a % 2 := by
  rw [and_one a0 a1, and_one b0 b1]
  have e1 : IntKind.u64.wrap (b % 2) = b % 2 := by rw [IntKind.wrap_u64]; omega
  have e2 : IntKind.u64.wrap (a % 2) = a % 2 := by rw [IntKind.wrap_u64]; omega
  rw [e1, e2]
  have e3 : IntKind.u64.wrap (b % 2 * 2) = b % 2 * 2 := by rw [IntKind.wrap_u64]; omega
  have p2 : (2 : Int) ^ 2 = 4 := by decide
  have p1 : (2 : Int) ^ 1 = 2 := by decide
  rw [e3, or_join (i := 2) (x := m * 4) (y := b % 2 * 2) (by omega) (by omega) (by omega) (by omega) (by omega) (by omega), or_join (i := 1) (x := m * 4 + b % 2 * 2) (y := a % 2) (by omega) (by omega) (by omega) (by omega) (by omega) (by omega)]
set_option maxHeartbeats 1000000 in
theorem tcode_yes {k : Nat} {x y : Int} (hk : k ≤ 16) (h1 : 0 ≤ x) (h2 : x < 2 ^ k) (h3 : 0 ≤ y) (h4 : y < 2 ^ k) (w : World) : Calls Try.prog 29 #[cellV k x y] w fun e w' => e = .returned (.tuple #[.int .u64 (Tc.mort k x y), .bool true]) ∧ Below w.heap.size w w' := by
  have hr := hid (tcright_yes hk h1 h2 h3 h4)
  have hpk := pow_le (k := k) (j := 16 - k) (by omega)
  have hx : x ≤ 65535 := by omega
  have hy : y ≤ 65535 := by omega
  have hx0 := hid (Int.ediv_eq_zero_of_lt h1 h2)
  have hy0 := hid (Int.ediv_eq_zero_of_lt h3 h4)
  have B0 := hid (balloc w (.cells #[.int .i64 k, .int .i64 x, .int .i64 y] 24))
  have C0 := hid (Blk.new w #[.int .i64 k, .int .i64 x, .int .i64 y] 24)
  have hkI : (k : Int) ≤ 16 := by omega
  clear h2 h4 hpk
  unfold cellV at *
  go_enter Try.func29, Try.ntmps29
  go_wp2_with fail
  refine (hr.out _).mono ?_
  rintro e w1 ⟨rfl, hb1⟩
  have B1 := hid (bthen B0.out hb1)
  have C1 := hid (C0.out.ext hb1)
  clear hb1 B0 C0 hr
  obtain ⟨c0, c1, c2, cf, cz⟩ := C1.out.three
  go_wp2_with fail
  clear c0 c1 c2 cf cz
  go_loopw [4, 5] (fun u4 u5 wr => ∃ i : Nat, i ≤ k ∧ u5 = .int .i64 ((i : Int) - 1) ∧ u4 = .int .u64 (Tc.mort (k - i) (x / 2 ^ i) (y / 2 ^ i)) ∧ Blk wr w.heap.size #[.int .i64 k, .int .i64 x, .int .i64 y] 24 ∧ Below w.heap.size w wr) (fun _ u5 _ => (intOf u5 + 1).toNat)
  case atStart => exact ⟨k, Nat.le_refl _, by first | rfl | simp, by rw [hx0.out, hy0.out, Nat.sub_self]; rfl, C1.out, B1.out⟩
  case round =>
    obtain ⟨i, hi, rfl, rfl, hC, hB⟩ := hrel
    have C2 := hid hC
    have B2 := hid hB
    obtain ⟨c0, c1, c2, cf, cz⟩ := hC.three
    clear hC hB
    cases i with
    | zero =>
      go_wp2_with fail
      go_ret2
      exact ⟨by simp, B2.out⟩
    | succ i =>
      have hstep := hid (tcode_step (k := k - (i + 1)) (i := i) (x := x) (y := y))
      obtain ⟨m0, m1⟩ := mort_small (k - (i + 1)) (by omega) (x / 2 ^ (i + 1)) (y / 2 ^ (i + 1))
      have hki := hid (show k - (i + 1) + 1 = k - i by omega)
      obtain ⟨a0, a1⟩ := div_bd i h1 hx
      obtain ⟨b0, b1⟩ := div_bd i h3 hy
      generalize Tc.mort (k - (i + 1)) (x / 2 ^ (i + 1)) (y / 2 ^ (i + 1)) = m at *
      rw [show ((i + 1 : Nat) : Int) - 1 = (i : Int) by omega]
      have hi0 : (i : Int) ≤ 15 := by omega
      go_upto_region 7 with (fail)
      have hE := hid (code_or m0 m1 a0 a1 b0 b1)
      rw [hki.out] at hstep
      clear a0 a1 b0 b1 hki
      go_quiet (fail)
      go_wp2_with fail
      go_roundw
      case rel => exact ⟨i, by omega, rfl, by rw [hstep.out, ← hE.out], C2.out.drewN _, bdrewN B2.out _⟩
      case measure => simp [intOf]
theorem tcode_no {l x y : Int} (h : cellR l x y = false) (w : World) : Calls Try.prog 29 #[cellV l x y] w fun e w' => e = .returned (.tuple #[.int .u64 0, .bool false]) ∧ Below w.heap.size w w' := by
  have hr := hid (tcright_any l x y)
  rw [h] at hr
  have B0 := hid (balloc w (.cells #[.int .i64 l, .int .i64 x, .int .i64 y] 24))
  clear h
  unfold cellV at *
  go_enter Try.func29, Try.ntmps29
  go_wp2_with fail
  refine (hr.out _).mono ?_
  rintro e w1 ⟨rfl, hb1⟩
  have B1 := hid (bthen B0.out hb1)
  clear hb1
  go_wp2_with fail
  go_ret2
  exact ⟨rfl, B1.out⟩

end Go.Proofs.Yteddkgpnklfppaa

namespace Go.Proofs.Yteddkgpnklfppaa
open Go.RowKit Go.Sort Go.Maps

def heldR (v : Value) : Option (DataW Value × List MemPlace) := some (.held v, [])

/-- block b is a map with at most n entries; f says what stands at which key -/
def KMap (P : Program) (K : TypeId) (w : World) (b n : Nat) (f : Lit → Option Value) : Prop :=
  ∃ D : DataW Value, w.ownsMap P K heldR b n D ∧ ∀ l, WideAt.IsKeyLit l → Maps.has D l = (f l).isSome ∧ ∀ z, D.atKey l z = ((f l).map DataW.held).getD z

variable {P : Program} {K : TypeId} {w : World} {b n : Nat} {f : Lit → Option Value}
theorem KMap.made (w : World) (P : Program) (K : TypeId) : KMap P K (w.alloc (.map #[] 0)) w.heap.size 0 (fun _ => none) :=
  ⟨.map [], World.ownsMap_made w P K heldR, fun _ _ => ⟨rfl, fun _ => rfl⟩⟩
theorem KMap.madeAt {k : Nat} (hk : k = w.heap.size) (P : Program) (K : TypeId) : KMap P K (w.alloc (.map #[] 0)) k 0 (fun _ => none) := hk ▸ KMap.made w P K
theorem KMap.lt (h : KMap P K w b n f) : b < w.heap.size := by obtain ⟨D, h1, _⟩ := h; exact h1.lt
theorem KMap.mono (h : KMap P K w b n f) {n' : Nat} (hn : n ≤ n') : KMap P K w b n' f := by obtain ⟨D, h1, h2⟩ := h; exact ⟨D, h1.mono hn, h2⟩
theorem KMap.congr {f' : Lit → Option Value} (h : KMap P K w b n f) (hf : ∀ l, WideAt.IsKeyLit l → f' l = f l) : KMap P K w b n f' := by
  obtain ⟨D, h1, h2⟩ := h; exact ⟨D, h1, fun l hl => by rw [hf l hl]; exact h2 l hl⟩
theorem KMap.block {w' : World} (h : KMap P K w b n f) (hb : w'.heap[b]? = w.heap[b]?) : KMap P K w' b n f := by
  obtain ⟨D, ⟨es, clock, h1, h2⟩, h3⟩ := h
  exact ⟨D, ⟨es, clock, hb.trans h1, h2⟩, h3⟩
theorem KMap.ext {w' : World} (h : KMap P K w b n f) (hb : Below w.heap.size w w') : KMap P K w' b n f := h.block (hb.block b h.lt)
theorem KMap.touch {w' : World} {k : Nat} (h : KMap P K w b n f) (ht : Touch k w w') (hn : b ≠ k) : KMap P K w' b n f := h.block (ht.block b h.lt hn)
theorem KMap.grown {w' : World} {row : Option Nat} (h : KMap P K w b n f) (hg : w.grownBy w' row) (hne : some b ≠ row) : KMap P K w' b n f := h.block (hg.block b h.lt hne)
theorem KMap.drewN (h : KMap P K w b n f) (j : Nat) : KMap P K (w.drewN j) b n f := h.block rfl
theorem KMap.look {t e : TypeId} (h : KMap P K w b n f) (Kd : Keyed P K) (ht : P.underlying t = some (.map K e)) {z : Value} (hz : (zeroValue e).run P w = .ok z w) {key : Value} {kl : Lit} (hkey : keyOf P K key = some kl) (hl : WideAt.IsKeyLit kl) :
    (Instr.lookup t (.map (some b)) key true).run P w = .ok (.tuple #[(f kl).getD z, .bool (f kl).isSome]) w := by
  obtain ⟨D, h1, h2⟩ := h
  obtain ⟨v, ps, hrun, hv⟩ := h1.look_ok Kd ht hz (zd := .held z) (zp := []) rfl hkey
  rw [hrun]
  obtain ⟨a1, a2⟩ := h2 kl hl
  rw [a2] at hv
  rw [a1]
  unfold heldR at hv
  cases hf : f kl with
  | none => rw [hf] at hv; simp at hv; simp [hv.1]
  | some u => rw [hf] at hv; simp at hv; simp [hv.1]
theorem KMap.look1 {t e : TypeId} (h : KMap P K w b n f) (Kd : Keyed P K) (ht : P.underlying t = some (.map K e)) {z : Value} (hz : (zeroValue e).run P w = .ok z w) {key : Value} {kl : Lit} (hkey : keyOf P K key = some kl) (hl : WideAt.IsKeyLit kl) :
    (Instr.lookup t (.map (some b)) key false).run P w = .ok ((f kl).getD z) w := by
  obtain ⟨D, h1, h2⟩ := h
  obtain ⟨v, ps, hrun, hv⟩ := h1.lookup Kd ht hz (zd := .held z) (zp := []) rfl hkey
  rw [hrun]
  obtain ⟨a1, a2⟩ := h2 kl hl
  rw [a2] at hv
  unfold heldR at hv
  cases hf : f kl with
  | none => rw [hf] at hv; simp at hv; simp [hv.1]
  | some u => rw [hf] at hv; simp at hv; simp [hv.1]
theorem KMap.put {t e : TypeId} (h : KMap P K w b n f) (Kd : Keyed P K) (ht : P.underlying t = some (.map K e)) (hn : n < maxLen) {key val : Value} {kl : Lit} (hkey : keyOf P K key = some kl) (hl : WideAt.IsKeyLit kl) :
    ∃ w', (Instr.mapUpdate t (.map (some b)) key val).run P w = .ok () w' ∧ (∀ f' : Lit → Option Value, f' kl = some val → (∀ l, WideAt.IsKeyLit l → l ≠ kl → f' l = f l) → KMap P K w' b (n + 1) f') ∧ w.grownBy w' (some b) := by
  obtain ⟨D, h1, h2⟩ := h
  have hi := h1.isMap
  obtain ⟨w', hrun, r1, r2⟩ := h1.update Kd ht hn hkey (d := .held val) (ps := []) (val := val) rfl
  refine ⟨w', hrun, fun f' hf1 hf2 => ⟨_, r1, fun l hk => ?_⟩, r2⟩
  by_cases he : l = kl
  · subst he
    rw [hf1]
    exact ⟨has_put_same hi hl _, fun z => by rw [atKey_put_same hi hl]; rfl⟩
  · rw [hf2 l hk he]
    exact ⟨by rw [has_put_other he]; exact (h2 l hk).1, fun z => by rw [atKey_put_other he]; exact (h2 l hk).2 z⟩
/-- the law at the operation -/
theorem wpList_put {ops : Array Oper} {rest : List Oper} {o : Oper} {a : Act} {Q : Exit → Act → World → Prop} (hg : o.guard = none) (m x v : Operand) (t : TypeId) (hop : o.op = Op.mapUpdate t m x v ∨ o.op = Op.insert t m x v) (hd : o.dst = none)
    (e : TypeId) (Kd : Keyed P K) (ht : P.underlying t = some (.map K e)) (hm : a.eval m = .map (some b)) (h : KMap P K w b n f) (hn : n < maxLen) (key val : Value) (kl : Lit) (hx : a.eval x = key) (hv : a.eval v = val) (hkey : keyOf P K key = some kl) (hl : WideAt.IsKeyLit kl)
    (hK : ∀ w', (∀ f' : Lit → Option Value, f' kl = some val → (∀ l, WideAt.IsKeyLit l → l ≠ kl → f' l = f l) → KMap P K w' b (n + 1) f') → w.grownBy w' (some b) → wpList P ops Q rest a w') :
    wpList P ops Q (o :: rest) a w := by
  refine wpList_plain hg fun K' hK' => ?_
  obtain ⟨w', hrun, r1, r2⟩ := h.put Kd ht hn (val := val) hkey hl
  unfold Oper.wp
  have he : (execOp a.eval o).run P w = .ok .skip w' := by
    rcases hop with hop | hop <;> simp [execOp, hop, hm, hx, hv, hrun, Result.andThen]
  rw [he, Oper.upon_skip, hd]
  exact hK' _ _ (hK w' r1 r2)
theorem isKey_string (l : List UInt8) : WideAt.IsKeyLit (.string l) := trivial
theorem isKey_int (q : IntKind) (x : Int) : WideAt.IsKeyLit (.int q x) := trivial

end Go.Proofs.Yteddkgpnklfppaa

namespace Go.Proofs.Yteddkgpnklfppaa
open Go.RowKit Go.Sort Go.Maps

/-- only blocks of this kind, of what was there, may have changed -/
structure Keep (S : Nat → Prop) (w w' : World) : Prop where
  os : w'.os = w.os
  tape : w'.tape = w.tape
  output : w'.output = w.output
  size : w.heap.size ≤ w'.heap.size
  block : ∀ k, k < w.heap.size → ¬ S k → w'.heap[k]? = w.heap[k]?
theorem Keep.refl (S : Nat → Prop) (w : World) : Keep S w w := ⟨rfl, rfl, rfl, Nat.le_refl _, fun _ _ _ => rfl⟩
theorem Keep.trans {S : Nat → Prop} {x y z : World} (h : Keep S x y) (k : Keep S y z) : Keep S x z :=
  ⟨k.os.trans h.os, k.tape.trans h.tape, k.output.trans h.output, Nat.le_trans h.size k.size, fun i hi hn => (k.block i (Nat.lt_of_lt_of_le hi h.size) hn).trans (h.block i hi hn)⟩
theorem Keep.of_below {S : Nat → Prop} {w w' : World} (h : Below w.heap.size w w') : Keep S w w' := ⟨h.os, h.tape, h.output, h.size, fun k hk _ => h.block k hk⟩
theorem Keep.of_touch {S : Nat → Prop} {b : Nat} {w w' : World} (h : Touch b w w') (hb : S b) : Keep S w w' := ⟨h.os, h.tape, h.output, h.size, fun k hk hn => h.block k hk (fun e => hn (e ▸ hb))⟩
theorem Keep.of_grown {S : Nat → Prop} {w w' : World} {row : Option Nat} (h : w.grownBy w' row) (hb : ∀ k, row = some k → S k) : Keep S w w' := ⟨h.os, h.tape, h.output, h.size, fun k hk hn => h.block k hk (fun e => hn (hb k e.symm))⟩
theorem Keep.mono {S T : Nat → Prop} {w w' : World} (h : Keep S w w') (hs : ∀ k, S k → T k) : Keep T w w' := ⟨h.os, h.tape, h.output, h.size, fun k hk hn => h.block k hk (fun e => hn (hs k e))⟩
theorem Keep.below {S : Nat → Prop} {B : Nat} {w w' : World} (h : Keep S w w') (hB : B ≤ w.heap.size) (hs : ∀ k, S k → B ≤ k) : Below B w w' :=
  ⟨h.os, h.tape, h.output, h.size, fun k hk => h.block k (by omega) (fun e => by have := hs k e; omega)⟩
theorem Blk.keep {S : Nat → Prop} {w w' : World} {b : Nat} {cs : Array Value} {t : TypeId} (h : Blk w b cs t) (hb : Keep S w w') (hn : ¬ S b) : Blk w' b cs t := (hb.block b h.lt hn).trans h
theorem KMap.keep {P : Program} {K : TypeId} {w w' : World} {b n : Nat} {f : Lit → Option Value} {S : Nat → Prop} (h : KMap P K w b n f) (hb : Keep S w w') (hn : ¬ S b) : KMap P K w' b n f := h.block (hb.block b h.lt hn)

/-- what stands in the map of a level -/
def lvF (l : Nat) (L : List Tc.Rec) : Lit → Option Value
  | .int .u64 k => if Tc.cntK l k L = 0 then none else some (.int .i64 (Tc.cntK l k L))
  | _ => none
/-- the pyramid's cells, so many maps laid -/
def pyCells (y i : Nat) : Array Value := ((List.range 17).map fun l => if l < i then Value.map (some (y + 1 + l)) else .map none).toArray
theorem pyCells_get (y i : Nat) {l : Nat} (hl : l < 17) : (pyCells y i)[l]? = some (if l < i then Value.map (some (y + 1 + l)) else .map none) := by
  unfold pyCells
  rw [List.getElem?_toArray, List.getElem?_map, List.getElem?_range hl]
  rfl
theorem pyCells_size (y i : Nat) : (pyCells y i).size = 17 := by unfold pyCells; simp
theorem pyCells_set (y : Nat) {i : Nat} (_hi : i < 17) : (pyCells y i).setIfInBounds i (.map (some (y + 1 + i))) = pyCells y (i + 1) := by
  apply Array.ext_getElem?
  intro l
  rcases Nat.lt_or_ge l 17 with hl | hl
  · rw [pyCells_get y (i + 1) hl, Array.getElem?_setIfInBounds]
    split
    · rename_i e
      subst e
      rw [if_pos (by rw [pyCells_size]; exact hl), if_pos (by omega)]
    · rename_i e
      rw [pyCells_get y i hl]
      by_cases h : l < i
      · rw [if_pos h, if_pos (by omega)]
      · rw [if_neg h, if_neg (by omega)]
  · rw [Array.getElem?_eq_none (by simp [pyCells_size]; exact hl), Array.getElem?_eq_none (by rw [pyCells_size]; exact hl)]
abbrev KM (w : World) (b n : Nat) (f : Lit → Option Value) : Prop := KMap Try.prog 27 w b n f
/-- a pyramid; below level i its maps are of L, the others of M -/
structure Pyr (w : World) (y : Nat) (i : Nat) (L M : List Tc.Rec) : Prop where
  blk : Blk w y (pyCells y 17) 56
  low : ∀ l, l < 17 → l < i → KM w (y + 1 + l) L.length (lvF l L)
  high : ∀ l, l < 17 → i ≤ l → KM w (y + 1 + l) M.length (lvF l M)
theorem Pyr.keep {S : Nat → Prop} {w w' : World} {y i : Nat} {L M : List Tc.Rec} (h : Pyr w y i L M) (hk : Keep S w w') (hs : ∀ k, S k → k < y ∨ y + 17 < k) : Pyr w' y i L M :=
  ⟨h.blk.keep hk (fun e => by have := hs _ e; omega), fun l hl hi => (h.low l hl hi).keep hk (fun e => by have := hs _ e; omega), fun l hl hi => (h.high l hl hi).keep hk (fun e => by have := hs _ e; omega)⟩
theorem Pyr.ext {w w' : World} {y i : Nat} {L M : List Tc.Rec} (h : Pyr w y i L M) (hb : Below w.heap.size w w') : Pyr w' y i L M := h.keep (S := fun _ => False) (Keep.of_below hb) (fun _ e => e.elim)
/-- of one list -/
abbrev Py (w : World) (y : Nat) (L : List Tc.Rec) : Prop := Pyr w y 17 L L
theorem Pyr.at {w : World} {y i : Nat} {L : List Tc.Rec} (h : Pyr w y i L L) {l : Nat} (hl : l < 17) : KM w (y + 1 + l) L.length (lvF l L) := by
  rcases Nat.lt_or_ge l i with hi | hi
  · exact h.low l hl hi
  · exact h.high l hl hi
theorem Pyr.any {w : World} {y i j : Nat} {L : List Tc.Rec} (h : Pyr w y i L L) : Pyr w y j L L := ⟨h.blk, fun _ hl _ => h.at hl, fun _ hl _ => h.at hl⟩
theorem lvF_nil (l : Nat) : lvF l [] = fun _ => none := by
  funext k
  unfold lvF
  split
  · rfl
  · rfl

set_option maxHeartbeats 1000000 in
theorem tpnew_any (w : World) : Calls Try.prog 4 #[] w fun e w' => e = .returned (.pointer (some ⟨w.heap.size, 0, none⟩)) ∧ Py w' w.heap.size [] ∧ Below w.heap.size w w' := by
  have hmm := @run_makeMap Try.prog
  have hpc : Hid (pyCells w.heap.size 0 = #[.map none, .map none, .map none, .map none, .map none, .map none, .map none, .map none, .map none, .map none, .map none, .map none, .map none, .map none, .map none, .map none, .map none]) := hid rfl
  have Q0 := hid (balloc w (.cells (pyCells w.heap.size 0) 56))
  have B0 := hid (Blk.new w (pyCells w.heap.size 0) 56)
  rw [hpc.out] at Q0 B0
  go_enter Try.func4, Try.ntmps4
  go_wp2_with fail
  go_loopw [2, 5] (fun _ u5 wr => ∃ i : Nat, u5 = .int .i64 i ∧ i ≤ 17 ∧ Blk wr w.heap.size (pyCells w.heap.size i) 56 ∧ (∀ l, l < 17 → l < i → KM wr (w.heap.size + 1 + l) 0 (lvF l [])) ∧ wr.heap.size = w.heap.size + 1 + i ∧ Below w.heap.size w wr) (fun _ u5 _ => 17 - (intOf u5).toNat)
  case atStart => exact ⟨0, rfl, by omega, by rw [hpc.out]; exact B0.out, fun l _ h => by omega, by rw [World.size_alloc], Q0.out⟩
  case round =>
    obtain ⟨i, rfl, hi, hB, hM, hz, hQ⟩ := hrel
    have B1 := hid hB
    have M1 := hid hM
    have Z1 := hid hz
    have Q1 := hid hQ
    clear hB hM hz hQ hpc B0 Q0
    by_cases hlt : i < 17
    · have z := balloc wr (.map #[] 0)
      have B2 := hid (B1.out.ext z)
      have hkl := B2.out.lt
      have hset := hid (pyCells_set w.heap.size hlt)
      have c0 : (wr.alloc (.map #[] 0)).cell? ⟨w.heap.size, i, none⟩ = some (.map none) := B2.out.cell i (by rw [pyCells_get _ _ hlt, if_neg (Nat.lt_irrefl i)])
      have f0 := B2.out.free
      have j0 : (0 : Int) ≤ i := by omega
      have j1 : (i : Int) < 17 := by omega
      go_wp2_with fail
      go_roundw
      case rel =>
        refine ⟨i + 1, by go_num, by omega, ?_, fun l hl hli => ?_, ?_, ?_⟩
        · rw [← hset.out, ← Z1.out]
          exact B2.out.set i _
        · have hne : w.heap.size + 1 + l ≠ w.heap.size := by omega
          refine KMap.touch (k := w.heap.size) (w := wr.alloc (.map #[] 0)) ?_ ((Touch.refl _ _).setCell i _) hne
          by_cases he : l < i
          · exact (M1.out l hl he).ext z
          · obtain rfl : l = i := by omega
            rw [lvF_nil]
            exact KMap.madeAt (by rw [Z1.out]) _ _
        · rw [World.size_setCell, World.size_alloc, Z1.out]; omega
        · exact bset (bthen Q1.out z) (Nat.le_refl _) _
      case measure => simp [intOf]; omega
    · obtain rfl : i = 17 := by omega
      go_wp2_with fail
      go_ret
      exact ⟨rfl, ⟨B1.out, fun l hl _ => M1.out l hl hl, fun l hl h => by omega⟩, Q1.out⟩

end Go.Proofs.Yteddkgpnklfppaa

namespace Go.Proofs.Yteddkgpnklfppaa
open Go.RowKit Go.Sort Go.Maps

theorem tpmade_any {w : World} {y : Nat} (h : Blk w y (pyCells y 17) 56) : Calls Try.prog 18 #[.pointer (some ⟨y, 0, none⟩)] w fun e w' => e = .returned (.bool true) ∧ w = w' := by
  have c0 : w.cell? ⟨y, 0, none⟩ = some (.map (some (y + 1))) := h.cell 0 rfl
  have hm := fun (w : World) (r : Option Nat) => run_neq_map_nil (P := Try.prog) w 53 27 3 r Try.underlying53
  clear h
  go_enter Try.func18, Try.ntmps18
  go_wp2_with fail
  go_ret
  exact ⟨rfl, rfl⟩
theorem Touch.of_grown {w w' : World} {b : Nat} (h : w.grownBy w' (some b)) : Touch b w w' := ⟨h.os, h.tape, h.output, h.size, fun k hk hn => h.block k hk (by simpa using hn)⟩
theorem lawU : Keyed Try.prog 27 := int_keyed Try.underlying27
theorem zeroI (w : World) : (zeroValue 3).run Try.prog w = .ok (.int .i64 0) w := by kernel_rfl
theorem keyU {k : Int} (h0 : 0 ≤ k) (h1 : k < 4294967296) : keyOf Try.prog 27 (.int .u64 k) = some (.int .u64 k) :=
  keyOf_int_mk Try.underlying27 (WalkArith.wf_u64 (by omega))
theorem lvF_get (l : Nat) (L : List Tc.Rec) (k : Int) : (lvF l L (.int .u64 k)).getD (.int .i64 0) = .int .i64 (Tc.cntK l k L) := by
  unfold lvF
  simp only
  split
  · rename_i h; rw [h]; rfl
  · rfl
theorem lvF_other (l : Nat) (L : List Tc.Rec) (r : Tc.Rec) {x : Lit} (h : x ≠ .int .u64 (Tc.key l r.x r.y)) : lvF l (L ++ [r]) x = lvF l L x := by
  unfold lvF
  split
  · rename_i k
    have : Tc.key l r.x r.y ≠ k := fun e => h (by rw [e])
    rw [Tc.cntK_snoc, if_neg this, Nat.add_zero]
  · rfl
theorem lvF_same (l : Nat) (L : List Tc.Rec) (r : Tc.Rec) : lvF l (L ++ [r]) (.int .u64 (Tc.key l r.x r.y)) = some (.int .i64 ((Tc.cntK l (Tc.key l r.x r.y) L : Nat) + 1)) := by
  unfold lvF
  simp only
  rw [Tc.cntK_snoc, if_pos rfl, if_neg (by omega)]
  congr 2
theorem cntK_le (l : Nat) (k : Int) (L : List Tc.Rec) : Tc.cntK l k L ≤ L.length := List.length_filter_le _ _

set_option maxRecDepth 100000 in
set_option maxHeartbeats 1000000 in
theorem tturn_any {w : World} {y l : Nat} {L : List Tc.Rec} {r : Tc.Rec} (hB : Blk w y (pyCells y 17) 56) (hM : KM w (y + 1 + l) L.length (lvF l L)) (hl : l < 17) (hn : L.length ≤ 1000) (h0 : 0 ≤ Tc.key l r.x r.y) (h1 : Tc.key l r.x r.y < 4294967296) :
    Calls Try.prog 21 #[.pointer (some ⟨y, 0, none⟩), .int .i64 l, .int .u64 (Tc.key l r.x r.y), .int .i64 1] w fun e w' => e = .returned (.tuple #[]) ∧ KM w' (y + 1 + l) (L ++ [r]).length (lvF l (L ++ [r])) ∧ Touch (y + 1 + l) w w' := by
  have c0 : w.cell? ⟨y, l, none⟩ = some (.map (some (y + 1 + l))) := hB.cell l (by rw [pyCells_get _ _ hl, if_pos hl])
  have hM' := hid hM
  have j0 : (0 : Int) ≤ l := by omega
  have j1 : (l : Int) < 17 := by omega
  have hc := cntK_le l (Tc.key l r.x r.y) L
  have hkey := hid (keyU h0 h1)
  have hg := hid (lvF_get l L (Tc.key l r.x r.y))
  have hs := hid (lvF_same l L r)
  have ho := hid (fun x => lvF_other l L r (x := x))
  clear hM hB h0 h1
  generalize Tc.key l r.x r.y = k at *
  generalize Tc.cntK l k L = c at *
  have hc2 : (c : Int) ≤ 1000 := by omega
  have hlook := hM'.out.look1 lawU Try.underlying53 (zeroI w) hkey.out trivial
  rw [hg.out] at hlook
  go_enter Try.func21, Try.ntmps21
  go_upto_region 3 with (fail)
  clear hlook
  go_wp2_with (first | (refine wpList_put rfl (.tmp 33) (.tmp 34) (.tmp 35) 53 (.inl rfl) rfl 3 lawU Try.underlying53 rfl hM'.out (by unfold maxLen; omega) (.int .u64 k) (.int .i64 (c + 1)) (.int .u64 k) rfl rfl hkey.out trivial ?_; intro w1 hput hgrow; have P1 := hid (hput _ hs.out (fun x _ hx => ho.out x hx)); have T1 := hid (Touch.of_grown hgrow); clear hput hgrow))
  go_wp2_with fail
  go_end0
  exact ⟨rfl, by rw [List.length_append]; exact P1.out, T1.out⟩

end Go.Proofs.Yteddkgpnklfppaa

namespace Go.Proofs.Yteddkgpnklfppaa
open Go.RowKit Go.Sort Go.Maps

/-- the blocks of a pyramid's maps -/
def PyS (y : Nat) : Nat → Prop := fun k => y < k ∧ k ≤ y + 17
theorem Pyr.lt {w : World} {y i : Nat} {L M : List Tc.Rec} (h : Pyr w y i L M) : y + 17 < w.heap.size := by
  rcases Nat.lt_or_ge 16 i with hi | hi
  · have := (h.low 16 (by omega) hi).lt; omega
  · have := (h.high 16 (by omega) hi).lt; omega
theorem Pyr.step {w w' : World} {y i : Nat} {L M : List Tc.Rec} (h : Pyr w y (i + 1) L M) (hi : i < 17) (hm : KM w' (y + 1 + i) M.length (lvF i M)) (ht : Touch (y + 1 + i) w w') : Pyr w' y i L M := by
  refine ⟨h.blk.touch ht (by omega), fun l hl hli => (h.low l hl (by omega)).touch ht (by omega), fun l hl hli => ?_⟩
  by_cases e : l = i
  · subst e; exact hm
  · exact (h.high l hl (by omega)).touch ht (by omega)
theorem enter_add1 (args : Array Value) (w : World) : Sem.run Try.prog (callFunc 20 args) w = .ok (.enter 20 args) w := by kernel_rfl
theorem tadd1_any {w : World} {y yb l : Nat} {L : List Tc.Rec} {r : Tc.Rec} (hY : Blk w yb #[.pointer (some ⟨y, 0, none⟩)] 30) (hB : Blk w y (pyCells y 17) 56) (hM : KM w (y + 1 + l) L.length (lvF l L)) (hl : l < 17) (hn : L.length ≤ 1000) (h0 : 0 ≤ Tc.key l r.x r.y) (h1 : Tc.key l r.x r.y < 4294967296) :
    Calls Try.prog 20 #[.int .i64 l, .int .u64 (Tc.key l r.x r.y), .pointer (some ⟨yb, 0, none⟩)] w fun e w' => e = .returned (.tuple #[]) ∧ KM w' (y + 1 + l) (L ++ [r]).length (lvF l (L ++ [r])) ∧ Touch (y + 1 + l) w w' := by
  have ht := hid (tturn_any hB hM hl hn h0 h1)
  obtain ⟨c0, cf, cz⟩ := hY.one
  clear hY hB hM h0 h1
  generalize Tc.key l r.x r.y = k at *
  generalize L ++ [r] = M at *
  go_enter Try.func20, Try.ntmps20
  go_wp2_with fail
  refine ht.out.mono ?_
  rintro e w1 ⟨rfl, h1, h2⟩
  have H1 := hid h1
  have H2 := hid h2
  clear h1 h2
  go_wp2_with fail
  go_end0
  exact ⟨rfl, H1.out, H2.out⟩
theorem key_small (l : Nat) (hl : l ≤ 16) (x y : Int) : 0 ≤ Tc.key l x y ∧ Tc.key l x y < 4294967296 := mort_small l hl _ _
theorem fits_of {r : Tc.Rec} (h : r.fit) : Ru.fits r.x r.y = true := by
  obtain ⟨a, b, c, d⟩ := h
  unfold Ru.fits Ru.inside
  simp only [Bool.and_eq_true, decide_eq_true_eq]
  exact ⟨⟨a, b⟩, c, d⟩
set_option maxRecDepth 100000 in
set_option maxHeartbeats 2000000 in
theorem teach_yes {w : World} {y yb : Nat} {L : List Tc.Rec} {r : Tc.Rec} (hP : Py w y L) (hY : Blk w yb #[.pointer (some ⟨y, 0, none⟩)] 30) (hyb : y + 17 < yb) (hr : r.fit) (hn : L.length ≤ 1000) :
    Calls Try.prog 19 #[pointV r.x r.y, .func (.func 20) #[] #[.pointer (some ⟨yb, 0, none⟩)]] w fun e w' => e = .returned (.bool true) ∧ Py w' y (L ++ [r]) ∧ Keep (PyS y) w w' := by
  have hen := enter_add1
  have hof := hid (tOf_yes (k := 16) (j := 0) rfl (fits_of hr))
  have hco := hid (fun w => tcode_yes (k := 16) (x := r.x) (y := r.y) (Nat.le_refl _) hr.1 (by have := hr.2.1; show r.x < 65536; omega) hr.2.2.1 (by have := hr.2.2.2; show r.y < 65536; omega) w)
  have e16 : Tc.mort 16 r.x r.y = Tc.key 16 r.x r.y := by unfold Tc.key; rw [Tc.sh_16, Tc.sh_16]
  have ex : ∀ x : Int, x / 2 ^ 0 = x := fun x => by simp
  rw [e16] at hco
  rw [ex, ex] at hof
  have z1 := balloc w (.cells #[.int .i64 r.x, .int .i64 r.y] 26)
  have P1 := hid (hP.ext z1)
  have Y1 := hid (hY.ext z1)
  have X1 := hid (Blk.new w #[.int .i64 r.x, .int .i64 r.y] 26)
  have Q1 := hid z1
  have hkey := hid (fun l (hl : l ≤ 16) => key_small l hl r.x r.y)
  have hup := hid (fun l (hl : l < 16) => Tc.key_up hl r.x r.y)
  have hlt := hP.lt
  clear z1 e16 ex hP hY hr
  unfold pointV cellV at *
  go_enter Try.func19, Try.ntmps19
  go_wp2_with fail
  refine (hof.out _).mono ?_
  rintro e w1 ⟨rfl, hb1⟩
  have z2 := balloc w1 (.cells #[.int .i64 16, .int .i64 r.x, .int .i64 r.y] 24)
  have P2 := hid ((P1.out.ext hb1).ext z2)
  have Y2 := hid ((Y1.out.ext hb1).ext z2)
  have Q2 := hid (bthen (bthen Q1.out hb1) z2)
  have C2 := hid (Blk.new w1 #[.int .i64 16, .int .i64 r.x, .int .i64 r.y] 24)
  clear hb1 z2 P1 Y1 Q1 X1
  go_wp2_with fail
  refine (hco.out _).mono ?_
  rintro e w2 ⟨rfl, hb2⟩
  have P3 := hid (P2.out.ext hb2)
  have Y3 := hid (Y2.out.ext hb2)
  have Q3 := hid (bthen Q2.out hb2)
  clear hb2 P2 Y2 Q2 C2 hof hco
  go_wp2_with fail
  go_loopw [7, 9] (fun u7 u9 wr => ∃ (i : Nat) (c : Int), i ≤ 17 ∧ u9 = .int .i64 ((i : Int) - 1) ∧ u7 = .int .u64 c ∧ 0 ≤ c ∧ (0 < i → c = Tc.key (i - 1) r.x r.y) ∧ Pyr wr y i L (L ++ [r]) ∧ Blk wr yb #[.pointer (some ⟨y, 0, none⟩)] 30 ∧ Keep (PyS y) w wr) (fun _ u9 _ => (intOf u9 + 1).toNat)
  case atStart => exact ⟨17, _, Nat.le_refl _, by first | rfl | simp, rfl, (hkey.out 16 (Nat.le_refl _)).1, fun _ => rfl, ⟨P3.out.blk, P3.out.low, fun l hl h => by omega⟩, Y3.out, Keep.of_below Q3.out⟩
  case round =>
    obtain ⟨i, c, hi, rfl, rfl, hc0, hc, hP, hY, hK⟩ := hrel
    have P4 := hid hP
    have Y4 := hid hY
    have K4 := hid hK
    have C4 := hid hc
    clear hP hY hK hc P3 Y3 Q3
    cases i with
    | zero =>
      go_wp2_with fail
      go_ret
      exact ⟨rfl, ⟨P4.out.blk, fun l hl h => P4.out.high l hl (Nat.zero_le _), fun l hl h => P4.out.high l hl (Nat.zero_le _)⟩, K4.out⟩
    | succ i =>
      have hck := C4.out (Nat.succ_pos i)
      rw [Nat.add_sub_cancel] at hck
      subst hck
      have hk2 := hkey.out i (by omega)
      have hadd := hid (tadd1_any (r := r) Y4.out P4.out.blk (P4.out.low i (by omega) (by omega)) (by omega) hn hk2.1 hk2.2)
      have hstep := hid (fun (h : 0 < i) => (hup.out (i - 1) (by omega)))
      rw [show ((i + 1 : Nat) : Int) - 1 = (i : Int) by omega]
      have hi0 : (i : Int) ≤ 16 := by omega
      clear C4 hkey hup hk2
      have hc0' := hid hc0
      clear hc0
      go_wp2_with fail
      refine hadd.out.mono ?_
      rintro e w5 ⟨rfl, h5, t5⟩
      have P5 := hid (P4.out.step (by omega) h5 t5)
      have Y5 := hid (Y4.out.touch t5 (by omega))
      have K5 := hid (K4.out.trans (Keep.of_touch t5 (show PyS y (y + 1 + i) from ⟨by omega, by omega⟩)))
      clear h5 t5 hadd P4 Y4 K4
      go_wp2_with fail
      go_roundw
      case rel => exact ⟨i, Tc.key i r.x r.y / 4, by omega, rfl, by first | rfl | trivial, by have := hc0'.out; omega, fun h => by have e := hstep.out h; rw [show i - 1 + 1 = i by omega] at e; exact e, P5.out, Y5.out, K5.out⟩
      case measure => simp [intOf]

end Go.Proofs.Yteddkgpnklfppaa

namespace Go.Proofs.Yteddkgpnklfppaa
open Go.RowKit Go.Sort Go.Maps

theorem length_le_of_nodup {α : Type} : ∀ (a b : List α), a.Pairwise (· ≠ ·) → (∀ x ∈ a, x ∈ b) → a.length ≤ b.length
  | [], _, _, _ => Nat.zero_le _
  | x :: a, b, h, hs => by
    classical
    rw [List.pairwise_cons] at h
    have h1 := length_le_of_nodup a (b.erase x) h.2 (fun y hy => by
      have hne : y ≠ x := fun e => h.1 y hy e.symm
      exact (List.mem_erase_of_ne hne).2 (hs y (List.mem_cons_of_mem _ hy)))
    have hx := hs x List.mem_cons_self
    have h2 := List.length_erase_of_mem hx
    have h3 := List.length_pos_of_mem hx
    rw [List.length_cons]
    omega
theorem KMap.len {P : Program} {K : TypeId} {w : World} {b n : Nat} {f : Lit → Option Value} {t e : TypeId} (h : KMap P K w b n f) (Kd : Keyed P K) (ht : P.underlying t = some (.map K e)) (ty : TypeId) {ks : List Lit} (hk : ks.Pairwise (· ≠ ·)) (hi : ∀ x ∈ ks, WideAt.IsKeyLit x) (hf : ∀ l, WideAt.IsKeyLit l → ((f l).isSome = true ↔ l ∈ ks)) :
    (Builtin.len_ #[t] ty #[.map (some b)]).run P w = .ok (.int .i64 ks.length) w := by
  obtain ⟨D, h1, h2⟩ := h
  rw [h1.len ht ty]
  obtain ⟨es, rfl, hp, he⟩ := h1.entries Kd
  have hs : Maps.size (.map es) = ks.length := by
    rw [size_eq, ← List.length_map (f := Prod.fst)]
    have hp' : (es.map Prod.fst).Pairwise (· ≠ ·) := List.pairwise_map.2 hp
    refine Nat.le_antisymm (length_le_of_nodup _ _ hp' (fun x hx => ?_)) (length_le_of_nodup _ _ hk (fun x hx => ?_))
    · obtain ⟨p, hpe, rfl⟩ := List.mem_map.1 hx
      refine (hf _ (he p hpe)).1 ?_
      rw [← (h2 _ (he p hpe)).1, has_eq, List.any_eq_true]
      exact ⟨p, hpe, WideAt.sameKey_self (he p hpe)⟩
    · have h3 := (hf x (hi x hx)).2 hx
      rw [← (h2 x (hi x hx)).1, has_eq, List.any_eq_true] at h3
      obtain ⟨p, hpe, hs⟩ := h3
      refine List.mem_map.2 ⟨p, hpe, ?_⟩
      exact WideAt.sameKey_eq hs
  rw [hs]

end Go.Proofs.Yteddkgpnklfppaa

namespace Go.Proofs.Yteddkgpnklfppaa
open Go.RowKit Go.Sort Go.Maps

theorem teach_no {w : World} {yb : Nat} {x y : Int} (hf : Ru.fits x y = false) :
    Calls Try.prog 19 #[pointV x y, .func (.func 20) #[] #[.pointer (some ⟨yb, 0, none⟩)]] w fun e w' => e = .returned (.bool false) ∧ Below w.heap.size w w' := by
  have hof := hid (tOf_no (k := 16) (Nat.le_refl _) hf)
  have Q1 := hid (balloc w (.cells #[.int .i64 x, .int .i64 y] 26))
  clear hf
  unfold pointV cellV at *
  go_enter Try.func19, Try.ntmps19
  go_wp2_with fail
  refine (hof.out _).mono ?_
  rintro e w1 ⟨rfl, hb1⟩
  have Q2 := hid (bthen (bthen Q1.out hb1) (balloc w1 (.cells #[.int .i64 0, .int .i64 0, .int .i64 0] 24)))
  clear hb1
  go_wp2_with fail
  go_ret
  exact ⟨rfl, Q2.out⟩
set_option maxHeartbeats 1000000 in
theorem tadd_yes {w : World} {y : Nat} {L : List Tc.Rec} {r : Tc.Rec} (hP : Py w y L) (hr : r.fit) (hn : L.length ≤ 1000) :
    Calls Try.prog 7 #[.pointer (some ⟨y, 0, none⟩), pointV r.x r.y] w fun e w' => e = .returned (.bool true) ∧ Py w' y (L ++ [r]) ∧ Keep (PyS y) w w' := by
  have hlt := hP.lt
  have z1 := balloc w (.cells #[.pointer (some ⟨y, 0, none⟩)] 30)
  have z2 := balloc (w.alloc (.cells #[.pointer (some ⟨y, 0, none⟩)] 30)) (.cells #[.int .i64 r.x, .int .i64 r.y] 26)
  have P1 := hid ((hP.ext z1).ext z2)
  have Y1 := hid ((Blk.new w #[.pointer (some ⟨y, 0, none⟩)] 30).ext z2)
  have X1 := hid (Blk.newAt (w := w.alloc (.cells #[.pointer (some ⟨y, 0, none⟩)] 30)) (k := w.heap.size + 1) (by simp) #[.int .i64 r.x, .int .i64 r.y] 26)
  have Q1 := hid (bthen z1 z2)
  have hr' := hid hr
  clear z1 z2 hP hr
  unfold pointV
  go_enter Try.func7, Try.ntmps7
  go_wp2_with fail
  refine (tpmade_any P1.out.blk).mono ?_
  rintro e w1 ⟨rfl, rfl⟩
  go_wp2_with fail
  refine (teach_yes (r := r) P1.out Y1.out hlt hr'.out hn).mono ?_
  rintro e w2 ⟨rfl, hp, hk⟩
  have P2 := hid hp
  have K2 := hid ((Keep.of_below Q1.out).trans hk)
  clear hp hk
  go_wp2_with fail
  go_ret
  exact ⟨rfl, P2.out, K2.out⟩
theorem tadd_no {w : World} {y : Nat} {L : List Tc.Rec} {x v : Int} (hP : Py w y L) (hr : Ru.fits x v = false) :
    Calls Try.prog 7 #[.pointer (some ⟨y, 0, none⟩), pointV x v] w fun e w' => e = .returned (.bool false) ∧ Below w.heap.size w w' := by
  have z1 := balloc w (.cells #[.pointer (some ⟨y, 0, none⟩)] 30)
  have z2 := balloc (w.alloc (.cells #[.pointer (some ⟨y, 0, none⟩)] 30)) (.cells #[.int .i64 x, .int .i64 v] 26)
  have P1 := hid ((hP.ext z1).ext z2)
  have Q1 := hid (bthen z1 z2)
  have hn := hid (fun w yb => teach_no (w := w) (yb := yb) hr)
  clear z1 z2 hP hr
  unfold pointV at *
  go_enter Try.func7, Try.ntmps7
  go_wp2_with fail
  refine (tpmade_any P1.out.blk).mono ?_
  rintro e w1 ⟨rfl, rfl⟩
  go_wp2_with fail
  refine (hn.out _ _).mono ?_
  rintro e w2 ⟨rfl, hb⟩
  have Q2 := hid (bthen Q1.out hb)
  clear hb
  go_wp2_with fail
  go_ret
  exact ⟨rfl, Q2.out⟩
set_option maxRecDepth 100000 in
set_option maxHeartbeats 1000000 in
theorem tcount_yes {w : World} {y k : Nat} {x v : Int} {L : List Tc.Rec} (hP : Py w y L) (hk : k ≤ 16) (h1 : 0 ≤ x) (h2 : x < 2 ^ k) (h3 : 0 ≤ v) (h4 : v < 2 ^ k) :
    Calls Try.prog 10 #[.pointer (some ⟨y, 0, none⟩), cellV k x v] w fun e w' => e = .returned (.int .i64 (Tc.cntK k (Tc.mort k x v) L)) ∧ Below w.heap.size w w' := by
  have z1 := balloc w (.cells #[.int .i64 k, .int .i64 x, .int .i64 v] 24)
  have P1 := hid (hP.ext z1)
  have C1 := hid (Blk.new w #[.int .i64 k, .int .i64 x, .int .i64 v] 24)
  have Q1 := hid z1
  have hco := hid (tcode_yes hk h1 h2 h3 h4)
  obtain ⟨m0, m1⟩ := mort_small k hk x v
  have hg := hid (lvF_get k L (Tc.mort k x v))
  have hkey := hid (keyU m0 m1)
  clear z1 hP h1 h2 h3 h4 m0 m1
  generalize Tc.mort k x v = m at *
  generalize Tc.cntK k m L = c at *
  unfold cellV at *
  go_enter Try.func10, Try.ntmps10
  go_wp2_with fail
  refine (hco.out _).mono ?_
  rintro e w1 ⟨rfl, hb1⟩
  have P2 := hid (P1.out.ext hb1)
  have C2 := hid (C1.out.ext hb1)
  have Q2 := hid (bthen Q1.out hb1)
  clear hb1 P1 C1 Q1 hco
  go_wp2_with fail
  refine (tpmade_any P2.out.blk).mono ?_
  rintro e w2 ⟨rfl, rfl⟩
  have hl : k < 17 := by omega
  have c0 : w1.cell? ⟨y, k, none⟩ = some (.map (some (y + 1 + k))) := P2.out.blk.cell k (by rw [pyCells_get _ _ hl, if_pos hl])
  have q0 : w1.cell? ⟨w.heap.size, 0, none⟩ = some (.int .i64 k) := C2.out.cell 0 rfl
  have j0 : (0 : Int) ≤ k := by omega
  have j1 : (k : Int) < 17 := by omega
  have hlook : ∀ n, Sem.run Try.prog (Instr.lookup 53 (.map (some (y + 1 + k))) (.int .u64 m) false) (w1.drewN n) = .ok (.int .i64 c) (w1.drewN n) := fun n => by
    have h := ((P2.out.at hl).drewN n).look1 lawU Try.underlying53 (zeroI _) hkey.out trivial
    rw [hg.out] at h
    exact h
  have P3 := hid P2
  clear P2 C2 hg hkey
  go_wp2_with fail
  go_quiet (fail)
  go_wp2_with fail
  go_ret
  exact ⟨rfl, bdrewN Q2.out _⟩
theorem tcount_no {w : World} {y : Nat} {l x v : Int} (h : cellR l x v = false) :
    Calls Try.prog 10 #[.pointer (some ⟨y, 0, none⟩), cellV l x v] w fun e w' => e = .returned (.int .i64 0) ∧ Below w.heap.size w w' := by
  have Q1 := hid (balloc w (.cells #[.int .i64 l, .int .i64 x, .int .i64 v] 24))
  have hco := hid (tcode_no h)
  clear h
  unfold cellV at *
  go_enter Try.func10, Try.ntmps10
  go_wp2_with fail
  refine (hco.out _).mono ?_
  rintro e w1 ⟨rfl, hb1⟩
  have Q2 := hid (bthen Q1.out hb1)
  clear hb1
  go_wp2_with fail
  go_ret
  exact ⟨rfl, Q2.out⟩
theorem cnt_root (L : List Tc.Rec) : Tc.cntK 0 (Tc.mort 0 0 0) L = L.length := by
  unfold Tc.cntK
  rw [List.filter_eq_self.2 (fun r _ => by unfold Tc.key Tc.mort; simp)]
theorem ttotal_any {w : World} {y : Nat} {L : List Tc.Rec} (hP : Py w y L) :
    Calls Try.prog 12 #[.pointer (some ⟨y, 0, none⟩)] w fun e w' => e = .returned (.int .i64 L.length) ∧ Below w.heap.size w w' := by
  have hc := hid (tcount_yes (k := 0) (x := 0) (v := 0) hP (by omega) (by decide) (by decide) (by decide) (by decide))
  rw [cnt_root] at hc
  clear hP
  unfold cellV at hc
  go_enter Try.func12, Try.ntmps12
  go_wp2_with fail
  refine hc.out.mono ?_
  rintro e w1 ⟨rfl, hb1⟩
  have Q2 := hid hb1
  clear hb1
  go_wp2_with fail
  go_ret
  exact ⟨rfl, Q2.out⟩

end Go.Proofs.Yteddkgpnklfppaa
