/- The checker of rules in memory; the walks of its methods wrong, set, where. -/
import Derived.Test.YtelphkhacadfaaaRuG
import Derived.Test.YtelphkhacadfaaaMap
namespace Go.Proofs.Ytelphkhacadfaaa
open Go.RowKit Go.Sort Go.Maps

def numF (ahead : List Po.Decl) (k : Int) : Lit → Option Value
  | .string t => (Ru.declared ahead k ⟨t.toArray⟩).map fun d => .int .i64 d.n
  | _ => none
def outF (b1 b2 : Nat) : Lit → Option Value
  | .int .i64 x => if x = 1 then some (.map (some b1)) else if x = 2 then some (.map (some b2)) else none
  | _ => none
def regF (ahead : List Po.Decl) (rg : ByteArray → Value) : Lit → Option Value
  | .string t => (Ru.declared ahead 3 ⟨t.toArray⟩).map fun _ => rg ⟨t.toArray⟩
  | _ => none
def rulesCells (rs : List Ru.Rule) (vs : List Value) : List Value := (rs.zip vs).flatMap fun p => (ruleArr p.1 p.2).toList

/-- what was declared, and the rules so far, in memory -/
structure Inner (w : World) (bo b1 b2 br c : Nat) (ahead : List Po.Decl) (rules : List Ru.Rule) (rv : Value) (vs : List Value) (rg : ByteArray → Value) : Prop where
  ord : bo < b1 ∧ b1 < b2 ∧ b2 < br ∧ br < c ∧ c < w.heap.size
  outer : KMap Try.prog 3 w bo 2 (outF b1 b2)
  nums1 : KMap Try.prog 9 w b1 ahead.length (numF ahead 1)
  nums2 : KMap Try.prog 9 w b2 ahead.length (numF ahead 2)
  regs : KMap Try.prog 9 w br ahead.length (regF ahead rg)
  rows : ∀ nm d, Ru.declared ahead 3 nm = some d → Row w (rg nm) d.boxes.length 4 (boxesCells d.boxes) ∧ d.boxes.length * 32 ≤ 140737488355328 ∧ ∀ b, (rg nm).ownBlock = some b → c < b ∧ rv.ownBlock ≠ some b
  len : vs.length = rules.length
  own : w.ownsRow (c + 1) 36 7 rv rules.length (rulesCells rules vs)
  box : ∀ (i : Nat) r x, rules[i]? = some r → vs[i]? = some x → Row w x r.boxes.length 4 (boxesCells r.boxes) ∧ r.boxes.length * 32 ≤ 140737488355328 ∧ ∀ b, x.ownBlock = some b → c < b ∧ rv.ownBlock ≠ some b
theorem Inner.touch {w w' : World} {bo b1 b2 br c : Nat} {ahead : List Po.Decl} {rules : List Ru.Rule} {rv : Value} {vs : List Value} {rg : ByteArray → Value} (h : Inner w bo b1 b2 br c ahead rules rv vs rg) (ht : Touch c w w') : Inner w' bo b1 b2 br c ahead rules rv vs rg := by
  obtain ⟨o1, o2, o3, o4, o5⟩ := h.ord
  refine ⟨⟨o1, o2, o3, o4, Nat.lt_of_lt_of_le o5 ht.size⟩, h.outer.touch ht (by omega), h.nums1.touch ht (by omega), h.nums2.touch ht (by omega), h.regs.touch ht (by omega), ?_, h.len, owns_touch h.own ht (by omega), ?_⟩
  · intro nm d hd
    obtain ⟨r1, r2, r3⟩ := h.rows nm d hd
    exact ⟨r1.touch ht (fun e => by have := (r3 c e).1; omega), r2, r3⟩
  · intro i r x hr hx
    obtain ⟨r1, r2, r3⟩ := h.box i r x hr hx
    exact ⟨r1.touch ht (fun e => by have := (r3 c e).1; omega), r2, r3⟩
theorem Inner.ext {w w' : World} {bo b1 b2 br c : Nat} {ahead : List Po.Decl} {rules : List Ru.Rule} {rv : Value} {vs : List Value} {rg : ByteArray → Value} (h : Inner w bo b1 b2 br c ahead rules rv vs rg) (hb : Below w.heap.size w w') : Inner w' bo b1 b2 br c ahead rules rv vs rg :=
  h.touch (Touch.of_below hb)

def ckCells (bo br : Nat) (k : Ru.Ck) (rv : Value) : Array Value := #[.map (some bo), .map (some br), rv, .int .i64 k.boxes, .int .i64 k.f.1, .int .i64 k.f.2.1, .int .i64 k.f.2.2]
/-- the checker in block c -/
structure Chk (w : World) (bo b1 b2 br c : Nat) (ahead : List Po.Decl) (k : Ru.Ck) (rv : Value) : Prop where
  blk : Blk w c (ckCells bo br k rv) 56
  inn : ∃ vs rg, Inner w bo b1 b2 br c ahead k.rules rv vs rg
structure ChkF (w : World) (bo br c : Nat) (rv : Value) (boxes fe fl fc : Int) : Prop where
  c0 : w.cell? ⟨c, 0, none⟩ = some (.map (some bo))
  c1 : w.cell? ⟨c, 1, none⟩ = some (.map (some br))
  c2 : w.cell? ⟨c, 2, none⟩ = some rv
  c3 : w.cell? ⟨c, 3, none⟩ = some (.int .i64 boxes)
  c4 : w.cell? ⟨c, 4, none⟩ = some (.int .i64 fe)
  c5 : w.cell? ⟨c, 4 + 1, none⟩ = some (.int .i64 fl)
  c6 : w.cell? ⟨c, 4 + 1 + 1, none⟩ = some (.int .i64 fc)
  free : ∀ o, w.frozen? ⟨c, o, none⟩ = false
  lt : c < w.heap.size
theorem Chk.f {w : World} {bo b1 b2 br c : Nat} {ahead : List Po.Decl} {k : Ru.Ck} {rv : Value} (h : Chk w bo b1 b2 br c ahead k rv) : ChkF w bo br c rv k.boxes k.f.1 k.f.2.1 k.f.2.2 :=
  ⟨h.blk.cell 0 rfl, h.blk.cell 1 rfl, h.blk.cell 2 rfl, h.blk.cell 3 rfl, h.blk.cell 4 rfl, h.blk.cell 5 rfl, h.blk.cell 6 rfl, h.blk.free, h.blk.lt⟩
theorem Chk.ext {w w' : World} {bo b1 b2 br c : Nat} {ahead : List Po.Decl} {k : Ru.Ck} {rv : Value} (h : Chk w bo b1 b2 br c ahead k rv) (hb : Below w.heap.size w w') : Chk w' bo b1 b2 br c ahead k rv :=
  ⟨h.blk.ext hb, by obtain ⟨vs, rg, hi⟩ := h.inn; exact ⟨vs, rg, hi.ext hb⟩⟩
theorem Chk.setF {w : World} {bo b1 b2 br c : Nat} {ahead : List Po.Decl} {k : Ru.Ck} {rv : Value} (h : Chk w bo b1 b2 br c ahead k rv) (x y z : Int) :
    Chk (((w.setCell ⟨c, 4, none⟩ (.int .i64 x)).setCell ⟨c, 4 + 1, none⟩ (.int .i64 y)).setCell ⟨c, 4 + 1 + 1, none⟩ (.int .i64 z)) bo b1 b2 br c ahead { k with f := (x, y, z) } rv :=
  ⟨((h.blk.set 4 _).set 5 _).set 6 _, by
    obtain ⟨vs, rg, hi⟩ := h.inn
    exact ⟨vs, rg, hi.touch ((((Touch.refl c w).setCell 4 _).setCell (4 + 1) _).setCell (4 + 1 + 1) _)⟩⟩

set_option maxHeartbeats 1000000 in
theorem cwrong_any {w : World} {bo b1 b2 br c : Nat} {ahead : List Po.Decl} {k : Ru.Ck} {rv : Value} (h : Chk w bo b1 b2 br c ahead k rv) (e l p : Int) :
    Calls Try.prog 65 #[.pointer (some ⟨c, 0, none⟩), .int .i64 e, .agg #[.int .i64 l, .int .i64 p]] w fun en w' => en = .returned (.tuple #[]) ∧ Chk w' bo b1 b2 br c ahead (k.wrong e l p) rv ∧ Touch c w w' := by
  have h1 := hid h
  obtain ⟨c0, c1, c2, c3, c4, c5, c6, hf, hlt⟩ := h.f
  have hne : c ≠ w.heap.size := by omega
  have hne' : w.heap.size ≠ c := by omega
  clear h
  obtain ⟨rules, boxes, fe, fl, fp⟩ := k
  simp only at c3 c4 c5 c6
  by_cases h0 : fe = 0
  · subst h0
    have he := hid (show (Ru.Ck.mk rules boxes (0, fl, fp)).wrong e l p = ⟨rules, boxes, (e, l, p)⟩ from Ru.wrong_f rfl e l p)
    go_enter Try.func65, Try.ntmps65
    go_wp2_with fail
    go_end0
    rw [he.out]
    exact ⟨rfl, (h1.out.setF e l p).ext (balloc _ _), ((((Touch.refl c w).setCell _ _).setCell _ _).setCell _ _).alloc _⟩
  · have k0 : (fe == 0) = false := beq_eq_false_iff_ne.2 h0
    have he := hid (show (Ru.Ck.mk rules boxes (fe, fl, fp)).wrong e l p = ⟨rules, boxes, (fe, fl, fp)⟩ from Ru.wrong_stopped h0 e l p)
    clear h0
    go_enter Try.func65, Try.ntmps65
    go_wp2_with fail
    go_end0
    rw [he.out]
    exact ⟨rfl, h1.out.ext (balloc _ _), (Touch.refl c w).alloc _⟩

end Go.Proofs.Ytelphkhacadfaaa
