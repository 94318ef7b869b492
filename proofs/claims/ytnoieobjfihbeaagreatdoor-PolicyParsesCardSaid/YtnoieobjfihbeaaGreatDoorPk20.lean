/-
  The checker of rules in memory; the walks of its methods wrong, set, where.
  The walks of the checker's set and where.
  Rows of boxes that are copied: small laws.
  The walk of the checker's where.
  What was declared, with one declaration more.
  The walk of the checker's number.
-/
import Derived.Test.YtnoieobjfihbeaaGreatDoorPk17
import Derived.Test.YtnoieobjfihbeaaGreatDoorPk19
import Derived.Test.YtnoieobjfihbeaaGreatDoorPk11
import Derived.StillTailTactics

namespace Go.Proofs.YtnoieobjfihbeaaGreatDoor
open Go.RowKit Go.Sort Go.Maps

def numF (ahead : List Po.Decl) (k : Int) : Lit → Option Value
  | .string t => (Ru.declared ahead k ⟨t.toArray⟩).map fun d => .int .i64 d.n
  | _ => none
def outF (b1 b2 : Nat) : Lit → Option Value
  | .int .i64 x => if x = 1 then some (.map (some b1)) else if x = 2 then some (.map (some b2)) else none
  | _ => none
def regF (ahead : List Po.Decl) (rg : ByteArray → Value) : Lit → Option Value
  | .string t => (Ru.declared ahead 3 ⟨t.toArray⟩).map fun _ => rg ⟨t.toArray⟩
  | _ => none
def rulesCells (rs : List Ru.Rule) (vs : List Value) : List Value := (rs.zip vs).flatMap fun p => (ruleArr p.1 p.2).toList

/-- what was declared, and the rules so far, in memory -/
structure Inner (w : World) (bo b1 b2 br c : Nat) (ahead : List Po.Decl) (rules : List Ru.Rule) (rv : Value) (vs : List Value) (rg : ByteArray → Value) : Prop where
  ord : bo < b1 ∧ b1 < b2 ∧ b2 < br ∧ br < c ∧ c < w.heap.size
  outer : KMap Tryz.prog 3 w bo 2 (outF b1 b2)
  nums1 : KMap Tryz.prog 9 w b1 ahead.length (numF ahead 1)
  nums2 : KMap Tryz.prog 9 w b2 ahead.length (numF ahead 2)
  regs : KMap Tryz.prog 9 w br ahead.length (regF ahead rg)
  rows : ∀ nm d, Ru.declared ahead 3 nm = some d → Row w (rg nm) d.boxes.length 4 (boxesCells d.boxes) ∧ d.boxes.length * 32 ≤ 140737488355328 ∧ ∀ b, (rg nm).ownBlock = some b → c < b ∧ rv.ownBlock ≠ some b
  len : vs.length = rules.length
  own : w.ownsRow (c + 1) 74 7 rv rules.length (rulesCells rules vs)
  box : ∀ (i : Nat) r x, rules[i]? = some r → vs[i]? = some x → Row w x r.boxes.length 4 (boxesCells r.boxes) ∧ r.boxes.length * 32 ≤ 140737488355328 ∧ ∀ b, x.ownBlock = some b → c < b ∧ rv.ownBlock ≠ some b
theorem Inner.touch {w w' : World} {bo b1 b2 br c : Nat} {ahead : List Po.Decl} {rules : List Ru.Rule} {rv : Value} {vs : List Value} {rg : ByteArray → Value} (h : Inner w bo b1 b2 br c ahead rules rv vs rg) (ht : Touch c w w') : Inner w' bo b1 b2 br c ahead rules rv vs rg := by
  obtain ⟨o1, o2, o3, o4, o5⟩ := h.ord
  refine ⟨⟨o1, o2, o3, o4, Nat.lt_of_lt_of_le o5 ht.size⟩, h.outer.touch ht (by omega), h.nums1.touch ht (by omega), h.nums2.touch ht (by omega), h.regs.touch ht (by omega), ?_, h.len, owns_touch h.own ht (by omega), ?_⟩
  · intro nm d hd
    obtain ⟨r1, r2, r3⟩ := h.rows nm d hd
    exact ⟨r1.touch ht (fun e => by have := (r3 c e).1; omega), r2, r3⟩
  · intro i r x hr hx
    obtain ⟨r1, r2, r3⟩ := h.box i r x hr hx
    exact ⟨r1.touch ht (fun e => by have := (r3 c e).1; omega), r2, r3⟩
theorem Inner.ext {w w' : World} {bo b1 b2 br c : Nat} {ahead : List Po.Decl} {rules : List Ru.Rule} {rv : Value} {vs : List Value} {rg : ByteArray → Value} (h : Inner w bo b1 b2 br c ahead rules rv vs rg) (hb : Below w.heap.size w w') : Inner w' bo b1 b2 br c ahead rules rv vs rg :=
  h.touch (Touch.of_below hb)

def ckCells (bo br : Nat) (k : Ru.Ck) (rv : Value) : Array Value := #[.map (some bo), .map (some br), rv, .int .i64 k.boxes, .int .i64 k.f.1, .int .i64 k.f.2.1, .int .i64 k.f.2.2]
/-- the checker in block c -/
structure Chk (w : World) (bo b1 b2 br c : Nat) (ahead : List Po.Decl) (k : Ru.Ck) (rv : Value) : Prop where
  blk : Blk w c (ckCells bo br k rv) 123
  inn : ∃ vs rg, Inner w bo b1 b2 br c ahead k.rules rv vs rg
structure ChkF (w : World) (bo br c : Nat) (rv : Value) (boxes fe fl fc : Int) : Prop where
  c0 : w.cell? ⟨c, 0, none⟩ = some (.map (some bo))
  c1 : w.cell? ⟨c, 1, none⟩ = some (.map (some br))
  c2 : w.cell? ⟨c, 2, none⟩ = some rv
  c3 : w.cell? ⟨c, 3, none⟩ = some (.int .i64 boxes)
  c4 : w.cell? ⟨c, 4, none⟩ = some (.int .i64 fe)
  c5 : w.cell? ⟨c, 4 + 1, none⟩ = some (.int .i64 fl)
  c6 : w.cell? ⟨c, 4 + 1 + 1, none⟩ = some (.int .i64 fc)
  free : ∀ o, w.frozen? ⟨c, o, none⟩ = false
  lt : c < w.heap.size
theorem Chk.f {w : World} {bo b1 b2 br c : Nat} {ahead : List Po.Decl} {k : Ru.Ck} {rv : Value} (h : Chk w bo b1 b2 br c ahead k rv) : ChkF w bo br c rv k.boxes k.f.1 k.f.2.1 k.f.2.2 :=
  ⟨h.blk.cell 0 rfl, h.blk.cell 1 rfl, h.blk.cell 2 rfl, h.blk.cell 3 rfl, h.blk.cell 4 rfl, h.blk.cell 5 rfl, h.blk.cell 6 rfl, h.blk.free, h.blk.lt⟩
theorem Chk.ext {w w' : World} {bo b1 b2 br c : Nat} {ahead : List Po.Decl} {k : Ru.Ck} {rv : Value} (h : Chk w bo b1 b2 br c ahead k rv) (hb : Below w.heap.size w w') : Chk w' bo b1 b2 br c ahead k rv :=
  ⟨h.blk.ext hb, by obtain ⟨vs, rg, hi⟩ := h.inn; exact ⟨vs, rg, hi.ext hb⟩⟩
theorem Chk.setF {w : World} {bo b1 b2 br c : Nat} {ahead : List Po.Decl} {k : Ru.Ck} {rv : Value} (h : Chk w bo b1 b2 br c ahead k rv) (x y z : Int) :
    Chk (((w.setCell ⟨c, 4, none⟩ (.int .i64 x)).setCell ⟨c, 4 + 1, none⟩ (.int .i64 y)).setCell ⟨c, 4 + 1 + 1, none⟩ (.int .i64 z)) bo b1 b2 br c ahead { k with f := (x, y, z) } rv :=
  ⟨((h.blk.set 4 _).set 5 _).set 6 _, by
    obtain ⟨vs, rg, hi⟩ := h.inn
    exact ⟨vs, rg, hi.touch ((((Touch.refl c w).setCell 4 _).setCell (4 + 1) _).setCell (4 + 1 + 1) _)⟩⟩

set_option maxHeartbeats 1000000 in
theorem cwrong_any {w : World} {bo b1 b2 br c : Nat} {ahead : List Po.Decl} {k : Ru.Ck} {rv : Value} (h : Chk w bo b1 b2 br c ahead k rv) (e l p : Int) :
    Calls Tryz.prog 117 #[.pointer (some ⟨c, 0, none⟩), .int .i64 e, .agg #[.int .i64 l, .int .i64 p]] w fun en w' => en = .returned (.tuple #[]) ∧ Chk w' bo b1 b2 br c ahead (k.wrong e l p) rv ∧ Touch c w w' := by
  have h1 := hid h
  obtain ⟨c0, c1, c2, c3, c4, c5, c6, hf, hlt⟩ := h.f
  have hne : c ≠ w.heap.size := by omega
  have hne' : w.heap.size ≠ c := by omega
  clear h
  obtain ⟨rules, boxes, fe, fl, fp⟩ := k
  simp only at c3 c4 c5 c6
  by_cases h0 : fe = 0
  · subst h0
    have he := hid (show (Ru.Ck.mk rules boxes (0, fl, fp)).wrong e l p = ⟨rules, boxes, (e, l, p)⟩ from Ru.wrong_f rfl e l p)
    go_enter Tryz.func117, Tryz.ntmps117
    go_wp2_with fail
    go_end0
    rw [he.out]
    exact ⟨rfl, (h1.out.setF e l p).ext (balloc _ _), ((((Touch.refl c w).setCell _ _).setCell _ _).setCell _ _).alloc _⟩
  · have k0 : (fe == 0) = false := beq_eq_false_iff_ne.2 h0
    have he := hid (show (Ru.Ck.mk rules boxes (fe, fl, fp)).wrong e l p = ⟨rules, boxes, (fe, fl, fp)⟩ from Ru.wrong_stopped h0 e l p)
    clear h0
    go_enter Tryz.func117, Tryz.ntmps117
    go_wp2_with fail
    go_end0
    rw [he.out]
    exact ⟨rfl, h1.out.ext (balloc _ _), (Touch.refl c w).alloc _⟩

end Go.Proofs.YtnoieobjfihbeaaGreatDoor

namespace Go.Proofs.YtnoieobjfihbeaaGreatDoor
open Go.RowKit Go.Sort Go.Maps

theorem zeroMap (w : World) : (zeroValue 119).run Tryz.prog w = .ok (.map none) w := by kernel_rfl
theorem zeroInt (w : World) : (zeroValue 3).run Tryz.prog w = .ok (.int .i64 0) w := by kernel_rfl
theorem zeroRects (w : World) : (zeroValue 45).run Tryz.prog w = .ok (.slice none 0 0) w := by kernel_rfl
theorem lawI : Keyed Tryz.prog 3 := int_keyed Tryz.underlying3
theorem lawS : Keyed Tryz.prog 9 := string_keyed Tryz.underlying9
theorem keyI {x : Int} (hx : x = 1 ∨ x = 2) : keyOf Tryz.prog 3 (.int .i64 x) = some (.int .i64 x) := by
  rcases hx with rfl | rfl
  · exact keyOf_int_mk Tryz.underlying3 (by decide)
  · exact keyOf_int_mk Tryz.underlying3 (by decide)
theorem keyS {s : ByteArray} (hs : s.size ≤ 140737488355328) : keyOf Tryz.prog 9 (.string s) = some (.string s.data.toList) := Go.WideMaps.keyOf_string_mk Tryz.underlying9 (by unfold maxLen; omega)
theorem byt (s : ByteArray) : (⟨s.data.toList.toArray⟩ : ByteArray) = s := by cases s; simp

theorem Chk.drewN {w : World} {bo b1 b2 br c : Nat} {ahead : List Po.Decl} {k : Ru.Ck} {rv : Value} (h : Chk w bo b1 b2 br c ahead k rv) (n : Nat) : Chk (w.drewN n) bo b1 b2 br c ahead k rv := h.ext (bdrewN (Below.refl _ _) n)
/-- a number's name looked up -/
def lookN (ahead : List Po.Decl) (k : Int) (s : ByteArray) : Int := match Ru.declared ahead k s with | some d => d.n | none => 0
theorem Chk.look {w : World} {bo b1 b2 br c : Nat} {ahead : List Po.Decl} {k : Ru.Ck} {rv : Value} (h : Chk w bo b1 b2 br c ahead k rv) {kd : Int} (hk : kd = 1 ∨ kd = 2) {s : ByteArray} (hs : s.size ≤ 140737488355328) :
    ∃ bk, (bk = b1 ∧ kd = 1 ∨ bk = b2 ∧ kd = 2) ∧ (∀ n, Sem.run Tryz.prog (Instr.lookup 120 (.map (some bo)) (.int .i64 kd) false) (w.drewN n) = .ok (.map (some bk)) (w.drewN n)) ∧
      ∀ n, Sem.run Tryz.prog (Instr.lookup 119 (.map (some bk)) (.string s) true) (w.drewN n) = .ok (.tuple #[.int .i64 (lookN ahead kd s), .bool (Ru.declared ahead kd s).isSome]) (w.drewN n) := by
  obtain ⟨vs, rg, hi⟩ := h.inn
  have ho := fun n => (hi.outer.drewN n).look1 lawI Tryz.underlying120 (zeroMap _) (keyI hk) trivial
  have key : ∀ bk, KMap Tryz.prog 9 w bk ahead.length (numF ahead kd) → ∀ n, Sem.run Tryz.prog (Instr.lookup 119 (.map (some bk)) (.string s) true) (w.drewN n) = .ok (.tuple #[.int .i64 (lookN ahead kd s), .bool (Ru.declared ahead kd s).isSome]) (w.drewN n) := by
    intro bk hm n
    have := (hm.drewN n).look lawS Tryz.underlying119 (zeroInt _) (keyS hs) trivial
    rw [this]
    unfold numF lookN
    simp only [byt]
    cases Ru.declared ahead kd s <;> simp
  rcases hk with rfl | rfl
  · exact ⟨b1, .inl ⟨rfl, rfl⟩, ho, key b1 hi.nums1⟩
  · exact ⟨b2, .inr ⟨rfl, rfl⟩, ho, key b2 hi.nums2⟩
theorem shl_ok {n : Int} (h0 : 0 ≤ n) (h7 : n ≤ 7) : wrap64 (2 ^ n.toNat) = 2 ^ n.toNat := by
  have : n = 0 ∨ n = 1 ∨ n = 2 ∨ n = 3 ∨ n = 4 ∨ n = 5 ∨ n = 6 ∨ n = 7 := by omega
  rcases this with rfl | rfl | rfl | rfl | rfl | rfl | rfl | rfl <;> decide +kernel

set_option maxHeartbeats 2000000 in
theorem cset_any {w : World} {bo b1 b2 br c : Nat} {ahead : List Po.Decl} {k : Ru.Ck} {rv : Value} (h : Chk w bo b1 b2 br c ahead k rv) {kd : Int} (hk : kd = 1 ∨ kd = 2) (x : Po.Who) (hs : x.name.size ≤ 140737488355328) (hp : x.any = false → 0 ≤ Ru.whoN ahead kd x) :
    Calls Tryz.prog 118 #[.pointer (some ⟨c, 0, none⟩), .int .i64 kd, .agg (whoArr x)] w fun en w' => en = .returned (.int .i64 (Ru.setN ahead kd x)) ∧ Chk w' bo b1 b2 br c ahead (k.wrongIf (Ru.setE ahead kd x) x.line x.col) rv ∧ Touch c w w' := by
  have hz := balloc w (.cells (whoArr x) 47)
  have h1 := hid (h.ext hz)
  have t1 := hid (Touch.of_below (b := c) hz)
  have B0 := hid (Blk.new w (whoArr x) 47)
  obtain ⟨bk, _, l1, l2⟩ := (h.ext hz).look hk hs
  have hc := h.blk.lt
  have hne : w.heap.size ≠ c := by omega
  have hN := hid (show Ru.setN ahead kd x = _ from rfl)
  have hE := hid (show Ru.setE ahead kd x = _ from rfl)
  unfold Ru.setN at hN
  unfold Ru.setE at hE
  clear hz
  cases ha : x.any with
  | true =>
    rw [ha] at hN hE
    obtain ⟨any, name, n, line, col⟩ := x
    simp only at ha
    subst ha
    unfold whoArr at *
    simp only at h1 t1 B0 ⊢
    clear l1 l2
    go_enter Tryz.func118, Tryz.ntmps118
    go_wp2_with fail
    go_ret
    refine ⟨ret_int (by unfold Ru.setN; simp), ?_, t1.out⟩
    unfold Ru.setE
    simp only [if_true, Ru.wrongIf_zero]
    exact h1.out
  | false =>
    have hp0 := hp ha
    by_cases hem : x.name.data.toList = []
    · have hw : Ru.whoN ahead kd x = x.n := by unfold Ru.whoN; rw [if_pos hem]
      rw [hw] at hp0
      have hem' : x.name.toList = [] := by rw [ByteArray.toList_eq]; exact hem
      by_cases h7 : 7 < x.n
      · have eN := hid (show Ru.setN ahead kd x = 0 by unfold Ru.setN; rw [ha, hw, if_neg (by decide), if_pos h7])
        have eE := hid (show Ru.setE ahead kd x = 33 by unfold Ru.setE; rw [ha, hw, if_neg (by decide), if_neg (fun h => h.1 hem), if_pos h7])
        obtain ⟨any, name, n, line, col⟩ := x
        simp only at ha hem' h7 hp0
        subst ha
        unfold whoArr at *
        simp only at h1 t1 B0 ⊢
        clear l1 l2 hN hE hw hp hem
        go_enter Tryz.func118, Tryz.ntmps118
        go_wp2_with fail
        refine (cwrong_any h1.out _ _ _).mono ?_
        rintro en w2 ⟨rfl, h2, t2⟩
        have h2' := hid h2
        have t2' := hid (t1.out.trans t2)
        clear h2 t2
        go_wp2_with fail
        go_ret
        rw [eN.out, eE.out]
        exact ⟨rfl, by unfold Ru.Ck.wrongIf; rw [if_neg (by decide)]; exact h2'.out, t2'.out⟩
      · have eN := hid (show Ru.setN ahead kd x = 2 ^ x.n.toNat by unfold Ru.setN; rw [ha, hw, if_neg (by decide), if_neg h7])
        have eE := hid (show Ru.setE ahead kd x = 0 by unfold Ru.setE; rw [ha, hw, if_neg (by decide), if_neg (fun h => h.1 hem), if_neg h7])
        have h7' : x.n ≤ 7 := by omega
        obtain ⟨any, name, n, line, col⟩ := x
        simp only at ha hem' h7 hp0 h7' eN
        subst ha
        unfold whoArr at *
        simp only at h1 t1 B0 ⊢
        clear l1 l2 hN hE hw hp hem
        go_enter Tryz.func118, Tryz.ntmps118
        go_wp2_with fail
        go_ret
        rw [eN.out, eE.out, Ru.wrongIf_zero]
        exact ⟨ret_int (shl_ok hp0 h7'), h1.out, t1.out⟩
    · have hem' : ¬ x.name.toList = [] := by rw [ByteArray.toList_eq]; exact hem
      have hem2 : (x.name.toList == []) = false := beq_eq_false_iff_ne.2 hem'
      have hw : Ru.whoN ahead kd x = lookN ahead kd x.name := by unfold Ru.whoN lookN; rw [if_neg hem]; cases Ru.declared ahead kd x.name <;> rfl
      cases hd : Ru.declared ahead kd x.name with
      | none =>
        have hl0 : lookN ahead kd x.name = 0 := by unfold lookN; rw [hd]
        have eN := hid (show Ru.setN ahead kd x = 1 by unfold Ru.setN; rw [ha, hw, hl0, if_neg (by decide), if_neg (by decide)]; rfl)
        have eE := hid (show Ru.setE ahead kd x = 21 by unfold Ru.setE; rw [ha, if_neg (by decide), if_pos ⟨hem, hd⟩])
        rw [hl0, hd] at l2
        obtain ⟨any, name, n, line, col⟩ := x
        simp only at ha hem' hem2 l2
        subst ha
        unfold whoArr at *
        simp only at h1 t1 B0 l1 l2 ⊢
        simp only [Option.isSome_none] at l2
        clear hN hE hw hp hem hp0 hl0 hd
        obtain ⟨c0, c1, c2, c3, c4, c5, c6, hf, hlt⟩ := h.f
        have hne' : c ≠ w.heap.size := by omega
        go_enter Tryz.func118, Tryz.ntmps118
        go_wp2_with fail
        go_quiet (fail)
        clear l1 l2 c0 c1 c2 c3 c4 c5 c6 hf
        have h2 := hid (h1.out.drewN nq)
        have t2 := hid (t1.out.drewN nq)
        have B2 := hid (B0.out.drewN nq)
        go_wp2_with fail
        refine (cwrong_any h2.out _ _ _).mono ?_
        rintro en w3 ⟨rfl, h3, t3⟩
        have h3' := hid h3
        have t3' := hid (t2.out.trans t3)
        clear h3 t3
        go_wp2_with fail
        go_ret
        rw [eN.out, eE.out]
        exact ⟨ret_int (by decide), by unfold Ru.Ck.wrongIf; rw [if_neg (by decide)]; exact h3'.out, t3'.out⟩
      | some d =>
        have hl0 : lookN ahead kd x.name = d.n := by unfold lookN; rw [hd]
        rw [hw, hl0] at hp0
        rw [hl0, hd] at l2
        obtain ⟨c0, c1, c2, c3, c4, c5, c6, hf, hlt⟩ := h.f
        have hne' : c ≠ w.heap.size := by omega
        by_cases h7 : 7 < d.n
        · have eN := hid (show Ru.setN ahead kd x = 0 by unfold Ru.setN; rw [ha, hw, hl0, if_neg (by decide), if_pos h7])
          have eE := hid (show Ru.setE ahead kd x = 33 by unfold Ru.setE; rw [ha, hw, hl0, if_neg (by decide), if_neg (fun h => by rw [hd] at h; cases h.2), if_pos h7])
          obtain ⟨any, name, n, line, col⟩ := x
          simp only at ha hem' hem2 l2
          subst ha
          unfold whoArr at *
          simp only at h1 t1 B0 l1 l2 ⊢
          simp only [Option.isSome_some] at l2
          clear hN hE hw hp hem hl0 hd
          generalize d.n = dn at *
          go_enter Tryz.func118, Tryz.ntmps118
          go_wp2_with fail
          go_quiet (fail)
          clear l1 l2 c0 c1 c2 c3 c4 c5 c6 hf
          have h2 := hid (h1.out.drewN nq)
          have t2 := hid (t1.out.drewN nq)
          go_wp2_with fail
          refine (cwrong_any h2.out _ _ _).mono ?_
          rintro en w3 ⟨rfl, h3, t3⟩
          have h3' := hid h3
          have t3' := hid (t2.out.trans t3)
          clear h3 t3
          go_wp2_with fail
          go_ret
          rw [eN.out, eE.out]
          exact ⟨rfl, by unfold Ru.Ck.wrongIf; rw [if_neg (by decide)]; exact h3'.out, t3'.out⟩
        · have eN := hid (show Ru.setN ahead kd x = 2 ^ d.n.toNat by unfold Ru.setN; rw [ha, hw, hl0, if_neg (by decide), if_neg h7])
          have eE := hid (show Ru.setE ahead kd x = 0 by unfold Ru.setE; rw [ha, hw, hl0, if_neg (by decide), if_neg (fun h => by rw [hd] at h; cases h.2), if_neg h7])
          have h7' : d.n ≤ 7 := by omega
          obtain ⟨any, name, n, line, col⟩ := x
          simp only at ha hem' hem2 l2
          subst ha
          unfold whoArr at *
          simp only at h1 t1 B0 l1 l2 ⊢
          simp only [Option.isSome_some] at l2
          clear hN hE hw hp hem hl0 hd
          generalize d.n = dn at *
          go_enter Tryz.func118, Tryz.ntmps118
          go_wp2_with fail
          go_quiet (fail)
          clear l1 l2 c0 c1 c2 c3 c4 c5 c6 hf
          have h2 := hid (h1.out.drewN nq)
          have t2 := hid (t1.out.drewN nq)
          go_wp2_with fail
          go_ret
          rw [eN.out, eE.out, Ru.wrongIf_zero]
          exact ⟨ret_int (shl_ok hp0 h7'), h2.out, t2.out⟩

end Go.Proofs.YtnoieobjfihbeaaGreatDoor

namespace Go.Proofs.YtnoieobjfihbeaaGreatDoor
open Go.RowKit Go.Sort

theorem Touch.of_grown {w w' : World} {b : Nat} (h : w.grownBy w' (some b)) : Touch b w w' := ⟨h.os, h.tape, h.output, h.size, fun k hk hn => h.block k hk (by simpa using hn)⟩
theorem below_of_grown {w w' : World} (h : w.grownBy w' none) : Below w.heap.size w w' := ⟨h.os, h.tape, h.output, h.size, fun i hi => h.block i hi (by simp)⟩
theorem boxesCells_one (l : List Po.Box) : ∀ u ∈ boxesCells l, u.oneCell' = true := by
  intro u hu
  obtain ⟨b, _, hb⟩ := List.mem_flatMap.1 hu
  exact boxCells_one b u hb
theorem boxesCells_len (l : List Po.Box) : (boxesCells l).length = l.length * 4 := by
  induction l with
  | nil => rfl
  | cons b l ih =>
    have e : boxesCells (b :: l) = boxCells b ++ boxesCells l := rfl
    rw [e, List.length_append, ih, List.length_cons]
    show 4 + l.length * 4 = _
    omega
theorem addr_add (g off j : Nat) : (⟨g, off, none⟩ : Addr).add j = ⟨g, off + j, none⟩ := by unfold Addr.add; split <;> simp_all
/-- the cells of a row that lies in memory -/
theorem Row.news {w : World} {g off n cap size : Nat} {xs : List Value} (h : Row w (.slice (some ⟨g, off, none⟩) n cap) n size xs) : ∀ j u, xs[j]? = some u → w.cell? ((⟨g, off, none⟩ : Addr).add j) = some u := by
  rcases h.2 with ⟨hv, _⟩ | ⟨g', off', cap', hv, _, _, hc⟩
  · cases hv
  · cases hv
    intro j u hj
    rw [addr_add]
    exact hc j u hj
end Go.Proofs.YtnoieobjfihbeaaGreatDoor

namespace Go.Proofs.YtnoieobjfihbeaaGreatDoor
open Go.RowKit Go.Sort Go.Maps

/-- a region looked up -/
def lookRv (ahead : List Po.Decl) (rg : ByteArray → Value) (s : ByteArray) : Value := match Ru.declared ahead 3 s with | some _ => rg s | none => .slice none 0 0
theorem Inner.lookR {w : World} {bo b1 b2 br c : Nat} {ahead : List Po.Decl} {rules : List Ru.Rule} {rv : Value} {vs : List Value} {rg : ByteArray → Value} (h : Inner w bo b1 b2 br c ahead rules rv vs rg) {s : ByteArray} (hs : s.size ≤ 140737488355328) :
    ∀ n, Sem.run Tryz.prog (Instr.lookup 121 (.map (some br)) (.string s) true) (w.drewN n) = .ok (.tuple #[lookRv ahead rg s, .bool (Ru.declared ahead 3 s).isSome]) (w.drewN n) := by
  intro n
  have := (h.regs.drewN n).look lawS Tryz.underlying121 (zeroRects _) (keyS hs) trivial
  rw [this]
  unfold regF lookRv
  simp only [byt]
  cases Ru.declared ahead 3 s <;> simp

/-- what 'where' leaves -/
def WherePost (w : World) (bo b1 b2 br c : Nat) (ahead : List Po.Decl) (k : Ru.Ck) (rv : Value) (x : Po.Who) (en : Ending) (w' : World) : Prop :=
  ∃ v, en = .returned v ∧ Row w' v (Ru.whereB ahead x).length 4 (boxesCells (Ru.whereB ahead x)) ∧ (Ru.whereB ahead x).length * 32 ≤ 140737488355328 ∧ (∀ b, v.ownBlock = some b → w.heap.size ≤ b) ∧
    Chk w' bo b1 b2 br c ahead (k.wrongIf (Ru.whereE ahead x) x.line x.col) rv ∧ Touch c w w'

set_option maxHeartbeats 2000000 in
theorem cwhere_any {w : World} {bo b1 b2 br c : Nat} {ahead : List Po.Decl} {k : Ru.Ck} {rv : Value} (h : Chk w bo b1 b2 br c ahead k rv) (x : Po.Who) (hs : x.name.size ≤ 140737488355328) :
    Calls Tryz.prog 119 #[.pointer (some ⟨c, 0, none⟩), .agg (whoArr x)] w (WherePost w bo b1 b2 br c ahead k rv x) := by
  obtain ⟨i0, hinf, hz0, hz1, hz2⟩ := info_parts Tryz.infoRect
  have hz := balloc w (.cells (whoArr x) 47)
  have h1 := hid (h.ext hz)
  have t1 := hid (Touch.of_below (b := c) hz)
  have B0 := hid (Blk.new w (whoArr x) 47)
  have hc := h.blk.lt
  have hne : w.heap.size ≠ c := by omega
  have hwb : Hid (Ru.whereB ahead x = _) := hid rfl
  have hwe : Hid (Ru.whereE ahead x = _) := hid rfl
  cases ha : x.any with
  | true =>
    have eB := hid (show Ru.whereB ahead x = [Ru.grid] by unfold Ru.whereB; rw [ha]; rfl)
    have eE := hid (show Ru.whereE ahead x = 0 by unfold Ru.whereE; rw [ha]; rfl)
    obtain ⟨any, name, n, line, col⟩ := x
    simp only at ha
    subst ha
    unfold whoArr at *
    simp only at h1 t1 B0 ⊢
    clear hz hwb hwe
    go_enter Tryz.func119, Tryz.ntmps119
    go_wp2_with fail
    refine (grid_any _).mono ?_
    rintro en w2 ⟨rfl, hb2⟩
    have h2 := hid (h1.out.ext hb2)
    have t2 := hid (t1.out.below hb2)
    have hz2' := balloc w2 (.cells (boxCells Ru.grid).toArray 107)
    have h3 := hid (h2.out.ext hz2')
    have t3 := hid (t2.out.below hz2')
    have hsz2 := t2.out.size
    have o3 := hid (World.ownsRow_lit (base := w.heap.size) (size := 4) (e := 107) w2 (boxCells Ru.grid).toArray 1 hsz2 (by decide) rfl)
    clear hb2 hz2'
    unfold pboxV
    go_wp2_with fail
    go_ret
    refine ⟨_, rfl, ?_, ?_, fun b hb => (o3.out.lt b hb).1, ?_, t3.out⟩
    · rw [eB.out, show boxesCells [Ru.grid] = boxCells Ru.grid from by simp [boxesCells]]
      exact Row.of_owns o3.out
    · rw [eB.out]; decide
    · rw [eE.out, Ru.wrongIf_zero]; exact h3.out
  | false =>
    obtain ⟨vs, rg, hi⟩ := (h.ext hz).inn
    have l2 := hi.lookR hs
    have hrows := hi.rows x.name
    clear hi hz
    obtain ⟨c0, c1, c2, c3, c4, c5, c6, hf, hlt⟩ := h.f
    have hne' : c ≠ w.heap.size := by omega
    cases hd : Ru.declared ahead 3 x.name with
    | none =>
      have eB := hid (show Ru.whereB ahead x = [] by unfold Ru.whereB; rw [ha, hd]; rfl)
      have eE := hid (show Ru.whereE ahead x = 21 by unfold Ru.whereE; rw [ha, hd]; rfl)
      have hl0 : lookRv ahead rg x.name = .slice none 0 0 := by unfold lookRv; rw [hd]
      rw [hl0, hd] at l2
      obtain ⟨any, name, n, line, col⟩ := x
      simp only at ha l2
      subst ha
      unfold whoArr at *
      simp only at h1 t1 B0 l2 ⊢
      simp only [Option.isSome_none] at l2
      clear hwb hwe hrows hl0 hd
      go_enter Tryz.func119, Tryz.ntmps119
      go_wp2_with fail
      go_quiet (fail)
      clear l2 c0 c1 c2 c3 c4 c5 c6 hf
      have h2 := hid (h1.out.drewN nq)
      have t2 := hid (t1.out.drewN nq)
      have B2 := hid (B0.out.drewN nq)
      go_wp2_with fail
      refine (cwrong_any h2.out _ _ _).mono ?_
      rintro en w3 ⟨rfl, h3, t3⟩
      have h3' := hid h3
      have t3' := hid (t2.out.trans t3)
      clear h3 t3
      go_wp2_with fail
      go_ret
      refine ⟨_, rfl, ?_, ?_, fun b hb => by simp [Value.ownBlock] at hb, ?_, t3'.out⟩
      · rw [eB.out]; exact Row.nil _ 4
      · rw [eB.out]; decide
      · rw [eE.out]; unfold Ru.Ck.wrongIf; rw [if_neg (by decide)]; exact h3'.out
    | some d =>
      have eB := hid (show Ru.whereB ahead x = d.boxes by unfold Ru.whereB; rw [ha, hd]; rfl)
      have eE := hid (show Ru.whereE ahead x = 0 by unfold Ru.whereE; rw [ha, hd]; rfl)
      obtain ⟨r1, r2, r3⟩ := hrows d hd
      have hl0 : lookRv ahead rg x.name = rg x.name := by unfold lookRv; rw [hd]
      rw [hl0, hd] at l2
      have r1' := hid r1
      have r2' := hid r2
      have hlen : (boxesCells d.boxes).length = d.boxes.length * 4 := boxesCells_len d.boxes
      generalize rg x.name = rv1 at *
      clear hrows r3 hl0 hd hwb hwe
      rcases r1.2 with ⟨hv, hn0⟩ | ⟨g, off, cap, hv, hcap, hg, hcc⟩
      · have hb0 : d.boxes = [] := List.eq_nil_of_length_eq_zero hn0
        rw [hb0] at eB
        clear hn0 hb0 hlen
        subst hv
        clear r1
        obtain ⟨any, name, n, line, col⟩ := x
        simp only at ha l2
        subst ha
        unfold whoArr at *
        simp only at h1 t1 B0 l2 ⊢
        simp only [Option.isSome_some] at l2
        go_enter Tryz.func119, Tryz.ntmps119
        go_wp2_with fail
        go_quiet (fail)
        clear l2 c0 c1 c2 c3 c4 c5 c6 hf
        have h2 := hid (h1.out.drewN nq)
        have t2 := hid (t1.out.drewN nq)
        go_wp2_with fail
        go_ret
        refine ⟨_, rfl, ?_, ?_, fun b hb => by simp [Value.ownBlock] at hb, ?_, t2.out⟩
        · rw [eB.out]; exact Row.nil _ 4
        · rw [eB.out]; decide
        · rw [eE.out, Ru.wrongIf_zero]; exact h2.out
      · clear hcc hcap hg
        subst hv
        clear r1
        obtain ⟨any, name, n, line, col⟩ := x
        simp only at ha l2
        subst ha
        unfold whoArr at *
        simp only at h1 t1 B0 l2 ⊢
        simp only [Option.isSome_some] at l2
        have r2'' : d.boxes.length * 32 ≤ 140737488355328 := r2'.out
        clear r2
        generalize hbl : d.boxes.length = bl at *
        have hbl' := hid hbl
        clear hbl
        go_enter Tryz.func119, Tryz.ntmps119
        go_wp2_with fail
        go_quiet (fail)
        clear l2 c0 c1 c2 c3 c4 c5 c6 hf
        have h2 := hid (h1.out.drewN nq)
        have t2 := hid (t1.out.drewN nq)
        have hR := hid (r1'.out.ext (bdrewN (Below.refl _ _) nq))
        have hsz := t2.out.size
        have hnews := hid hR.out.news
        have hnil := hid (World.ownsRow_nil ((w.alloc (.cells #[.bool false, .string name, .int .i64 n, .int .i64 line, .int .i64 col] 47)).drewN nq) w.heap.size 107 4)
        have hl4 := hid hlen
        clear hlen
        go_wp2_with (first | (at_builtin; refine wpList_append_own _ rfl _ _ 45 rfl w.heap.size 107 i0 (.agg #[.int .i64 0, .int .i64 0, .int .i64 0, .int .i64 0]) 4 32 Tryz.underlying45 hinf hz0 hz1 hz2 rfl (by decide) _ _ _ rfl hnil.out ⟨g, off, none⟩ bl cap (boxesCells d.boxes) rfl hl4.out hnews.out (boxesCells_one _) (by unfold maxLen; omega) (by omega) hsz ?_; intro v' w5 hown5 hgrow _))
        go_ret
        have hg5 := below_of_grown hgrow
        refine ⟨_, rfl, ?_, ?_, fun b hb => (hown5.lt b hb).1, ?_, t2.out.below hg5⟩
        · rw [eB.out, hbl'.out]
          have := Row.of_owns hown5
          rwa [Nat.zero_add, List.nil_append] at this
        · rw [eB.out, hbl'.out]; exact r2''
        · rw [eE.out, Ru.wrongIf_zero]
          exact h2.out.ext hg5

end Go.Proofs.YtnoieobjfihbeaaGreatDoor

namespace Go.Proofs.YtnoieobjfihbeaaGreatDoor
open Go.RowKit Go.Sort Go.Maps

theorem beq_bytes {a b : ByteArray} : (a == b) = true ↔ a = b := by
  obtain ⟨x⟩ := a
  obtain ⟨y⟩ := b
  rw [show ((ByteArray.mk x == ByteArray.mk y) = (x == y)) from rfl, beq_iff_eq]
  simp
theorem declared_snoc (ahead : List Po.Decl) (d : Po.Decl) (k : Int) (nm : ByteArray) : Ru.declared (ahead ++ [d]) k nm = (Ru.declared ahead k nm).or (if d.kind = k ∧ d.name = nm then some d else none) := by
  unfold Ru.declared
  rw [List.find?_append]
  congr 1
  by_cases h : d.kind = k ∧ d.name = nm
  · have e : (d.kind == k && d.name == nm) = true := by rw [Bool.and_eq_true, beq_iff_eq, beq_bytes]; exact h
    rw [if_pos h, List.find?_cons, e]
  · have e : (d.kind == k && d.name == nm) = false := by
      rw [Bool.eq_false_iff]; intro hh
      rw [Bool.and_eq_true, beq_iff_eq, beq_bytes] at hh
      exact h hh
    rw [if_neg h, List.find?_cons, e]; rfl
theorem declared_other {ahead : List Po.Decl} {d : Po.Decl} {k : Int} (hk : d.kind ≠ k) (nm : ByteArray) : Ru.declared (ahead ++ [d]) k nm = Ru.declared ahead k nm := by
  rw [declared_snoc, if_neg (fun h => hk h.1)]; simp
theorem declared_name {ahead : List Po.Decl} {d : Po.Decl} {k : Int} {nm : ByteArray} (hn : d.name ≠ nm) : Ru.declared (ahead ++ [d]) k nm = Ru.declared ahead k nm := by
  rw [declared_snoc, if_neg (fun h => hn h.2)]; simp
theorem declared_this {ahead : List Po.Decl} {d : Po.Decl} (h : Ru.declared ahead d.kind d.name = none) : Ru.declared (ahead ++ [d]) d.kind d.name = some d := by
  rw [declared_snoc, h, if_pos ⟨rfl, rfl⟩]; rfl
theorem numF_other {ahead : List Po.Decl} {d : Po.Decl} {k : Int} (hk : d.kind ≠ k) : numF (ahead ++ [d]) k = numF ahead k := by
  funext l; unfold numF; cases l <;> simp [declared_other hk]
theorem regF_other {ahead : List Po.Decl} {d : Po.Decl} {rg : ByteArray → Value} (hk : d.kind ≠ 3) : regF (ahead ++ [d]) rg = regF ahead rg := by
  funext l; unfold regF; cases l <;> simp [declared_other hk]
theorem key_ne {nm : ByteArray} {t : List UInt8} (h : Lit.string t ≠ .string nm.data.toList) : nm ≠ ⟨t.toArray⟩ := by
  rintro rfl; exact h rfl
theorem numF_this {ahead : List Po.Decl} {d : Po.Decl} (h : Ru.declared ahead d.kind d.name = none) : numF (ahead ++ [d]) d.kind (.string d.name.data.toList) = some (.int .i64 d.n) := by
  unfold numF; simp only [byt]; rw [declared_this h]; rfl
theorem numF_else {ahead : List Po.Decl} {d : Po.Decl} {k : Int} (l : Lit) (h : l ≠ .string d.name.data.toList) : numF (ahead ++ [d]) k l = numF ahead k l := by
  unfold numF
  cases l <;> try rfl
  rename_i t
  simp only
  rw [declared_name (key_ne h)]
/-- the regions, with one more -/
def rgPut (rg : ByteArray → Value) (nm : ByteArray) (v : Value) (x : ByteArray) : Value := if x = nm then v else rg x
theorem regF_this {ahead : List Po.Decl} {d : Po.Decl} {rg : ByteArray → Value} {v : Value} (hk : d.kind = 3) (h : Ru.declared ahead 3 d.name = none) : regF (ahead ++ [d]) (rgPut rg d.name v) (.string d.name.data.toList) = some v := by
  unfold regF; simp only [byt]
  have := declared_this (ahead := ahead) (d := d) (by rw [hk]; exact h)
  rw [hk] at this
  rw [this]; simp [rgPut]
theorem regF_else {ahead : List Po.Decl} {d : Po.Decl} {rg : ByteArray → Value} {v : Value} (l : Lit) (h : l ≠ .string d.name.data.toList) : regF (ahead ++ [d]) (rgPut rg d.name v) l = regF ahead rg l := by
  unfold regF
  cases l <;> try rfl
  rename_i t
  simp only
  have hne := key_ne h
  rw [declared_name hne]
  unfold rgPut
  rw [if_neg (Ne.symm hne)]

section
variable {w w' : World} {bo b1 b2 br c : Nat} {ahead : List Po.Decl} {rules : List Ru.Rule} {rv : Value} {vs : List Value} {rg : ByteArray → Value} {d : Po.Decl}
/-- a declaration that is none of a name -/
theorem Inner.lift (h : Inner w bo b1 b2 br c ahead rules rv vs rg) (h1 : d.kind ≠ 1) (h2 : d.kind ≠ 2) (h3 : d.kind ≠ 3) : Inner w bo b1 b2 br c (ahead ++ [d]) rules rv vs rg := by
  have hl : ahead.length ≤ (ahead ++ [d]).length := by simp
  exact ⟨h.ord, h.outer, by rw [numF_other h1]; exact h.nums1.mono hl, by rw [numF_other h2]; exact h.nums2.mono hl, by rw [regF_other h3]; exact h.regs.mono hl,
    fun nm x hx => h.rows nm x (by rwa [declared_other h3] at hx), h.len, h.own, h.box⟩
/-- one of the maps has grown -/
theorem Inner.num (h : Inner w bo b1 b2 br c ahead rules rv vs rg) {bk : Nat} (hb : bk = b1 ∧ d.kind = 1 ∨ bk = b2 ∧ d.kind = 2) (hn : Ru.declared ahead d.kind d.name = none)
    (hp : ∀ f' : Lit → Option Value, f' (.string d.name.data.toList) = some (.int .i64 d.n) → (∀ l, WideAt.IsKeyLit l → l ≠ .string d.name.data.toList → f' l = numF ahead d.kind l) → KMap Tryz.prog 9 w' bk (ahead.length + 1) f') (hg : w.grownBy w' (some bk)) :
    Inner w' bo b1 b2 br c (ahead ++ [d]) rules rv vs rg := by
  obtain ⟨o1, o2, o3, o4, o5⟩ := h.ord
  have ht := Touch.of_grown hg
  have hbk : bo < bk ∧ bk < br := by omega
  have hl : ahead.length ≤ (ahead ++ [d]).length := by simp
  have h3 : d.kind ≠ 3 := by omega
  have hm := hp (numF (ahead ++ [d]) d.kind) (numF_this hn) (fun l _ hl => numF_else l hl)
  have hl1 : (ahead ++ [d]).length = ahead.length + 1 := by simp
  refine ⟨⟨o1, o2, o3, o4, Nat.lt_of_lt_of_le o5 ht.size⟩, h.outer.touch ht (by omega), ?_, ?_, by rw [regF_other h3]; exact (h.regs.touch ht (by omega)).mono hl, ?_, h.len, owns_touch h.own ht (by omega), ?_⟩
  · rcases hb with ⟨rfl, hk⟩ | ⟨rfl, hk⟩
    · rw [hl1]; rwa [hk] at hm
    · rw [numF_other (by omega)]; exact (h.nums1.touch ht (by omega)).mono hl
  · rcases hb with ⟨rfl, hk⟩ | ⟨rfl, hk⟩
    · rw [numF_other (by omega)]; exact (h.nums2.touch ht (by omega)).mono hl
    · rw [hl1]; rwa [hk] at hm
  · intro nm x hx
    rw [declared_other h3] at hx
    obtain ⟨r1, r2, r3⟩ := h.rows nm x hx
    exact ⟨r1.touch ht (fun e => by have := (r3 bk e).1; omega), r2, r3⟩
  · intro i r x hr hx
    obtain ⟨r1, r2, r3⟩ := h.box i r x hr hx
    exact ⟨r1.touch ht (fun e => by have := (r3 bk e).1; omega), r2, r3⟩
/-- a region more -/
theorem Inner.reg (h : Inner w bo b1 b2 br c ahead rules rv vs rg) (hk : d.kind = 3) (hn : Ru.declared ahead 3 d.name = none) {v : Value} (hv : Row w v d.boxes.length 4 (boxesCells d.boxes)) (hs : d.boxes.length * 32 ≤ 140737488355328) (hc : ∀ b, v.ownBlock = some b → c < b ∧ rv.ownBlock ≠ some b)
    (hp : ∀ f' : Lit → Option Value, f' (.string d.name.data.toList) = some v → (∀ l, WideAt.IsKeyLit l → l ≠ .string d.name.data.toList → f' l = regF ahead rg l) → KMap Tryz.prog 9 w' br (ahead.length + 1) f') (hg : w.grownBy w' (some br)) :
    Inner w' bo b1 b2 br c (ahead ++ [d]) rules rv vs (rgPut rg d.name v) := by
  obtain ⟨o1, o2, o3, o4, o5⟩ := h.ord
  have ht := Touch.of_grown hg
  have hl : ahead.length ≤ (ahead ++ [d]).length := by simp
  have hm := hp (regF (ahead ++ [d]) (rgPut rg d.name v)) (regF_this hk hn) (fun l _ hl => regF_else l hl)
  have hl1 : (ahead ++ [d]).length = ahead.length + 1 := by simp
  refine ⟨⟨o1, o2, o3, o4, Nat.lt_of_lt_of_le o5 ht.size⟩, h.outer.touch ht (by omega), by rw [numF_other (by omega)]; exact (h.nums1.touch ht (by omega)).mono hl, by rw [numF_other (by omega)]; exact (h.nums2.touch ht (by omega)).mono hl, by rw [hl1]; exact hm, ?_, h.len, owns_touch h.own ht (by omega), ?_⟩
  · intro nm x hx
    by_cases he : d.name = nm
    · subst he
      have h1 := declared_this (ahead := ahead) (d := d) (by rw [hk]; exact hn)
      rw [hk, hx] at h1
      cases h1
      have h2 : rgPut rg d.name v d.name = v := by simp [rgPut]
      rw [h2]
      exact ⟨hv.touch ht (fun e => by have := (hc br e).1; omega), hs, hc⟩
    · rw [declared_name he] at hx
      have h2 : rgPut rg d.name v nm = rg nm := by simp [rgPut, Ne.symm he]
      rw [h2]
      obtain ⟨r1, r2, r3⟩ := h.rows nm x hx
      exact ⟨r1.touch ht (fun e => by have := (r3 br e).1; omega), r2, r3⟩
  · intro i r x hr hx
    obtain ⟨r1, r2, r3⟩ := h.box i r x hr hx
    exact ⟨r1.touch ht (fun e => by have := (r3 br e).1; omega), r2, r3⟩
end

/-- what one declaration leaves of the checker -/
def CkPost (w : World) (bo b1 b2 br c : Nat) (ahead : List Po.Decl) (d : Po.Decl) (k' : Ru.Ck) (en : Ending) (w' : World) : Prop :=
  en = .returned (.tuple #[]) ∧ Below bo w w' ∧ ∃ ahead' rv', Chk w' bo b1 b2 br c ahead' k' rv' ∧ (k'.f.1 = 0 → ahead' = ahead ++ [d])

end Go.Proofs.YtnoieobjfihbeaaGreatDoor

namespace Go.Proofs.YtnoieobjfihbeaaGreatDoor
open Go.RowKit Go.Sort Go.Maps

theorem range_pos {w : World} {b : Nat} {D : Po.Decl} {V : Value} {t : TypeId} (h : Blk w b (declCells D V) t) : w.rangeAt b 22 (#[.int .i64 D.line, .int .i64 D.col] : Array Value).toList := by
  intro j v hv
  have hj : j < 2 := by have := (List.getElem?_eq_some_iff.1 hv).1; exact this
  have : j = 0 ∨ j = 1 := by omega
  rcases this with rfl | rfl
  · exact h.cell 22 hv
  · exact h.cell 23 hv
theorem Chk.ord {w : World} {bo b1 b2 br c : Nat} {ahead : List Po.Decl} {k : Ru.Ck} {rv : Value} (h : Chk w bo b1 b2 br c ahead k rv) : bo < b1 ∧ b1 < b2 ∧ b2 < br ∧ br < c ∧ c < w.heap.size := by
  obtain ⟨vs, rg, hi⟩ := h.inn; exact hi.ord
theorem CkPost.fault {w w' : World} {bo b1 b2 br c : Nat} {ahead : List Po.Decl} {d : Po.Decl} {k k' : Ru.Ck} {rv : Value} (h : Chk w' bo b1 b2 br c ahead k' rv) (ht : Touch c w w') (ho : bo < b1 ∧ b1 < b2 ∧ b2 < br ∧ br < c ∧ c < w.heap.size) (he : k = k') (hf : k'.f.1 ≠ 0) :
    CkPost w bo b1 b2 br c ahead d k (.returned (.tuple #[])) w' :=
  ⟨rfl, ht.to_below (by omega) (by omega), ahead, rv, he ▸ h, fun h0 => absurd (he ▸ h0) hf⟩
theorem wrong_stop {k : Ru.Ck} (h0 : k.f.1 = 0) {e : Int} (he : e ≠ 0) (l p : Int) : (k.wrong e l p).f.1 ≠ 0 := by rw [Ru.wrong_f h0]; exact he

/-- a region that draws, whose head only reads and whose tail is in order: the world behind the draw under a name of its own -/
theorem still_tail_at {P : Program} {id : Nat} {Q : Exit → Act → World → Prop} {a : Act} {w : World} {l : List Oper} (n : Nat) (hm : P.follows .mixedOrders = true) (hB : Region.lexTailB .any l.toArray n = true) (w3 : World) (hw : w3 = w.drew)
    (h : wpStill P l.toArray w3 (fun a' => wpList P l.toArray Q (l.drop n) a' w3) (l.take n) a) : (Code.region id l.toArray true).wp P Q a w := wp_region_still_tail n hm hB (by subst hw; exact h)

set_option maxRecDepth 100000 in
set_option maxHeartbeats 2000000 in
theorem cnumber_any {w : World} {bo b1 b2 br c : Nat} {ahead : List Po.Decl} {k : Ru.Ck} {rv : Value} (h : Chk w bo b1 b2 br c ahead k rv) (h0 : k.f.1 = 0) (d : Po.Decl) (x : Value) (hk : d.kind = 1 ∨ d.kind = 2) (hs : d.name.size ≤ 140737488355328) (hl : ahead.length < maxLen) :
    Calls Tryz.prog 102 #[.pointer (some ⟨c, 0, none⟩), .agg (declCells d x)] w (CkPost w bo b1 b2 br c ahead d (Ru.ckNumber ahead k d)) := by
  have hz := balloc w (.cells (declCells d x) 49)
  have h1 := hid (h.ext hz)
  have t1 := hid (Touch.of_below (b := c) hz)
  have B0 := hid (Blk.new w (declCells d x) 49)
  obtain ⟨bk, hbk, l1, l2⟩ := (h.ext hz).look hk hs
  have hbk' := hid hbk
  have hc := h.blk.lt
  have hne : w.heap.size ≠ c := by omega
  have hne' : c ≠ w.heap.size := by omega
  obtain ⟨c0, c1, c2, c3, c4, c5, c6, hf, hlt⟩ := h.f
  have hord := hid h.ord
  have y0 : (declCells d x)[0]? = some (.int .i64 d.kind) := rfl
  have y1 : (declCells d x)[1]? = some (.string d.name) := rfl
  have y2 : (declCells d x)[2]? = some (.int .i64 d.n) := rfl
  have hl' := hid hl
  have hk' := hid hk
  have hs' := hid hs
  have h0' := hid h0
  clear hz hbk hl hk hs h0
  cases hd : Ru.declared ahead d.kind d.name with
  | some d2 =>
    have e := hid (show Ru.ckNumber ahead k d = k.wrong 20 d.line d.col by unfold Ru.ckNumber; rw [hd]; rfl)
    rw [hd] at l2
    simp only [Option.isSome_some] at l2
    generalize lookN ahead d.kind d.name = ln at *
    clear hd
    go_enter Tryz.func102, Tryz.ntmps102
    go_wp2_with fail
    go_quiet (fail)
    clear l1 l2 c0 c1 c2 c3 c4 c5 c6 hf
    have h2 := hid (h1.out.drewN nq)
    have t2 := hid (t1.out.drewN nq)
    have B2 := hid (B0.out.drewN nq)
    go_wp2_with (first | (refine wpList_load_at rfl 25 (.tmp 33) rfl 34 rfl w.heap.size (22) (#[.int .i64 d.line, .int .i64 d.col]) (range_pos B2.out) rfl Tryz.underlying25 rfl (by kernel_rfl) ?_))
    refine (cwrong_any h2.out _ _ _).mono ?_
    rintro en w3 ⟨rfl, h3, t3⟩
    have h3' := hid h3
    have t3' := hid (t2.out.trans t3)
    clear h3 t3
    go_wp2_with fail
    go_end0
    exact CkPost.fault h3'.out t3'.out hord.out e.out (wrong_stop h0'.out (by decide) _ _)
  | none =>
    have hd' := hid hd
    rw [hd] at l2
    simp only [Option.isSome_none] at l2
    have hln : lookN ahead d.kind d.name = 0 := by unfold lookN; rw [hd]
    rw [hln] at l2
    clear hln
    by_cases h7 : 7 < d.n
    · have e := hid (show Ru.ckNumber ahead k d = k.wrong 33 d.line d.col by unfold Ru.ckNumber; rw [hd]; simp [h7])
      clear hd
      go_enter Tryz.func102, Tryz.ntmps102
      go_wp2_with fail
      go_quiet (fail)
      clear l1 l2 c0 c1 c2 c3 c4 c5 c6 hf
      have h2 := hid (h1.out.drewN nq)
      have t2 := hid (t1.out.drewN nq)
      have B2 := hid (B0.out.drewN nq)
      go_wp2_with (first | (refine wpList_load_at rfl 25 (.tmp 41) rfl 42 rfl w.heap.size (22) (#[.int .i64 d.line, .int .i64 d.col]) (range_pos B2.out) rfl Tryz.underlying25 rfl (by kernel_rfl) ?_))
      refine (cwrong_any h2.out _ _ _).mono ?_
      rintro en w3 ⟨rfl, h3, t3⟩
      have h3' := hid h3
      have t3' := hid (t2.out.trans t3)
      clear h3 t3
      go_wp2_with fail
      go_end0
      exact CkPost.fault h3'.out t3'.out hord.out e.out (wrong_stop h0'.out (by decide) _ _)
    · have e := hid (show Ru.ckNumber ahead k d = k by unfold Ru.ckNumber; rw [hd]; simp [h7])
      clear hd
      go_enter Tryz.func102, Tryz.ntmps102
      go_wp2_with fail
      go_quiet (fail)
      have h2 := hid (h1.out.drewN nq)
      have t2 := hid (t1.out.drewN nq)
      have B2 := hid (B0.out.drewN nq)
      go_wp2_with fail
      clear l1 l2 c0 c1 c2 c3 c4 c5 c6 hf
      obtain ⟨w3, hw3⟩ : ∃ w3, w3 = ((w.alloc (.cells (declCells d x) 49)).drewN nq).drew := ⟨_, rfl⟩
      have h3 : Chk w3 bo b1 b2 br c ahead k rv := hw3 ▸ (h2.out.drewN 1)
      have t3 := hid (show Touch c w w3 from hw3 ▸ t2.out.drew)
      have B3 := hid (show Blk w3 w.heap.size (declCells d x) 49 from hw3 ▸ B2.out.drew)
      obtain ⟨vs, rg, hi⟩ := h3.inn
      obtain ⟨c0, c1, c2, c3, c4, c5, c6, hf, hlt3⟩ := h3.f
      have q0 : w3.cell? ⟨w.heap.size, 0, none⟩ = some (.int .i64 d.kind) := B3.out.cell 0 y0
      have q1 : w3.cell? ⟨w.heap.size, 1, none⟩ = some (.string d.name) := B3.out.cell 1 y1
      have q2 : w3.cell? ⟨w.heap.size, 2, none⟩ = some (.int .i64 d.n) := B3.out.cell 2 y2
      obtain ⟨bk', hbk2, l1, _⟩ := h3.look hk'.out hs'.out
      obtain rfl : bk' = bk := by have := hbk'.out; omega
      have l1' : Sem.run Tryz.prog (Instr.lookup 120 (.map (some bo)) (.int .i64 d.kind) false) w3 = .ok (.map (some bk')) w3 := l1 0
      have hm : Hid (KMap Tryz.prog 9 w3 bk' ahead.length (numF ahead d.kind)) := by
        rcases hbk2 with ⟨rfl, e1⟩ | ⟨rfl, e1⟩
        · rw [e1]; exact hid hi.nums1
        · rw [e1]; exact hid hi.nums2
      have h3' := hid h3
      have hi' := hid hi
      have hbk2' := hid hbk2
      clear l1 h3 hi hbk2
      refine still_tail_at 11 (by kernel_rfl) (by kernel_rfl) w3 hw3 ?_
      clear hw3
      simp only [List.take_succ_cons, List.take_zero, List.drop_succ_cons, List.drop_zero]
      repeat still_step
      try refine wpStill_nil ?_
      refine wpList_put rfl (.tmp 25) (.tmp 27) (.tmp 29) 119 (.inl rfl) rfl 3 lawS Tryz.underlying119 rfl hm.out hl'.out (.string d.name) (.int .i64 d.n) (.string d.name.data.toList) rfl rfl (keyS hs'.out) trivial ?_
      intro w4 hput hg
      have hput' := hid hput
      have hg' := hid hg
      clear hput hg c0 c1 c2 c3 c4 c5 c6 hf q0 q1 q2
      go_wp2_with fail
      go_end0
      have hb := Touch.of_grown hg'.out
      have ho := hi'.out.ord
      have hbk3 := hbk2'.out
      have hsz3 := t3.out.size
      have ho2 := hord.out
      have hn' := Inner.num hi'.out hbk2'.out hd'.out hput'.out hg'.out
      rw [e.out]
      exact ⟨rfl, ((t3.out.to_below (by omega) (by omega)).trans (hb.to_below (by omega) (by omega))), _, rv, ⟨h3'.out.blk.touch hb (by omega), vs, rg, hn'⟩, fun _ => rfl⟩

end Go.Proofs.YtnoieobjfihbeaaGreatDoor
