/-
  The walks of the policy's reader: named, region, cloak, rule: each fills a declaration.
  Whole structs by value: laid into a block, stored, loaded, handed back, without a look at their cells.
  Plain laws of the rules: the program's and the reference's answers are one; the order of rules; one rule more. No program.
  Rows of boxes in memory, as they may come in; small laws on lists.
-/
import Derived.Test.YtnoieobjfihbeaaDoorPk09
import Derived.Test.YtnoieobjfihbeaaDoorPk01
import Derived.Great.BuildSlice
import Derived.Deep.MidRow
import Derived.Deep.WholeRow
import Derived.Test.YtnoieobjfihbeaaDoorPk05

namespace Go.Proofs.YtnoieobjfihbeaaDoor
open Go.RowKit Go.Sort

/-- only blocks b and d of what was there may have changed -/
structure Touch2 (b d : Nat) (w w' : World) : Prop where
  os : w'.os = w.os
  tape : w'.tape = w.tape
  output : w'.output = w.output
  size : w.heap.size ≤ w'.heap.size
  block : ∀ k, k < w.heap.size → k ≠ b → k ≠ d → w'.heap[k]? = w.heap[k]?
theorem Touch2.refl (b d : Nat) (w : World) : Touch2 b d w w := ⟨rfl, rfl, rfl, Nat.le_refl _, fun _ _ _ _ => rfl⟩
theorem Touch2.of {b d : Nat} {w w' : World} (h : Touch b w w') : Touch2 b d w w' := ⟨h.os, h.tape, h.output, h.size, fun k hk hb _ => h.block k hk hb⟩
theorem Touch2.trans {b d : Nat} {x y z : World} (h : Touch2 b d x y) (k : Touch2 b d y z) : Touch2 b d x z :=
  ⟨k.os.trans h.os, k.tape.trans h.tape, k.output.trans h.output, Nat.le_trans h.size k.size, fun i hi hn hm => (k.block i (Nat.lt_of_lt_of_le hi h.size) hn hm).trans (h.block i hi hn hm)⟩
theorem Touch2.touch {b d : Nat} {x y z : World} (h : Touch2 b d x y) (k : Touch b y z) : Touch2 b d x z := h.trans (.of k)
theorem Touch2.setD_iff {b d : Nat} {a w : World} (o : Nat) (u : Value) : Touch2 b d a (w.setCell ⟨d, o, none⟩ u) ↔ Touch2 b d a w :=
  ⟨fun h => ⟨h.os, h.tape, h.output, by simpa [World.setCell] using h.size, fun i hi hn hm => (Below.heap_setCell _ _ _ _ (show i ≠ (⟨d, o, none⟩ : Addr).block by simpa using hm)).symm.trans (h.block i hi hn hm)⟩,
   fun h => ⟨h.os, h.tape, h.output, by simpa [World.setCell] using h.size, fun i hi hn hm => (Below.heap_setCell _ _ _ _ (show i ≠ (⟨d, o, none⟩ : Addr).block by simpa using hm)).trans (h.block i hi hn hm)⟩⟩
/-- where d is of the call's own -/
theorem Touch2.own {b d : Nat} {x y : World} (h : Touch2 b d x y) (hd : x.heap.size ≤ d) : Touch b x y := ⟨h.os, h.tape, h.output, h.size, fun k hk hn => h.block k hk hn (by omega)⟩

theorem Row.shape {w : World} {v : Value} {n size : Nat} {xs : List Value} (h : Row w v n size xs) : ∃ p l c, v = .slice p l c := by
  rcases h.2 with ⟨rfl, _⟩ | ⟨g, off, cap, rfl, _⟩
  · exact ⟨_, _, _, rfl⟩
  · exact ⟨_, _, _, rfl⟩
/-- block d is none of the reader's -/
structure Free (b d : Nat) (pa : Option Addr) (T : List Lx.Tok) : Prop where
  ne : b ≠ d
  row : T = [] ∨ ∀ g off, pa = some ⟨g, off, none⟩ → g ≠ d
theorem PRd.setD {w : World} {b d : Nat} {pa : Option Addr} {cp : Nat} {T : List Lx.Tok} {e : Nat × Nat} {st : Po.St} (hf : Free b d pa T) (h : PRd w b pa cp T e st) {w' : World} (ht : Touch d w w') : PRd w' b pa cp T e st := by
  refine ⟨h.blk.touch ht hf.ne, ?_, h.le, h.small⟩
  rcases hf.row with h1 | h1
  · exact .inl h1
  · rcases h.row with h2 | ⟨g, off, hp, hr, hn⟩
    · exact .inl h2
    · exact .inr ⟨g, off, hp, hr.touch ht (h1 g off hp), hn⟩
theorem PRd.setD_iff {w : World} {b d : Nat} {pa : Option Addr} {cp : Nat} {T : List Lx.Tok} {e : Nat × Nat} {st : Po.St} (hf : Free b d pa T) (o : Nat) (u : Value) : PRd (w.setCell ⟨d, o, none⟩ u) b pa cp T e st ↔ PRd w b pa cp T e st := by
  have ht : Touch d w (w.setCell ⟨d, o, none⟩ u) := (Touch.refl d w).setCell o u
  exact ⟨fun h => PRd.setD hf h ⟨ht.os.symm, ht.tape.symm, ht.output.symm, by simp [World.setCell], fun i hi hn => (ht.block i (by simpa [World.setCell] using hi) hn).symm⟩, fun h => PRd.setD hf h ht⟩

def declCells (D : Po.Decl) (bv : Value) : Array Value :=
  #[.int .i64 D.kind, .string D.name, .int .i64 D.n, bv, .bool D.role.any, .string D.role.name, .int .i64 D.role.n, .int .i64 D.role.line, .int .i64 D.role.col, .int .i64 D.lo, .int .i64 D.hi,
    .bool D.label.any, .string D.label.name, .int .i64 D.label.n, .int .i64 D.label.line, .int .i64 D.label.col, .bool D.place.any, .string D.place.name, .int .i64 D.place.n, .int .i64 D.place.line, .int .i64 D.place.col,
    .int .i64 D.zoom, .int .i64 D.line, .int .i64 D.col]
def DBlk (w : World) (d : Nat) (D : Po.Decl) (bv : Value) : Prop := Blk w d (declCells D bv) 44

set_option maxRecDepth 100000 in
set_option maxHeartbeats 4000000 in
theorem pnamed_any {w : World} {b d : Nat} {pa : Option Addr} {cp : Nat} {T : List Lx.Tok} {e : Nat × Nat} {st : Po.St} {D : Po.Decl} {bv : Value} (h : PRd w b pa cp T e st) (hf : Free b d pa T) (hd : DBlk w d D bv) :
    Calls Tryd.prog 59 #[.pointer (some ⟨b, 0, none⟩), .pointer (some ⟨d, 0, none⟩)] w fun en w' => en = .returned (.tuple #[]) ∧ PRd w' b pa cp T e (Po.namedS T e st) ∧ DBlk w' d (Po.namedV T e D st) bv ∧ Touch2 b d w w' := by
  have h' := hid h
  have hf' := hid hf
  have hd' := hid hd
  have hdb : d ≠ b := hf.ne.symm
  clear h hf hd
  go_enter Tryd.func59, Tryd.ntmps59
  go_wp2_with fail
  refine (pname_any h'.out).mono ?_
  rintro en w1 ⟨rfl, h1, t1⟩
  have h1' := hid h1
  have q1 := hid (Touch2.of (d := d) t1)
  have d1 := hid (Blk.touch hd'.out t1 hdb)
  clear h1 t1
  have y1 := d1.out.cell 1 (v := .string D.name) rfl
  have yf := d1.out.free
  have yz := d1.out.lt
  have h2 := hid ((PRd.setD_iff hf'.out 1 (.string (Po.txt (Po.takeTok T 1 st).text))).2 h1'.out)
  have q2 := hid ((Touch2.setD_iff 1 (.string (Po.txt (Po.takeTok T 1 st).text))).2 q1.out)
  have d2 := hid (d1.out.set 1 (.string (Po.txt (Po.takeTok T 1 st).text)))
  go_wp2_with fail
  clear y1 yf yz
  refine (pwant_any h2.out _).mono ?_
  rintro en w3 ⟨rfl, h3, t3⟩
  have h3' := hid h3
  have q3 := hid (q2.out.touch t3)
  have d3 := hid (Blk.touch d2.out t3 hdb)
  clear h3 t3
  go_wp2_with fail
  refine (pnumber_any h3'.out).mono ?_
  rintro en w4 ⟨rfl, h4, t4⟩
  have h4' := hid h4
  have q4 := hid (q3.out.touch t4)
  have d4 := hid (Blk.touch d3.out t4 hdb)
  clear h4 t4
  have y1 := d4.out.cell 2 (v := .int .i64 D.n) rfl
  have yf := d4.out.free
  have yz := d4.out.lt
  go_wp2_with fail
  go_end0
  exact ⟨rfl, (PRd.setD_iff hf'.out _ _).2 h4'.out, d4.out.set 2 _, (Touch2.setD_iff _ _).2 q4.out⟩

set_option maxRecDepth 100000 in
set_option maxHeartbeats 4000000 in
theorem pregion_any {w : World} {b d : Nat} {pa : Option Addr} {cp : Nat} {T : List Lx.Tok} {e : Nat × Nat} {st : Po.St} {D : Po.Decl} {bv : Value} (h : PRd w b pa cp T e st) (hf : Free b d pa T) (hd : DBlk w d D bv) :
    Calls Tryd.prog 60 #[.pointer (some ⟨b, 0, none⟩), .pointer (some ⟨d, 0, none⟩)] w fun en w' => en = .returned (.tuple #[]) ∧ ∃ v, PRd w' b pa cp T e (Po.regionS T e st) ∧ DBlk w' d (Po.regionV T e D st) v ∧
      Row w' v (Po.regionV T e D st).boxes.length 4 (boxesCells (Po.regionV T e D st).boxes) ∧ (∀ k, v.ownBlock = some k → w.heap.size ≤ k) ∧ Touch2 b d w w' := by
  have h' := hid h
  have hf' := hid hf
  have hd' := hid hd
  have hdb : d ≠ b := hf.ne.symm
  have hdlt : d < w.heap.size := Blk.lt hd
  clear h hf hd
  go_enter Tryd.func60, Tryd.ntmps60
  go_wp2_with fail
  refine (pname_any h'.out).mono ?_
  rintro en w1 ⟨rfl, h1, t1⟩
  have h1' := hid h1
  have q1 := hid (Touch2.of (d := d) t1)
  have d1 := hid (Blk.touch hd'.out t1 hdb)
  clear h1 t1
  have y1 := d1.out.cell 1 (v := .string D.name) rfl
  have yf := d1.out.free
  have yz := d1.out.lt
  have h2 := hid ((PRd.setD_iff hf'.out 1 (.string (Po.txt (Po.takeTok T 1 st).text))).2 h1'.out)
  have q2 := hid ((Touch2.setD_iff 1 (.string (Po.txt (Po.takeTok T 1 st).text))).2 q1.out)
  have d2 := hid (d1.out.set 1 (.string (Po.txt (Po.takeTok T 1 st).text)))
  go_wp2_with fail
  clear y1 yf yz
  refine (pwant_any h2.out _).mono ?_
  rintro en w3 ⟨rfl, h3, t3⟩
  have h3' := hid h3
  have q3 := hid (q2.out.touch t3)
  have d3 := hid (Blk.touch d2.out t3 hdb)
  clear h3 t3
  go_wp2_with fail
  refine (pboxes_any h3'.out).mono ?_
  rintro en w4 ⟨v, rfl, hrow, hown, h4, t4⟩
  obtain ⟨vp, vl, vc, rfl⟩ := Row.shape hrow
  have h4' := hid h4
  have q4 := hid (q3.out.touch t4)
  have d4 := hid (Blk.touch d3.out t4 hdb)
  have hrow' := hid hrow
  have hown' := hid hown
  have hs3 := q3.out.size
  clear h4 t4 hrow hown
  have y1 := d4.out.cell 3 (v := bv) rfl
  have yf := d4.out.free
  have yz := d4.out.lt
  go_wp2_with fail
  go_end0
  exact ⟨rfl, _, (PRd.setD_iff hf'.out _ _).2 h4'.out, d4.out.set 3 _, hrow'.out.touch ((Touch.refl d w4).setCell _ _) (fun e => by have := hown'.out _ e; omega), fun k hk => Nat.le_trans hs3 (hown'.out k hk), (Touch2.setD_iff _ _).2 q4.out⟩

set_option maxRecDepth 100000 in
set_option maxHeartbeats 4000000 in
theorem pcloak_any {w : World} {b d : Nat} {pa : Option Addr} {cp : Nat} {T : List Lx.Tok} {e : Nat × Nat} {st : Po.St} {D : Po.Decl} {bv : Value} (h : PRd w b pa cp T e st) (hf : Free b d pa T) (hd : DBlk w d D bv) :
    Calls Tryd.prog 61 #[.pointer (some ⟨b, 0, none⟩), .pointer (some ⟨d, 0, none⟩)] w fun en w' => en = .returned (.tuple #[]) ∧ PRd w' b pa cp T e (Po.cloakS T e st) ∧ DBlk w' d (Po.cloakV T e D st) bv ∧ Touch2 b d w w' := by
  have h' := hid h
  have hf' := hid hf
  have hd' := hid hd
  have hdb : d ≠ b := hf.ne.symm
  clear h hf hd
  go_enter Tryd.func61, Tryd.ntmps61
  go_wp2_with fail
  refine (pwant_any h'.out _).mono ?_
  rintro en w1 ⟨rfl, h1, t1⟩
  have h1' := hid h1
  have q1 := hid (Touch2.of (d := d) t1)
  have d1 := hid (Blk.touch hd'.out t1 hdb)
  clear h1 t1
  go_wp2_with fail
  refine (pwho_any h1'.out).mono ?_
  rintro en w2 ⟨rfl, h2, t2⟩
  have h2' := hid h2
  have q2 := hid (q1.out.touch t2)
  have d2 := hid (Blk.touch d1.out t2 hdb)
  clear h2 t2
  have y0 := d2.out.cell 4 (v := .bool D.role.any) rfl
  have y1 := d2.out.cell 5 (v := .string D.role.name) rfl
  have y2 := d2.out.cell 6 (v := .int .i64 D.role.n) rfl
  have y3 := d2.out.cell 7 (v := .int .i64 D.role.line) rfl
  have y4 := d2.out.cell 8 (v := .int .i64 D.role.col) rfl
  have yf := d2.out.free
  have yz := d2.out.lt
  unfold pwhoV
  go_wp2_with fail
  go_end0
  exact ⟨rfl, (by simp only [PRd.setD_iff hf'.out]; exact h2'.out), ((((d2.out.set 4 _).set 5 _).set 6 _).set 7 _).set 8 _, (by simp only [Touch2.setD_iff]; exact q2.out)⟩

set_option maxRecDepth 100000 in
set_option maxHeartbeats 8000000 in
theorem prule_any {w : World} {b d : Nat} {pa : Option Addr} {cp : Nat} {T : List Lx.Tok} {e : Nat × Nat} {st : Po.St} {D : Po.Decl} {bv : Value} (h : PRd w b pa cp T e st) (hf : Free b d pa T) (hd : DBlk w d D bv) :
    Calls Tryd.prog 57 #[.pointer (some ⟨b, 0, none⟩), .pointer (some ⟨d, 0, none⟩)] w fun en w' => en = .returned (.tuple #[]) ∧ PRd w' b pa cp T e (Po.ruleS T e st) ∧ DBlk w' d (Po.ruleV T e D st) bv ∧ Touch2 b d w w' := by
  have h' := hid h
  have hf' := hid hf
  have hd' := hid hd
  have hdb : d ≠ b := hf.ne.symm
  clear h hf hd
  have es := hid (show Po.ruleS T e st = Po.takeSt T e 3 (Po.rs4 T e st) from rfl)
  have ed := hid (show Po.ruleV T e D st = { D with role := Po.whoV T e (Po.want T e Po.wRole st), lo := Po.loV T (Po.rs1 T e st), hi := Po.hiV T e (Po.rs1 T e st), label := Po.whoV T e (Po.rs2 T e st), place := Po.whereV T e (Po.rs3 T e st), zoom := (Po.takeTok T 3 (Po.rs4 T e st)).n } from rfl)
  have ec := hid (show Po.cloakV T e D st = { D with role := Po.whoV T e (Po.want T e Po.wRole st) } from rfl)
  have e1 := hid (show Po.want T e Po.wTier (Po.cloakS T e st) = Po.rs1 T e st from rfl)
  have e2 := hid (show Po.want T e Po.wLabel (Po.tiersS T e (Po.rs1 T e st)) = Po.rs2 T e st from rfl)
  have e3 := hid (show Po.want T e Po.wIn (Po.whoS T e (Po.rs2 T e st)) = Po.rs3 T e st from rfl)
  have e4 := hid (show Po.want T e Po.wZoom (Po.whereS T e (Po.rs3 T e st)) = Po.rs4 T e st from rfl)
  go_enter Tryd.func57, Tryd.ntmps57
  go_wp2_with fail
  refine (pcloak_any h'.out hf'.out hd'.out).mono ?_
  rintro en w1 ⟨rfl, h1, d1, q1⟩
  have h1' := hid h1
  have d1' := hid d1
  have q1' := hid q1
  rw [ec.out] at d1'
  clear h1 d1 q1 ec
  go_wp2_with fail
  refine (pwant_any h1'.out _).mono ?_
  rintro en w2 ⟨rfl, h2, t2⟩
  have h2' := hid (e1.out ▸ (show PRd w2 b pa cp T e _ from h2))
  have q2' := hid (q1'.out.touch t2)
  have d2' := hid (Blk.touch d1'.out t2 hdb)
  clear h2 t2
  go_wp2_with fail
  refine (ptiers_any h2'.out).mono ?_
  rintro en w3 ⟨rfl, h3, t3⟩
  have h3' := hid h3
  have q3' := hid (q2'.out.touch t3)
  have d3' := hid (Blk.touch d2'.out t3 hdb)
  clear h3 t3
  have y9 := Blk.cell d3'.out 9 (v := .int .i64 D.lo) rfl
  have y10 := Blk.cell d3'.out 10 (v := .int .i64 D.hi) rfl
  have yf := Blk.free d3'.out
  have yz := Blk.lt d3'.out
  have h30' := hid (show PRd (((w3).setCell ⟨d, 9, none⟩ (.int .i64 (Po.loV T (Po.rs1 T e st)))).setCell ⟨d, 10, none⟩ (.int .i64 (Po.hiV T e (Po.rs1 T e st)))) b pa cp T e _ from (by simp only [PRd.setD_iff hf'.out]; exact h3'.out))
  have q30' := hid (show Touch2 b d w (((w3).setCell ⟨d, 9, none⟩ (.int .i64 (Po.loV T (Po.rs1 T e st)))).setCell ⟨d, 10, none⟩ (.int .i64 (Po.hiV T e (Po.rs1 T e st)))) from (by simp only [Touch2.setD_iff]; exact q3'.out))
  have d30' := hid (show DBlk (((w3).setCell ⟨d, 9, none⟩ (.int .i64 (Po.loV T (Po.rs1 T e st)))).setCell ⟨d, 10, none⟩ (.int .i64 (Po.hiV T e (Po.rs1 T e st)))) d ({ D with role := Po.whoV T e (Po.want T e Po.wRole st), lo := Po.loV T (Po.rs1 T e st), hi := Po.hiV T e (Po.rs1 T e st) }) bv from (Blk.set ((Blk.set (d3'.out) 9 (.int .i64 (Po.loV T (Po.rs1 T e st))))) 10 (.int .i64 (Po.hiV T e (Po.rs1 T e st)))))
  clear h3' q3' d3'
  go_wp2_with fail
  clear y9 y10 yf yz
  refine (pwant_any h30'.out _).mono ?_
  rintro en w4 ⟨rfl, h4, t4⟩
  have h4' := hid (e2.out ▸ (show PRd w4 b pa cp T e _ from h4))
  have q4' := hid (q30'.out.touch t4)
  have d4' := hid (Blk.touch d30'.out t4 hdb)
  clear h4 t4
  go_wp2_with fail
  refine (pwho_any h4'.out).mono ?_
  rintro en w5 ⟨rfl, h5, t5⟩
  have h5' := hid h5
  have q5' := hid (q4'.out.touch t5)
  have d5' := hid (Blk.touch d4'.out t5 hdb)
  clear h5 t5
  have y11 := Blk.cell d5'.out 11 (v := .bool D.label.any) rfl
  have y12 := Blk.cell d5'.out 12 (v := .string D.label.name) rfl
  have y13 := Blk.cell d5'.out 13 (v := .int .i64 D.label.n) rfl
  have y14 := Blk.cell d5'.out 14 (v := .int .i64 D.label.line) rfl
  have y15 := Blk.cell d5'.out 15 (v := .int .i64 D.label.col) rfl
  have yf := Blk.free d5'.out
  have yz := Blk.lt d5'.out
  have h50' := hid (show PRd ((((((w5).setCell ⟨d, 11, none⟩ (.bool (Po.whoV T e (Po.rs2 T e st)).any)).setCell ⟨d, 12, none⟩ (.string (Po.whoV T e (Po.rs2 T e st)).name)).setCell ⟨d, 13, none⟩ (.int .i64 (Po.whoV T e (Po.rs2 T e st)).n)).setCell ⟨d, 14, none⟩ (.int .i64 (Po.whoV T e (Po.rs2 T e st)).line)).setCell ⟨d, 15, none⟩ (.int .i64 (Po.whoV T e (Po.rs2 T e st)).col)) b pa cp T e _ from (by simp only [PRd.setD_iff hf'.out]; exact h5'.out))
  have q50' := hid (show Touch2 b d w ((((((w5).setCell ⟨d, 11, none⟩ (.bool (Po.whoV T e (Po.rs2 T e st)).any)).setCell ⟨d, 12, none⟩ (.string (Po.whoV T e (Po.rs2 T e st)).name)).setCell ⟨d, 13, none⟩ (.int .i64 (Po.whoV T e (Po.rs2 T e st)).n)).setCell ⟨d, 14, none⟩ (.int .i64 (Po.whoV T e (Po.rs2 T e st)).line)).setCell ⟨d, 15, none⟩ (.int .i64 (Po.whoV T e (Po.rs2 T e st)).col)) from (by simp only [Touch2.setD_iff]; exact q5'.out))
  have d50' := hid (show DBlk ((((((w5).setCell ⟨d, 11, none⟩ (.bool (Po.whoV T e (Po.rs2 T e st)).any)).setCell ⟨d, 12, none⟩ (.string (Po.whoV T e (Po.rs2 T e st)).name)).setCell ⟨d, 13, none⟩ (.int .i64 (Po.whoV T e (Po.rs2 T e st)).n)).setCell ⟨d, 14, none⟩ (.int .i64 (Po.whoV T e (Po.rs2 T e st)).line)).setCell ⟨d, 15, none⟩ (.int .i64 (Po.whoV T e (Po.rs2 T e st)).col)) d ({ D with role := Po.whoV T e (Po.want T e Po.wRole st), lo := Po.loV T (Po.rs1 T e st), hi := Po.hiV T e (Po.rs1 T e st), label := Po.whoV T e (Po.rs2 T e st) }) bv from (Blk.set ((Blk.set ((Blk.set ((Blk.set ((Blk.set (d5'.out) 11 (.bool (Po.whoV T e (Po.rs2 T e st)).any))) 12 (.string (Po.whoV T e (Po.rs2 T e st)).name))) 13 (.int .i64 (Po.whoV T e (Po.rs2 T e st)).n))) 14 (.int .i64 (Po.whoV T e (Po.rs2 T e st)).line))) 15 (.int .i64 (Po.whoV T e (Po.rs2 T e st)).col)))
  clear h5' q5' d5'
  unfold pwhoV
  go_wp2_with fail
  clear y11 y12 y13 y14 y15 yf yz
  refine (pwant_any h50'.out _).mono ?_
  rintro en w6 ⟨rfl, h6, t6⟩
  have h6' := hid (e3.out ▸ (show PRd w6 b pa cp T e _ from h6))
  have q6' := hid (q50'.out.touch t6)
  have d6' := hid (Blk.touch d50'.out t6 hdb)
  clear h6 t6
  go_wp2_with fail
  refine (pwhere_any h6'.out).mono ?_
  rintro en w7 ⟨rfl, h7, t7⟩
  have h7' := hid h7
  have q7' := hid (q6'.out.touch t7)
  have d7' := hid (Blk.touch d6'.out t7 hdb)
  clear h7 t7
  have y16 := Blk.cell d7'.out 16 (v := .bool D.place.any) rfl
  have y17 := Blk.cell d7'.out 17 (v := .string D.place.name) rfl
  have y18 := Blk.cell d7'.out 18 (v := .int .i64 D.place.n) rfl
  have y19 := Blk.cell d7'.out 19 (v := .int .i64 D.place.line) rfl
  have y20 := Blk.cell d7'.out 20 (v := .int .i64 D.place.col) rfl
  have yf := Blk.free d7'.out
  have yz := Blk.lt d7'.out
  have h70' := hid (show PRd ((((((w7).setCell ⟨d, 16, none⟩ (.bool (Po.whereV T e (Po.rs3 T e st)).any)).setCell ⟨d, 17, none⟩ (.string (Po.whereV T e (Po.rs3 T e st)).name)).setCell ⟨d, 18, none⟩ (.int .i64 (Po.whereV T e (Po.rs3 T e st)).n)).setCell ⟨d, 19, none⟩ (.int .i64 (Po.whereV T e (Po.rs3 T e st)).line)).setCell ⟨d, 20, none⟩ (.int .i64 (Po.whereV T e (Po.rs3 T e st)).col)) b pa cp T e _ from (by simp only [PRd.setD_iff hf'.out]; exact h7'.out))
  have q70' := hid (show Touch2 b d w ((((((w7).setCell ⟨d, 16, none⟩ (.bool (Po.whereV T e (Po.rs3 T e st)).any)).setCell ⟨d, 17, none⟩ (.string (Po.whereV T e (Po.rs3 T e st)).name)).setCell ⟨d, 18, none⟩ (.int .i64 (Po.whereV T e (Po.rs3 T e st)).n)).setCell ⟨d, 19, none⟩ (.int .i64 (Po.whereV T e (Po.rs3 T e st)).line)).setCell ⟨d, 20, none⟩ (.int .i64 (Po.whereV T e (Po.rs3 T e st)).col)) from (by simp only [Touch2.setD_iff]; exact q7'.out))
  have d70' := hid (show DBlk ((((((w7).setCell ⟨d, 16, none⟩ (.bool (Po.whereV T e (Po.rs3 T e st)).any)).setCell ⟨d, 17, none⟩ (.string (Po.whereV T e (Po.rs3 T e st)).name)).setCell ⟨d, 18, none⟩ (.int .i64 (Po.whereV T e (Po.rs3 T e st)).n)).setCell ⟨d, 19, none⟩ (.int .i64 (Po.whereV T e (Po.rs3 T e st)).line)).setCell ⟨d, 20, none⟩ (.int .i64 (Po.whereV T e (Po.rs3 T e st)).col)) d ({ D with role := Po.whoV T e (Po.want T e Po.wRole st), lo := Po.loV T (Po.rs1 T e st), hi := Po.hiV T e (Po.rs1 T e st), label := Po.whoV T e (Po.rs2 T e st), place := Po.whereV T e (Po.rs3 T e st) }) bv from (Blk.set ((Blk.set ((Blk.set ((Blk.set ((Blk.set (d7'.out) 16 (.bool (Po.whereV T e (Po.rs3 T e st)).any))) 17 (.string (Po.whereV T e (Po.rs3 T e st)).name))) 18 (.int .i64 (Po.whereV T e (Po.rs3 T e st)).n))) 19 (.int .i64 (Po.whereV T e (Po.rs3 T e st)).line))) 20 (.int .i64 (Po.whereV T e (Po.rs3 T e st)).col)))
  clear h7' q7' d7'
  unfold pwhoV
  go_wp2_with fail
  clear y16 y17 y18 y19 y20 yf yz
  refine (pwant_any h70'.out _).mono ?_
  rintro en w8 ⟨rfl, h8, t8⟩
  have h8' := hid (e4.out ▸ (show PRd w8 b pa cp T e _ from h8))
  have q8' := hid (q70'.out.touch t8)
  have d8' := hid (Blk.touch d70'.out t8 hdb)
  clear h8 t8
  go_wp2_with fail
  refine (pnumber_any h8'.out).mono ?_
  rintro en w9 ⟨rfl, h9, t9⟩
  have h9' := hid h9
  have q9' := hid (q8'.out.touch t9)
  have d9' := hid (Blk.touch d8'.out t9 hdb)
  clear h9 t9
  have y21 := Blk.cell d9'.out 21 (v := .int .i64 D.zoom) rfl
  have yf := Blk.free d9'.out
  have yz := Blk.lt d9'.out
  have h90' := hid (show PRd ((w9).setCell ⟨d, 21, none⟩ (.int .i64 (Po.takeTok T 3 (Po.rs4 T e st)).n)) b pa cp T e _ from (by simp only [PRd.setD_iff hf'.out]; exact h9'.out))
  have q90' := hid (show Touch2 b d w ((w9).setCell ⟨d, 21, none⟩ (.int .i64 (Po.takeTok T 3 (Po.rs4 T e st)).n)) from (by simp only [Touch2.setD_iff]; exact q9'.out))
  have d90' := hid (show DBlk ((w9).setCell ⟨d, 21, none⟩ (.int .i64 (Po.takeTok T 3 (Po.rs4 T e st)).n)) d ({ D with role := Po.whoV T e (Po.want T e Po.wRole st), lo := Po.loV T (Po.rs1 T e st), hi := Po.hiV T e (Po.rs1 T e st), label := Po.whoV T e (Po.rs2 T e st), place := Po.whereV T e (Po.rs3 T e st), zoom := (Po.takeTok T 3 (Po.rs4 T e st)).n }) bv from (Blk.set (d9'.out) 21 (.int .i64 (Po.takeTok T 3 (Po.rs4 T e st)).n)))
  clear h9' q9' d9'
  go_wp2_with fail
  go_end0
  exact ⟨rfl, h90'.out, d90'.out, q90'.out⟩

end Go.Proofs.YtnoieobjfihbeaaDoor

namespace Go.Proofs.YtnoieobjfihbeaaDoor
open Go.RowKit Go.Sort

section
variable {P : Program} {ops : Array Oper} {rest : List Oper} {o : Oper} {a : Act} {w : World} {Q : Exit → Act → World → Prop}
/-- a whole struct into the block that was laid last -/
theorem wpList_store_new (hgd : o.guard = none) (ty : TypeId) (x y : Operand) (ho : o.op = .store ty x y) (hd : o.dst = none) (w0 : World) (t : TypeId) (old cells : Array Value) (hw : w = w0.alloc (.cells old t))
    (hx : a.eval x = .pointer (some ⟨w0.heap.size, 0, none⟩)) (hy : a.eval y = .agg cells) (hi : (P.info? ty).map (·.size) = some cells.size) (hold : old.size = cells.size) (h1 : cells.all (·.oneCell') = true)
    (h : wpList P ops Q rest a (w0.alloc (.cells cells t))) : wpList P ops Q (o :: rest) a w := by
  subst hw
  refine wpList_store_rowTo hgd ty x y ho hd w0.heap.size cells hx hy t old (heap_alloc_last w0 _) hi hold h1 ?_
  rw [World.setRow_alloc_new]
  exact h
/-- a whole struct into a block that is known whole -/
theorem wpList_store_blk (hgd : o.guard = none) (ty : TypeId) (x y : Operand) (ho : o.op = .store ty x y) (hd : o.dst = none) (g : Nat) (t : TypeId) (old cells : Array Value) (hb : Blk w g old t)
    (hx : a.eval x = .pointer (some ⟨g, 0, none⟩)) (hy : a.eval y = .agg cells) (hi : (P.info? ty).map (·.size) = some cells.size) (hold : old.size = cells.size) (h1 : cells.all (·.oneCell') = true)
    (h : wpList P ops Q rest a (w.setRow g cells)) : wpList P ops Q (o :: rest) a w :=
  wpList_store_rowTo hgd ty x y ho hd g cells hx hy t old hb hi hold h1 h
/-- a whole struct out of a block that is known whole -/
theorem wpList_load_blk (hgd : o.guard = none) (ty : TypeId) (x : Operand) (ho : o.op = .load ty x) (k : Tmp) (hd : o.dst = some k) (g : Nat) (t : TypeId) (cells : Array Value) (hb : Blk w g cells t)
    (hx : a.eval x = .pointer (some ⟨g, 0, none⟩)) {d : TypeDesc} (hu : P.underlying ty = some d) (hr : d.isRow = true) (hi : (P.info? ty).map (·.size) = some cells.size)
    (h : wpList P ops Q rest (a.put (some k) (.agg cells)) w) : wpList P ops Q (o :: rest) a w :=
  wpList_load_row hgd ty x ho g hx t cells (0, 0) d hb hu (by cases d <;> simp_all) hi (by rw [hd]; exact h)
/-- a whole struct out of the middle of a row -/
theorem wpList_load_at (hgd : o.guard = none) (ty : TypeId) (x : Operand) (ho : o.op = .load ty x) (k : Tmp) (hd : o.dst = some k) (g off : Nat) (cells : Array Value) (hb : w.rangeAt g off cells.toList)
    (hx : a.eval x = .pointer (some ⟨g, off, none⟩)) {d : TypeDesc} (hu : P.underlying ty = some d) (hr : d.isRow = true) (hi : (P.info? ty).map (·.size) = some cells.size)
    (h : wpList P ops Q rest (a.put (some k) (.agg cells)) w) : wpList P ops Q (o :: rest) a w :=
  wpList_load_mid hgd ty x ho g off hx cells.toList d hb hu hr (by simpa using hi) (by rw [hd]; simpa using h)
/-- the same under a guard that is decided -/
theorem wpList_want (hw : Region.wanted o (yielded ops a.tmps) = true) (h : ∀ K : Act → World → Prop, (∀ a w, wpList P ops Q rest a w → K a w) → o.wp P a w K Q) : wpList P ops Q (o :: rest) a w :=
  wpList_step fun K hK => by rw [if_pos hw]; exact h K hK
theorem wpList_load_blkG (hw : Region.wanted o (yielded ops a.tmps) = true) (ty : TypeId) (x : Operand) (ho : o.op = .load ty x) (k : Tmp) (hd : o.dst = some k) (g : Nat) (t : TypeId) (cells : Array Value) (hb : Blk w g cells t)
    (hx : a.eval x = .pointer (some ⟨g, 0, none⟩)) {d : TypeDesc} (hu : P.underlying ty = some d) (hr : d.isRow = true) (hi : (P.info? ty).map (·.size) = some cells.size)
    (h : wpList P ops Q rest (a.put (some k) (.agg cells)) w) : wpList P ops Q (o :: rest) a w :=
  wpList_want hw fun _ hK => wp_load_row ty x ho g hx t cells (0, 0) d hb hu (by cases d <;> simp_all) hi (by rw [hd]; exact hK _ _ h)
/-- a part of a block that is known whole -/
theorem wpList_load_partG (hw : Region.wanted o (yielded ops a.tmps) = true) (ty : TypeId) (x : Operand) (ho : o.op = .load ty x) (k : Tmp) (hd : o.dst = some k) (g off : Nat) (cells : Array Value) (hb : w.rangeAt g off cells.toList)
    (hx : a.eval x = .pointer (some ⟨g, off, none⟩)) {d : TypeDesc} (hu : P.underlying ty = some d) (hr : d.isRow = true) (hi : (P.info? ty).map (·.size) = some cells.size)
    (h : wpList P ops Q rest (a.put (some k) (.agg cells)) w) : wpList P ops Q (o :: rest) a w :=
  wpList_want hw fun _ hK => wp_load_mid ty x ho g off hx cells.toList d hb hu hr (by simpa using hi) (by rw [hd]; simpa using hK _ _ h)
/-- a slice of one struct: what 'append(l, x)' lays first -/
theorem wpList_buildOne (hg : o.guard = none) (t e : TypeId) (x : Operand) (ho : o.op = .buildSlice t 1 #[(0, x)]) (k : Tmp) (hd : o.dst = some k) (hu : P.underlying t = some (.slice e)) (ie : TypeInfo) (z : Value) (hie : P.info? e = some ie)
    (hz : ie.zero = some z) (size : Nat) (hsize : ie.size = size) (hpos : 0 < size) (hsm : size ≤ 16777216) (cells : Array Value) (hx : a.eval x = .agg cells) (hc : cells.size = size)
    (h : wpList P ops Q rest (a.put (some k) (.slice (some ⟨w.heap.size, 0, none⟩) 1 1)) (w.alloc (.cells cells e))) : wpList P ops Q (o :: rest) a w := by
  refine wpList_buildSlice hg t e 1 #[(0, x)] ho cells ie z hu hie hz (by rw [hsize]; omega) (by rw [hsize]; omega) ?_ (by rw [hd]; exact h)
  have hf := Great.fill_whole (s := size) hpos [.agg cells] ((Array.range (1 * size)).map (z.cells[· % z.cells.size]!)) (by intro v hv; rw [List.mem_singleton] at hv; rw [hv]; exact hc) (by simp)
  rw [hsize]
  have e1 : (#[(0, x)].map fun (y : Nat × Operand) => (y.1, a.eval y.2)).toList = (([Value.agg cells].zipIdx 0).map fun y => (y.2, y.1)) := by simp [hx]
  have e2 : ([Value.agg cells].flatMap fun v => v.cells.toList).toArray = cells := by simp [Value.cells]
  rw [e2] at hf
  rw [← hf]
  congr 1
end

theorem Blk.range {w : World} {b : Nat} {cs : Array Value} {t : TypeId} (h : Blk w b cs t) (o n : Nat) : w.rangeAt b o (cs.extract o (o + n)).toList := World.rangeAt_of_block h o n
theorem Blk.setRow {w : World} {b : Nat} {cs : Array Value} {t : TypeId} (h : Blk w b cs t) (cs' : Array Value) : Blk (w.setRow b cs') b cs' t := setRow_heap w b cs cs' t (0, 0) h
theorem Blk.setRowOther {w : World} {b k : Nat} {cs cs' : Array Value} {t : TypeId} (h : Blk w b cs t) (hk : b ≠ k) : Blk (w.setRow k cs') b cs t := (setRow_other w k b cs' hk).trans h
theorem Touch.setRow {b : Nat} {a w : World} (h : Touch b a w) (cs : Array Value) : Touch b a (w.setRow b cs) :=
  h.trans ⟨rfl, rfl, rfl, by simp, fun k _ hn => setRow_other w b k cs hn⟩
theorem Touch.setRowNew {b k : Nat} {a w : World} (h : Touch b a w) (hk : a.heap.size ≤ k) (cs : Array Value) : Touch b a (w.setRow k cs) :=
  ⟨h.os, h.tape, h.output, by simpa using h.size, fun i hi hn => (setRow_other w k i cs (by omega)).trans (h.block i hi hn)⟩
theorem below_setRow {B k : Nat} {a w : World} (h : Below B a w) (hk : B ≤ k) (cs : Array Value) : Below B a (w.setRow k cs) :=
  ⟨h.os, h.tape, h.output, by simpa using h.size, fun i hi => (setRow_other w k i cs (by omega)).trans (h.block i hi)⟩
theorem Row.setRow {w : World} {v : Value} {n size : Nat} {xs : List Value} {k : Nat} (h : Row w v n size xs) (hne : v.ownBlock ≠ some k) (cs : Array Value) : Row (w.setRow k cs) v n size xs := h.touch ((Touch.refl k w).setRow cs) hne
/-- a struct that is handed back out of a block that is known whole -/
theorem results_blk {P : Program} {fn : Func} {p : Tmp} {ty : TypeId} (h : fn.results = #[.cell p ty]) (tmps : Array Value) (w : World) (g : Nat) (t : TypeId) (cs : Array Value) (hp : tmps.getD p undef = .pointer (some ⟨g, 0, none⟩)) (hb : Blk w g cs t)
    {d : TypeDesc} (hu : P.underlying ty = some d) (hr : d.isRow = true) (hi : (P.info? ty).map (·.size) = some cs.size) : (results fn tmps).run P w = .ok (.agg cs) w :=
  results_cell_row h tmps w g t cs (0, 0) d hp hb hu (by cases d <;> simp_all) hi

/-! ### rows of structs -/
/-- where the structs of a row lie -/
structure SRow {α : Type} (w : World) (g off cap size : Nat) (f : α → Array Value) (l : List α) : Prop where
  cap : l.length ≤ cap
  lt : g < w.heap.size
  get : ∀ (i : Nat) (hi : i < l.length), w.rangeAt g (off + i * size) (f l[i]).toList
theorem flat_part {α : Type} {f : α → Array Value} {size : Nat} : ∀ (l : List α), (∀ x ∈ l, (f x).size = size) → ∀ (i : Nat) (hi : i < l.length) (j : Nat), j < size → (l.flatMap fun x => (f x).toList)[i * size + j]? = (f l[i])[j]?
  | [], _, i, hi, _, _ => by simp at hi
  | x :: l, hs, i, hi, j, hj => by
    have hx : (f x).toList.length = size := by simpa using hs x List.mem_cons_self
    rw [List.flatMap_cons]
    cases i with
    | zero => rw [List.getElem?_append_left (by omega)]; simp
    | succ i =>
      rw [List.getElem?_append_right (by rw [hx, Nat.add_mul]; omega), hx]
      have e : (i + 1) * size + j - size = i * size + j := by rw [Nat.add_mul]; omega
      rw [e, flat_part l (fun y hy => hs y (List.mem_cons_of_mem _ hy)) i (by simpa using hi) j hj]
      simp
theorem srow_of {α : Type} {w : World} {v : Value} {size : Nat} {f : α → Array Value} {l : List α} (hs : ∀ x ∈ l, (f x).size = size) (h : Row w v l.length size (l.flatMap fun x => (f x).toList)) :
    (v = .slice none 0 0 ∧ l = []) ∨ ∃ g off cap, v = .slice (some ⟨g, off, none⟩) l.length cap ∧ SRow w g off cap size f l := by
  rcases h.2 with ⟨hv, hn⟩ | ⟨g, off, cap, hv, hn, hg, hc⟩
  · exact .inl ⟨hv, List.eq_nil_of_length_eq_zero hn⟩
  · refine .inr ⟨g, off, cap, hv, hn, hg, fun i hi j u hu => ?_⟩
    have hsz : (f l[i]).size = size := hs _ (List.getElem_mem hi)
    have hj : j < size := by
      rw [← hsz]
      have := (List.getElem?_eq_some_iff.1 hu).1
      simpa using this
    rw [show off + i * size + j = off + (i * size + j) by omega]
    exact hc _ _ (by rw [flat_part l hs i hi j hj]; simpa using hu)
theorem SRow.ext {α : Type} {w w' : World} {g off cap size : Nat} {f : α → Array Value} {l : List α} (h : SRow w g off cap size f l) (hb : Below w.heap.size w w') : SRow w' g off cap size f l :=
  ⟨h.cap, Nat.lt_of_lt_of_le h.lt hb.size, fun i hi j u hu => (hb.cell (p := ⟨g, off + i * size + j, none⟩) h.lt).trans (h.get i hi j u hu)⟩
theorem SRow.below {α : Type} {w w' : World} {B : Nat} {g off cap size : Nat} {f : α → Array Value} {l : List α} (h : SRow w g off cap size f l) (hb : Below B w w') (hB : w.heap.size ≤ B) : SRow w' g off cap size f l :=
  h.ext (hb.mono hB)
theorem row_shape {w : World} {v : Value} {n size : Nat} {xs : List Value} (h : Row w v n size xs) : ∃ p c, v = .slice p n c := by
  rcases h.2 with ⟨rfl, rfl⟩ | ⟨g, off, cap, rfl, _⟩
  · exact ⟨_, _, rfl⟩
  · exact ⟨_, _, rfl⟩

end Go.Proofs.YtnoieobjfihbeaaDoor

namespace Go.Proofs.YtnoieobjfihbeaaDoor.Ru
open Po (Box Who Decl)

theorem rruleR_eq (r : Rule) : rruleR r = ruleR r := by
  unfold rruleR ruleR
  by_cases h6 : r.kind = 6
  · rw [if_pos h6, if_pos h6]
    by_cases hb : r.boxes = []
    · rw [hb]; simp
    · have : ((r.boxes.length : Int) == 0) = false := by
        rw [beq_eq_false_iff_ne]
        have := List.length_pos_iff.2 hb
        omega
      rw [this]; simp
  · rw [if_neg h6, if_neg h6]
    by_cases h4 : r.kind = 4 ∨ r.kind = 5
    · have e : (r.kind == 4 || r.kind == 5) = true := by simpa using h4
      rw [if_pos h4, e]
      unfold boxesR small
      rw [Bool.eq_iff_iff]
      simp only [Bool.and_eq_true, decide_eq_true_eq, Bool.true_and]
      constructor <;> intro h <;> simp_all
    · have e : (r.kind == 4 || r.kind == 5) = false := by
        rw [Bool.eq_false_iff]; simpa using h4
      rw [if_neg h4, e]; simp
theorem rulesR_eq (l : List Rule) : l.all rruleR = rulesR l := by
  unfold rulesR; congr 1; funext r; exact rruleR_eq r
theorem ruleR_kind {r : Rule} (h : ruleR r = true) : r.kind = 4 ∨ r.kind = 5 ∨ r.kind = 6 := by
  unfold ruleR at h
  split at h
  · omega
  · split at h
    · omega
    · cases h
theorem rforR_eq (r : Rule) (role tier label : Int) : rforR r role tier label = forR r role tier label := by
  unfold rforR forR numbers3
  rw [rruleR_eq]
  cases h : ruleR r with
  | false => simp
  | true =>
    have hk := ruleR_kind h
    have e : decide (r.kind < 6) = (r.kind != 6) := by
      rw [Bool.eq_iff_iff]
      simp only [decide_eq_true_eq, bne_iff_ne]
      omega
    rw [e]
    simp only [Bool.true_and, Bool.and_assoc]
theorem boxHas_fits {b : Box} {x y : Int} (h : boxHas b x y = true) : fits x y = true := by
  unfold boxHas at h
  simp only [Bool.and_eq_true] at h
  exact h.1.2
theorem rfor2_eq (r : Rule) (role tier label x y : Int) : rfor2 r role tier label x y = (forR r role tier label && hasB r.boxes x y) := by
  unfold rfor2 hasB
  rw [rforR_eq]
  cases forR r role tier label with
  | false => simp
  | true =>
    simp only [Bool.true_and]
    cases hf : fits x y with
    | true => simp
    | false =>
      simp only [Bool.false_and]
      symm
      rw [List.any_eq_false]
      intro b hb h
      rw [boxHas_fits h] at hf
      cases hf
theorem forR_zoom {r : Rule} {role tier label : Int} (h : forR r role tier label = true) : 0 ≤ r.zoom ∧ r.zoom ≤ 16 ∧ (r.kind = 4 ∨ r.kind = 5) := by
  unfold forR at h
  simp only [Bool.and_eq_true, bne_iff_ne] at h
  have h1 := h.1.1.1.1.1.1
  have h2 := h.1.1.1.1.1.2
  have hk := ruleR_kind h1
  have h4 : r.kind = 4 ∨ r.kind = 5 := by omega
  unfold ruleR at h1
  rw [if_neg h2, if_pos h4] at h1
  unfold small at h1
  simp only [Bool.and_eq_true, decide_eq_true_eq] at h1
  exact ⟨h1.2.1, h1.2.2, h4⟩

/-- the two folds, apart -/
theorem fold_allowed (role tier label x y : Int) (l : List Rule) : ∀ p : Int × Int, (l.foldl (zoomStep role tier label x y) p).1 = l.foldl (rstepA role tier label x y) p.1 := by
  induction l with
  | nil => intro p; rfl
  | cons r l ih =>
    intro p
    rw [List.foldl_cons, List.foldl_cons, ih]
    congr 1
    unfold zoomStep rstepA
    rw [rfor2_eq]
    cases hf : (forR r role tier label && hasB r.boxes x y) with
    | false => simp
    | true =>
      by_cases h4 : r.kind = 4
      · simp only [h4, if_true, BEq.rfl, Bool.true_and, Bool.and_true]
        by_cases hz : p.1 < r.zoom
        · rw [if_pos (by simpa using hz)]; omega
        · rw [if_neg (by simpa using hz)]; omega
      · simp [h4]
theorem fold_capped (role tier label x y : Int) (l : List Rule) : ∀ (p : Int × Int) (a : Int), l.foldl (rstepC role tier label x y) (min a p.2) = min a (l.foldl (zoomStep role tier label x y) p).2 := by
  induction l with
  | nil => intro p a; rfl
  | cons r l ih =>
    intro p a
    rw [List.foldl_cons, List.foldl_cons, ← ih]
    congr 1
    unfold zoomStep rstepC
    rw [rfor2_eq]
    cases hf : (forR r role tier label && hasB r.boxes x y) with
    | false => simp
    | true =>
      have hz := forR_zoom (by simp only [Bool.and_eq_true] at hf; exact hf.1)
      by_cases h4 : r.kind = 4
      · have h5 : (r.kind == 5) = false := by rw [beq_eq_false_iff_ne]; omega
        simp [h4]
      · have h5 : (r.kind == 5) = true := by rw [beq_iff_eq]; omega
        simp only [h4, h5, if_true, if_false, Bool.true_and, Bool.and_true]
        by_cases hz : r.zoom < min a p.2
        · rw [if_pos (by simpa using hz)]; omega
        · rw [if_neg (by simpa using hz)]; omega
theorem fold_bounds (role tier label x y : Int) (l : List Rule) : ∀ p : Int × Int, 0 ≤ p.1 → p.1 ≤ 16 → p.2 ≤ 16 → 0 ≤ p.2 →
    0 ≤ (l.foldl (zoomStep role tier label x y) p).1 ∧ (l.foldl (zoomStep role tier label x y) p).1 ≤ 16 ∧ (l.foldl (zoomStep role tier label x y) p).2 ≤ 16 ∧ 0 ≤ (l.foldl (zoomStep role tier label x y) p).2 := by
  induction l with
  | nil => intro p h1 h2 h3 h4; exact ⟨h1, h2, h3, h4⟩
  | cons r l ih =>
    intro p h1 h2 h3 h4
    rw [List.foldl_cons]
    unfold zoomStep
    split
    · rename_i hf
      have hz := forR_zoom (by simp only [Bool.and_eq_true] at hf; exact hf.1)
      split
      · exact ih _ (by show 0 ≤ max p.1 r.zoom; omega) (by show max p.1 r.zoom ≤ 16; omega) h3 h4
      · exact ih _ h1 h2 (by show min p.2 r.zoom ≤ 16; omega) (by show 0 ≤ min p.2 r.zoom; omega)
    · exact ih _ h1 h2 h3 h4
theorem rzoom_eq (l : List Rule) (role tier label x y : Int) : rzoomV l role tier label x y = zoomV l role tier label x y := by
  unfold rzoomV zoomV
  rw [rulesR_eq]
  split
  · have h1 := fold_allowed role tier label x y l (0, 16)
    have h2 := fold_bounds role tier label x y l (0, 16) (by decide) (by decide) (by decide) (by decide)
    have h3 := fold_capped role tier label x y l (0, 16) (l.foldl (rstepA role tier label x y) 0)
    simp only at h1 h3
    rw [← h1] at h3 ⊢
    rw [← h3]
    congr 1
    show _ = min _ 16
    omega
  · rfl
theorem rcloaks_eq (l : List Rule) (role : Int) : rcloaksV l role = cloaksV l role := by
  unfold rcloaksV cloaksV
  rw [rulesR_eq]
  cases rulesR l with
  | false => simp
  | true =>
    cases small role 7 with
    | false =>
      simp
    | true => simp

/-! ### in any order -/
theorem zoomStep_comm (role tier label x y : Int) (p : Int × Int) (r s : Rule) : zoomStep role tier label x y (zoomStep role tier label x y p r) s = zoomStep role tier label x y (zoomStep role tier label x y p s) r := by
  unfold zoomStep
  cases (forR r role tier label && hasB r.boxes x y) <;> cases (forR s role tier label && hasB s.boxes x y) <;> simp only [Bool.false_eq_true, if_true, if_false]
  by_cases h1 : r.kind = 4 <;> by_cases h2 : s.kind = 4 <;> simp only [h1, h2, if_true, if_false] <;> ext <;> simp only <;> omega
theorem all_perm {α : Type} {l m : List α} (h : l.Perm m) (f : α → Bool) : l.all f = m.all f := by
  rw [Bool.eq_iff_iff, List.all_eq_true, List.all_eq_true]
  exact ⟨fun hl x hx => hl x (h.mem_iff.2 hx), fun hl x hx => hl x (h.mem_iff.1 hx)⟩
theorem any_perm {α : Type} {l m : List α} (h : l.Perm m) (f : α → Bool) : l.any f = m.any f := by
  rw [Bool.eq_iff_iff, List.any_eq_true, List.any_eq_true]
  exact ⟨fun ⟨x, hx, hf⟩ => ⟨x, h.mem_iff.1 hx, hf⟩, fun ⟨x, hx, hf⟩ => ⟨x, h.mem_iff.2 hx, hf⟩⟩
theorem foldl_perm {α β : Type} {f : β → α → β} (hc : ∀ p r s, f (f p r) s = f (f p s) r) {l m : List α} (h : l.Perm m) : ∀ p, l.foldl f p = m.foldl f p := by
  induction h with
  | nil => intro p; rfl
  | cons x _ ih => intro p; exact ih _
  | swap x y l => intro p; simp only [List.foldl_cons]; rw [hc]
  | trans _ _ ih1 ih2 => intro p; rw [ih1, ih2]
theorem zoom_perm {l m : List Rule} (h : l.Perm m) (role tier label x y : Int) : zoomV l role tier label x y = zoomV m role tier label x y := by
  unfold zoomV rulesR
  rw [all_perm h, foldl_perm (zoomStep_comm role tier label x y) h]
theorem cloaks_perm {l m : List Rule} (h : l.Perm m) (role : Int) : cloaksV l role = cloaksV m role := by
  unfold cloaksV rulesR
  rw [all_perm h, any_perm h]
/-- the turned row of RulesTurned -/
theorem turned_perm (l : List Rule) (at_ : Nat) : l.Perm ((l.drop at_).reverse ++ l.take at_) := by
  have h1 : ((l.drop at_).reverse ++ l.take at_).Perm (l.drop at_ ++ l.take at_) := (List.reverse_perm _).append_right _
  have h2 : (l.drop at_ ++ l.take at_).Perm (l.take at_ ++ l.drop at_) := List.perm_append_comm
  rw [List.take_append_drop] at h2
  exact (h1.trans h2).symm

/-! ### one rule more -/
theorem zoom_more {l : List Rule} {r : Rule} (hr : ruleR r = true) (role tier label x y : Int) :
    (r.kind = 4 → zoomV l role tier label x y ≤ zoomV (l ++ [r]) role tier label x y) ∧ (r.kind = 5 → zoomV (l ++ [r]) role tier label x y ≤ zoomV l role tier label x y) ∧ (r.kind = 6 → zoomV l role tier label x y = zoomV (l ++ [r]) role tier label x y) := by
  unfold zoomV rulesR
  rw [List.all_append]
  simp only [List.all_cons, List.all_nil, hr, Bool.and_true, List.foldl_append, List.foldl_cons, List.foldl_nil]
  cases l.all ruleR with
  | false => simp
  | true =>
    simp only [if_true]
    generalize l.foldl (zoomStep role tier label x y) (0, 16) = p
    refine ⟨fun h4 => ?_, fun h5 => ?_, fun h6 => ?_⟩
    · unfold zoomStep
      split
      · show min p.1 p.2 ≤ min (max p.1 r.zoom) p.2; omega
      · exact Int.le_refl _
    · unfold zoomStep
      split
      · rw [if_neg (by omega)]; show min p.1 (min p.2 r.zoom) ≤ min p.1 p.2; omega
      · exact Int.le_refl _
    · have : forR r role tier label = false := by
        unfold forR
        have : (r.kind != 6) = false := by rw [h6]; rfl
        rw [this]; simp
      unfold zoomStep
      rw [this]; simp

end Go.Proofs.YtnoieobjfihbeaaDoor.Ru

namespace Go.Proofs.YtnoieobjfihbeaaDoor
open Go.RowKit Go.Sort

def boxArr (x : Po.Box) : Array Value := #[.int .i64 x.x0, .int .i64 x.y0, .int .i64 x.x1, .int .i64 x.y1]
theorem pboxV_eq (x : Po.Box) : pboxV x = .agg (boxArr x) := rfl
/-- boxes in memory, as they may come in: of none it does not matter where they lie -/
def BRow (w : World) (v : Value) (l : List Po.Box) : Prop := (∃ p c, v = .slice p 0 c ∧ l = []) ∨ Row w v l.length 4 (boxesCells l)
theorem Row.b {w : World} {v : Value} {l : List Po.Box} (h : Row w v l.length 4 (boxesCells l)) : BRow w v l := .inr h
theorem BRow.ext {w w' : World} {v : Value} {l : List Po.Box} (h : BRow w v l) (hb : Below w.heap.size w w') : BRow w' v l := h.imp id (fun r => r.ext hb)
theorem BRow.shape {w : World} {v : Value} {l : List Po.Box} (h : BRow w v l) : ∃ p c, v = .slice p l.length c := by
  rcases h with ⟨p, c, rfl, rfl⟩ | h
  · exact ⟨p, c, rfl⟩
  · exact row_shape h
theorem BRow.one {w : World} {v : Value} {l : List Po.Box} (h : BRow w v l) : v.oneCell' = true := by
  obtain ⟨p, c, rfl⟩ := h.shape; rfl
theorem BRow.pos {w : World} {v : Value} {l : List Po.Box} (h : BRow w v l) (hl : 0 < l.length) : Row w v l.length 4 (boxesCells l) := by
  rcases h with ⟨_, _, _, rfl⟩ | h
  · simp at hl
  · exact h
theorem brow_of {w : World} {v : Value} {l : List Po.Box} (h : BRow w v l) : (∃ p c, v = .slice p 0 c ∧ l = []) ∨ ∃ g off cap, v = .slice (some ⟨g, off, none⟩) l.length cap ∧ SRow w g off cap 4 boxArr l := by
  rcases h with h | h
  · exact .inl h
  · rcases srow_of (f := boxArr) (fun _ _ => rfl) (show Row w v l.length 4 (l.flatMap fun x => (boxArr x).toList) from h) with ⟨rfl, rfl⟩ | h
    · exact .inl ⟨none, 0, rfl, rfl⟩
    · exact .inr h
theorem boxArr_one (x : Po.Box) : (boxArr x).all (·.oneCell') = true := by unfold boxArr; rw [← Array.all_toList]; rfl
theorem all_take {α : Type} {p : α → Bool} {l : List α} {i : Nat} (hi : i < l.length) (h : (l.take i).all p = true) (hp : p l[i] = true) : (l.take (i + 1)).all p = true := by
  rw [List.take_succ_eq_append_getElem hi, List.all_append, h]; simp [hp]
theorem all_no {α : Type} {p : α → Bool} {l : List α} {i : Nat} (hi : i < l.length) (hp : p l[i] = false) : l.all p = false := by
  rw [List.all_eq_false]; exact ⟨_, List.getElem_mem hi, by simp [hp]⟩
theorem any_take {α : Type} {p : α → Bool} {l : List α} {i : Nat} (hi : i < l.length) (h : (l.take i).any p = false) (hp : p l[i] = false) : (l.take (i + 1)).any p = false := by
  rw [List.take_succ_eq_append_getElem hi, List.any_append, h]; simp [hp]
theorem any_yes {α : Type} {p : α → Bool} {l : List α} {i : Nat} (hi : i < l.length) (hp : p l[i] = true) : l.any p = true := by
  rw [List.any_eq_true]; exact ⟨_, List.getElem_mem hi, hp⟩

end Go.Proofs.YtnoieobjfihbeaaDoor
