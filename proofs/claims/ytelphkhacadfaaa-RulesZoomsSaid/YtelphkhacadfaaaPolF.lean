/- The walks of the policy's reader: named, region, cloak, rule: each fills a declaration. -/
import Derived.Test.YtelphkhacadfaaaPolE
namespace Go.Proofs.Ytelphkhacadfaaa
open Go.RowKit Go.Sort

/-- only blocks b and d of what was there may have changed -/
structure Touch2 (b d : Nat) (w w' : World) : Prop where
  os : w'.os = w.os
  tape : w'.tape = w.tape
  output : w'.output = w.output
  size : w.heap.size ≤ w'.heap.size
  block : ∀ k, k < w.heap.size → k ≠ b → k ≠ d → w'.heap[k]? = w.heap[k]?
theorem Touch2.refl (b d : Nat) (w : World) : Touch2 b d w w := ⟨rfl, rfl, rfl, Nat.le_refl _, fun _ _ _ _ => rfl⟩
theorem Touch2.of {b d : Nat} {w w' : World} (h : Touch b w w') : Touch2 b d w w' := ⟨h.os, h.tape, h.output, h.size, fun k hk hb _ => h.block k hk hb⟩
theorem Touch2.trans {b d : Nat} {x y z : World} (h : Touch2 b d x y) (k : Touch2 b d y z) : Touch2 b d x z :=
  ⟨k.os.trans h.os, k.tape.trans h.tape, k.output.trans h.output, Nat.le_trans h.size k.size, fun i hi hn hm => (k.block i (Nat.lt_of_lt_of_le hi h.size) hn hm).trans (h.block i hi hn hm)⟩
theorem Touch2.touch {b d : Nat} {x y z : World} (h : Touch2 b d x y) (k : Touch b y z) : Touch2 b d x z := h.trans (.of k)
theorem Touch2.setD_iff {b d : Nat} {a w : World} (o : Nat) (u : Value) : Touch2 b d a (w.setCell ⟨d, o, none⟩ u) ↔ Touch2 b d a w :=
  ⟨fun h => ⟨h.os, h.tape, h.output, by simpa [World.setCell] using h.size, fun i hi hn hm => (Below.heap_setCell _ _ _ _ (show i ≠ (⟨d, o, none⟩ : Addr).block by simpa using hm)).symm.trans (h.block i hi hn hm)⟩,
   fun h => ⟨h.os, h.tape, h.output, by simpa [World.setCell] using h.size, fun i hi hn hm => (Below.heap_setCell _ _ _ _ (show i ≠ (⟨d, o, none⟩ : Addr).block by simpa using hm)).trans (h.block i hi hn hm)⟩⟩
/-- where d is of the call's own -/
theorem Touch2.own {b d : Nat} {x y : World} (h : Touch2 b d x y) (hd : x.heap.size ≤ d) : Touch b x y := ⟨h.os, h.tape, h.output, h.size, fun k hk hn => h.block k hk hn (by omega)⟩

theorem Row.shape {w : World} {v : Value} {n size : Nat} {xs : List Value} (h : Row w v n size xs) : ∃ p l c, v = .slice p l c := by
  rcases h.2 with ⟨rfl, _⟩ | ⟨g, off, cap, rfl, _⟩
  · exact ⟨_, _, _, rfl⟩
  · exact ⟨_, _, _, rfl⟩
/-- block d is none of the reader's -/
structure Free (b d : Nat) (pa : Option Addr) (T : List Lx.Tok) : Prop where
  ne : b ≠ d
  row : T = [] ∨ ∀ g off, pa = some ⟨g, off, none⟩ → g ≠ d
theorem PRd.setD {w : World} {b d : Nat} {pa : Option Addr} {cp : Nat} {T : List Lx.Tok} {e : Nat × Nat} {st : Po.St} (hf : Free b d pa T) (h : PRd w b pa cp T e st) {w' : World} (ht : Touch d w w') : PRd w' b pa cp T e st := by
  refine ⟨h.blk.touch ht hf.ne, ?_, h.le, h.small⟩
  rcases hf.row with h1 | h1
  · exact .inl h1
  · rcases h.row with h2 | ⟨g, off, hp, hr, hn⟩
    · exact .inl h2
    · exact .inr ⟨g, off, hp, hr.touch ht (h1 g off hp), hn⟩
theorem PRd.setD_iff {w : World} {b d : Nat} {pa : Option Addr} {cp : Nat} {T : List Lx.Tok} {e : Nat × Nat} {st : Po.St} (hf : Free b d pa T) (o : Nat) (u : Value) : PRd (w.setCell ⟨d, o, none⟩ u) b pa cp T e st ↔ PRd w b pa cp T e st := by
  have ht : Touch d w (w.setCell ⟨d, o, none⟩ u) := (Touch.refl d w).setCell o u
  exact ⟨fun h => PRd.setD hf h ⟨ht.os.symm, ht.tape.symm, ht.output.symm, by simp [World.setCell], fun i hi hn => (ht.block i (by simpa [World.setCell] using hi) hn).symm⟩, fun h => PRd.setD hf h ht⟩

def declCells (D : Po.Decl) (bv : Value) : Array Value :=
  #[.int .i64 D.kind, .string D.name, .int .i64 D.n, bv, .bool D.role.any, .string D.role.name, .int .i64 D.role.n, .int .i64 D.role.line, .int .i64 D.role.col, .int .i64 D.lo, .int .i64 D.hi,
    .bool D.label.any, .string D.label.name, .int .i64 D.label.n, .int .i64 D.label.line, .int .i64 D.label.col, .bool D.place.any, .string D.place.name, .int .i64 D.place.n, .int .i64 D.place.line, .int .i64 D.place.col,
    .int .i64 D.zoom, .int .i64 D.line, .int .i64 D.col]
def DBlk (w : World) (d : Nat) (D : Po.Decl) (bv : Value) : Prop := Blk w d (declCells D bv) 60

set_option maxRecDepth 100000 in
set_option maxHeartbeats 4000000 in
theorem pnamed_any {w : World} {b d : Nat} {pa : Option Addr} {cp : Nat} {T : List Lx.Tok} {e : Nat × Nat} {st : Po.St} {D : Po.Decl} {bv : Value} (h : PRd w b pa cp T e st) (hf : Free b d pa T) (hd : DBlk w d D bv) :
    Calls Try.prog 83 #[.pointer (some ⟨b, 0, none⟩), .pointer (some ⟨d, 0, none⟩)] w fun en w' => en = .returned (.tuple #[]) ∧ PRd w' b pa cp T e (Po.namedS T e st) ∧ DBlk w' d (Po.namedV T e D st) bv ∧ Touch2 b d w w' := by
  have h' := hid h
  have hf' := hid hf
  have hd' := hid hd
  have hdb : d ≠ b := hf.ne.symm
  clear h hf hd
  go_enter Try.func83, Try.ntmps83
  go_wp2_with fail
  refine (pname_any h'.out).mono ?_
  rintro en w1 ⟨rfl, h1, t1⟩
  have h1' := hid h1
  have q1 := hid (Touch2.of (d := d) t1)
  have d1 := hid (Blk.touch hd'.out t1 hdb)
  clear h1 t1
  have y1 := d1.out.cell 1 (v := .string D.name) rfl
  have yf := d1.out.free
  have yz := d1.out.lt
  have h2 := hid ((PRd.setD_iff hf'.out 1 (.string (Po.txt (Po.takeTok T 1 st).text))).2 h1'.out)
  have q2 := hid ((Touch2.setD_iff 1 (.string (Po.txt (Po.takeTok T 1 st).text))).2 q1.out)
  have d2 := hid (d1.out.set 1 (.string (Po.txt (Po.takeTok T 1 st).text)))
  go_wp2_with fail
  clear y1 yf yz
  refine (pwant_any h2.out _).mono ?_
  rintro en w3 ⟨rfl, h3, t3⟩
  have h3' := hid h3
  have q3 := hid (q2.out.touch t3)
  have d3 := hid (Blk.touch d2.out t3 hdb)
  clear h3 t3
  go_wp2_with fail
  refine (pnumber_any h3'.out).mono ?_
  rintro en w4 ⟨rfl, h4, t4⟩
  have h4' := hid h4
  have q4 := hid (q3.out.touch t4)
  have d4 := hid (Blk.touch d3.out t4 hdb)
  clear h4 t4
  have y1 := d4.out.cell 2 (v := .int .i64 D.n) rfl
  have yf := d4.out.free
  have yz := d4.out.lt
  go_wp2_with fail
  go_end0
  exact ⟨rfl, (PRd.setD_iff hf'.out _ _).2 h4'.out, d4.out.set 2 _, (Touch2.setD_iff _ _).2 q4.out⟩

set_option maxRecDepth 100000 in
set_option maxHeartbeats 4000000 in
theorem pregion_any {w : World} {b d : Nat} {pa : Option Addr} {cp : Nat} {T : List Lx.Tok} {e : Nat × Nat} {st : Po.St} {D : Po.Decl} {bv : Value} (h : PRd w b pa cp T e st) (hf : Free b d pa T) (hd : DBlk w d D bv) :
    Calls Try.prog 84 #[.pointer (some ⟨b, 0, none⟩), .pointer (some ⟨d, 0, none⟩)] w fun en w' => en = .returned (.tuple #[]) ∧ ∃ v, PRd w' b pa cp T e (Po.regionS T e st) ∧ DBlk w' d (Po.regionV T e D st) v ∧
      Row w' v (Po.regionV T e D st).boxes.length 4 (boxesCells (Po.regionV T e D st).boxes) ∧ (∀ k, v.ownBlock = some k → w.heap.size ≤ k) ∧ Touch2 b d w w' := by
  have h' := hid h
  have hf' := hid hf
  have hd' := hid hd
  have hdb : d ≠ b := hf.ne.symm
  have hdlt : d < w.heap.size := Blk.lt hd
  clear h hf hd
  go_enter Try.func84, Try.ntmps84
  go_wp2_with fail
  refine (pname_any h'.out).mono ?_
  rintro en w1 ⟨rfl, h1, t1⟩
  have h1' := hid h1
  have q1 := hid (Touch2.of (d := d) t1)
  have d1 := hid (Blk.touch hd'.out t1 hdb)
  clear h1 t1
  have y1 := d1.out.cell 1 (v := .string D.name) rfl
  have yf := d1.out.free
  have yz := d1.out.lt
  have h2 := hid ((PRd.setD_iff hf'.out 1 (.string (Po.txt (Po.takeTok T 1 st).text))).2 h1'.out)
  have q2 := hid ((Touch2.setD_iff 1 (.string (Po.txt (Po.takeTok T 1 st).text))).2 q1.out)
  have d2 := hid (d1.out.set 1 (.string (Po.txt (Po.takeTok T 1 st).text)))
  go_wp2_with fail
  clear y1 yf yz
  refine (pwant_any h2.out _).mono ?_
  rintro en w3 ⟨rfl, h3, t3⟩
  have h3' := hid h3
  have q3 := hid (q2.out.touch t3)
  have d3 := hid (Blk.touch d2.out t3 hdb)
  clear h3 t3
  go_wp2_with fail
  refine (pboxes_any h3'.out).mono ?_
  rintro en w4 ⟨v, rfl, hrow, hown, h4, t4⟩
  obtain ⟨vp, vl, vc, rfl⟩ := Row.shape hrow
  have h4' := hid h4
  have q4 := hid (q3.out.touch t4)
  have d4 := hid (Blk.touch d3.out t4 hdb)
  have hrow' := hid hrow
  have hown' := hid hown
  have hs3 := q3.out.size
  clear h4 t4 hrow hown
  have y1 := d4.out.cell 3 (v := bv) rfl
  have yf := d4.out.free
  have yz := d4.out.lt
  go_wp2_with fail
  go_end0
  exact ⟨rfl, _, (PRd.setD_iff hf'.out _ _).2 h4'.out, d4.out.set 3 _, hrow'.out.touch ((Touch.refl d w4).setCell _ _) (fun e => by have := hown'.out _ e; omega), fun k hk => Nat.le_trans hs3 (hown'.out k hk), (Touch2.setD_iff _ _).2 q4.out⟩

set_option maxRecDepth 100000 in
set_option maxHeartbeats 4000000 in
theorem pcloak_any {w : World} {b d : Nat} {pa : Option Addr} {cp : Nat} {T : List Lx.Tok} {e : Nat × Nat} {st : Po.St} {D : Po.Decl} {bv : Value} (h : PRd w b pa cp T e st) (hf : Free b d pa T) (hd : DBlk w d D bv) :
    Calls Try.prog 85 #[.pointer (some ⟨b, 0, none⟩), .pointer (some ⟨d, 0, none⟩)] w fun en w' => en = .returned (.tuple #[]) ∧ PRd w' b pa cp T e (Po.cloakS T e st) ∧ DBlk w' d (Po.cloakV T e D st) bv ∧ Touch2 b d w w' := by
  have h' := hid h
  have hf' := hid hf
  have hd' := hid hd
  have hdb : d ≠ b := hf.ne.symm
  clear h hf hd
  go_enter Try.func85, Try.ntmps85
  go_wp2_with fail
  refine (pwant_any h'.out _).mono ?_
  rintro en w1 ⟨rfl, h1, t1⟩
  have h1' := hid h1
  have q1 := hid (Touch2.of (d := d) t1)
  have d1 := hid (Blk.touch hd'.out t1 hdb)
  clear h1 t1
  go_wp2_with fail
  refine (pwho_any h1'.out).mono ?_
  rintro en w2 ⟨rfl, h2, t2⟩
  have h2' := hid h2
  have q2 := hid (q1.out.touch t2)
  have d2 := hid (Blk.touch d1.out t2 hdb)
  clear h2 t2
  have y0 := d2.out.cell 4 (v := .bool D.role.any) rfl
  have y1 := d2.out.cell 5 (v := .string D.role.name) rfl
  have y2 := d2.out.cell 6 (v := .int .i64 D.role.n) rfl
  have y3 := d2.out.cell 7 (v := .int .i64 D.role.line) rfl
  have y4 := d2.out.cell 8 (v := .int .i64 D.role.col) rfl
  have yf := d2.out.free
  have yz := d2.out.lt
  unfold pwhoV
  go_wp2_with fail
  go_end0
  exact ⟨rfl, (by simp only [PRd.setD_iff hf'.out]; exact h2'.out), ((((d2.out.set 4 _).set 5 _).set 6 _).set 7 _).set 8 _, (by simp only [Touch2.setD_iff]; exact q2.out)⟩

set_option maxRecDepth 100000 in
set_option maxHeartbeats 8000000 in
theorem prule_any {w : World} {b d : Nat} {pa : Option Addr} {cp : Nat} {T : List Lx.Tok} {e : Nat × Nat} {st : Po.St} {D : Po.Decl} {bv : Value} (h : PRd w b pa cp T e st) (hf : Free b d pa T) (hd : DBlk w d D bv) :
    Calls Try.prog 81 #[.pointer (some ⟨b, 0, none⟩), .pointer (some ⟨d, 0, none⟩)] w fun en w' => en = .returned (.tuple #[]) ∧ PRd w' b pa cp T e (Po.ruleS T e st) ∧ DBlk w' d (Po.ruleV T e D st) bv ∧ Touch2 b d w w' := by
  have h' := hid h
  have hf' := hid hf
  have hd' := hid hd
  have hdb : d ≠ b := hf.ne.symm
  clear h hf hd
  have es := hid (show Po.ruleS T e st = Po.takeSt T e 3 (Po.rs4 T e st) from rfl)
  have ed := hid (show Po.ruleV T e D st = { D with role := Po.whoV T e (Po.want T e Po.wRole st), lo := Po.loV T (Po.rs1 T e st), hi := Po.hiV T e (Po.rs1 T e st), label := Po.whoV T e (Po.rs2 T e st), place := Po.whereV T e (Po.rs3 T e st), zoom := (Po.takeTok T 3 (Po.rs4 T e st)).n } from rfl)
  have ec := hid (show Po.cloakV T e D st = { D with role := Po.whoV T e (Po.want T e Po.wRole st) } from rfl)
  have e1 := hid (show Po.want T e Po.wTier (Po.cloakS T e st) = Po.rs1 T e st from rfl)
  have e2 := hid (show Po.want T e Po.wLabel (Po.tiersS T e (Po.rs1 T e st)) = Po.rs2 T e st from rfl)
  have e3 := hid (show Po.want T e Po.wIn (Po.whoS T e (Po.rs2 T e st)) = Po.rs3 T e st from rfl)
  have e4 := hid (show Po.want T e Po.wZoom (Po.whereS T e (Po.rs3 T e st)) = Po.rs4 T e st from rfl)
  go_enter Try.func81, Try.ntmps81
  go_wp2_with fail
  refine (pcloak_any h'.out hf'.out hd'.out).mono ?_
  rintro en w1 ⟨rfl, h1, d1, q1⟩
  have h1' := hid h1
  have d1' := hid d1
  have q1' := hid q1
  rw [ec.out] at d1'
  clear h1 d1 q1 ec
  go_wp2_with fail
  refine (pwant_any h1'.out _).mono ?_
  rintro en w2 ⟨rfl, h2, t2⟩
  have h2' := hid (e1.out ▸ (show PRd w2 b pa cp T e _ from h2))
  have q2' := hid (q1'.out.touch t2)
  have d2' := hid (Blk.touch d1'.out t2 hdb)
  clear h2 t2
  go_wp2_with fail
  refine (ptiers_any h2'.out).mono ?_
  rintro en w3 ⟨rfl, h3, t3⟩
  have h3' := hid h3
  have q3' := hid (q2'.out.touch t3)
  have d3' := hid (Blk.touch d2'.out t3 hdb)
  clear h3 t3
  have y9 := Blk.cell d3'.out 9 (v := .int .i64 D.lo) rfl
  have y10 := Blk.cell d3'.out 10 (v := .int .i64 D.hi) rfl
  have yf := Blk.free d3'.out
  have yz := Blk.lt d3'.out
  have h30' := hid (show PRd (((w3).setCell ⟨d, 9, none⟩ (.int .i64 (Po.loV T (Po.rs1 T e st)))).setCell ⟨d, 10, none⟩ (.int .i64 (Po.hiV T e (Po.rs1 T e st)))) b pa cp T e _ from (by simp only [PRd.setD_iff hf'.out]; exact h3'.out))
  have q30' := hid (show Touch2 b d w (((w3).setCell ⟨d, 9, none⟩ (.int .i64 (Po.loV T (Po.rs1 T e st)))).setCell ⟨d, 10, none⟩ (.int .i64 (Po.hiV T e (Po.rs1 T e st)))) from (by simp only [Touch2.setD_iff]; exact q3'.out))
  have d30' := hid (show DBlk (((w3).setCell ⟨d, 9, none⟩ (.int .i64 (Po.loV T (Po.rs1 T e st)))).setCell ⟨d, 10, none⟩ (.int .i64 (Po.hiV T e (Po.rs1 T e st)))) d ({ D with role := Po.whoV T e (Po.want T e Po.wRole st), lo := Po.loV T (Po.rs1 T e st), hi := Po.hiV T e (Po.rs1 T e st) }) bv from (Blk.set ((Blk.set (d3'.out) 9 (.int .i64 (Po.loV T (Po.rs1 T e st))))) 10 (.int .i64 (Po.hiV T e (Po.rs1 T e st)))))
  clear h3' q3' d3'
  go_wp2_with fail
  clear y9 y10 yf yz
  refine (pwant_any h30'.out _).mono ?_
  rintro en w4 ⟨rfl, h4, t4⟩
  have h4' := hid (e2.out ▸ (show PRd w4 b pa cp T e _ from h4))
  have q4' := hid (q30'.out.touch t4)
  have d4' := hid (Blk.touch d30'.out t4 hdb)
  clear h4 t4
  go_wp2_with fail
  refine (pwho_any h4'.out).mono ?_
  rintro en w5 ⟨rfl, h5, t5⟩
  have h5' := hid h5
  have q5' := hid (q4'.out.touch t5)
  have d5' := hid (Blk.touch d4'.out t5 hdb)
  clear h5 t5
  have y11 := Blk.cell d5'.out 11 (v := .bool D.label.any) rfl
  have y12 := Blk.cell d5'.out 12 (v := .string D.label.name) rfl
  have y13 := Blk.cell d5'.out 13 (v := .int .i64 D.label.n) rfl
  have y14 := Blk.cell d5'.out 14 (v := .int .i64 D.label.line) rfl
  have y15 := Blk.cell d5'.out 15 (v := .int .i64 D.label.col) rfl
  have yf := Blk.free d5'.out
  have yz := Blk.lt d5'.out
  have h50' := hid (show PRd ((((((w5).setCell ⟨d, 11, none⟩ (.bool (Po.whoV T e (Po.rs2 T e st)).any)).setCell ⟨d, 12, none⟩ (.string (Po.whoV T e (Po.rs2 T e st)).name)).setCell ⟨d, 13, none⟩ (.int .i64 (Po.whoV T e (Po.rs2 T e st)).n)).setCell ⟨d, 14, none⟩ (.int .i64 (Po.whoV T e (Po.rs2 T e st)).line)).setCell ⟨d, 15, none⟩ (.int .i64 (Po.whoV T e (Po.rs2 T e st)).col)) b pa cp T e _ from (by simp only [PRd.setD_iff hf'.out]; exact h5'.out))
  have q50' := hid (show Touch2 b d w ((((((w5).setCell ⟨d, 11, none⟩ (.bool (Po.whoV T e (Po.rs2 T e st)).any)).setCell ⟨d, 12, none⟩ (.string (Po.whoV T e (Po.rs2 T e st)).name)).setCell ⟨d, 13, none⟩ (.int .i64 (Po.whoV T e (Po.rs2 T e st)).n)).setCell ⟨d, 14, none⟩ (.int .i64 (Po.whoV T e (Po.rs2 T e st)).line)).setCell ⟨d, 15, none⟩ (.int .i64 (Po.whoV T e (Po.rs2 T e st)).col)) from (by simp only [Touch2.setD_iff]; exact q5'.out))
  have d50' := hid (show DBlk ((((((w5).setCell ⟨d, 11, none⟩ (.bool (Po.whoV T e (Po.rs2 T e st)).any)).setCell ⟨d, 12, none⟩ (.string (Po.whoV T e (Po.rs2 T e st)).name)).setCell ⟨d, 13, none⟩ (.int .i64 (Po.whoV T e (Po.rs2 T e st)).n)).setCell ⟨d, 14, none⟩ (.int .i64 (Po.whoV T e (Po.rs2 T e st)).line)).setCell ⟨d, 15, none⟩ (.int .i64 (Po.whoV T e (Po.rs2 T e st)).col)) d ({ D with role := Po.whoV T e (Po.want T e Po.wRole st), lo := Po.loV T (Po.rs1 T e st), hi := Po.hiV T e (Po.rs1 T e st), label := Po.whoV T e (Po.rs2 T e st) }) bv from (Blk.set ((Blk.set ((Blk.set ((Blk.set ((Blk.set (d5'.out) 11 (.bool (Po.whoV T e (Po.rs2 T e st)).any))) 12 (.string (Po.whoV T e (Po.rs2 T e st)).name))) 13 (.int .i64 (Po.whoV T e (Po.rs2 T e st)).n))) 14 (.int .i64 (Po.whoV T e (Po.rs2 T e st)).line))) 15 (.int .i64 (Po.whoV T e (Po.rs2 T e st)).col)))
  clear h5' q5' d5'
  unfold pwhoV
  go_wp2_with fail
  clear y11 y12 y13 y14 y15 yf yz
  refine (pwant_any h50'.out _).mono ?_
  rintro en w6 ⟨rfl, h6, t6⟩
  have h6' := hid (e3.out ▸ (show PRd w6 b pa cp T e _ from h6))
  have q6' := hid (q50'.out.touch t6)
  have d6' := hid (Blk.touch d50'.out t6 hdb)
  clear h6 t6
  go_wp2_with fail
  refine (pwhere_any h6'.out).mono ?_
  rintro en w7 ⟨rfl, h7, t7⟩
  have h7' := hid h7
  have q7' := hid (q6'.out.touch t7)
  have d7' := hid (Blk.touch d6'.out t7 hdb)
  clear h7 t7
  have y16 := Blk.cell d7'.out 16 (v := .bool D.place.any) rfl
  have y17 := Blk.cell d7'.out 17 (v := .string D.place.name) rfl
  have y18 := Blk.cell d7'.out 18 (v := .int .i64 D.place.n) rfl
  have y19 := Blk.cell d7'.out 19 (v := .int .i64 D.place.line) rfl
  have y20 := Blk.cell d7'.out 20 (v := .int .i64 D.place.col) rfl
  have yf := Blk.free d7'.out
  have yz := Blk.lt d7'.out
  have h70' := hid (show PRd ((((((w7).setCell ⟨d, 16, none⟩ (.bool (Po.whereV T e (Po.rs3 T e st)).any)).setCell ⟨d, 17, none⟩ (.string (Po.whereV T e (Po.rs3 T e st)).name)).setCell ⟨d, 18, none⟩ (.int .i64 (Po.whereV T e (Po.rs3 T e st)).n)).setCell ⟨d, 19, none⟩ (.int .i64 (Po.whereV T e (Po.rs3 T e st)).line)).setCell ⟨d, 20, none⟩ (.int .i64 (Po.whereV T e (Po.rs3 T e st)).col)) b pa cp T e _ from (by simp only [PRd.setD_iff hf'.out]; exact h7'.out))
  have q70' := hid (show Touch2 b d w ((((((w7).setCell ⟨d, 16, none⟩ (.bool (Po.whereV T e (Po.rs3 T e st)).any)).setCell ⟨d, 17, none⟩ (.string (Po.whereV T e (Po.rs3 T e st)).name)).setCell ⟨d, 18, none⟩ (.int .i64 (Po.whereV T e (Po.rs3 T e st)).n)).setCell ⟨d, 19, none⟩ (.int .i64 (Po.whereV T e (Po.rs3 T e st)).line)).setCell ⟨d, 20, none⟩ (.int .i64 (Po.whereV T e (Po.rs3 T e st)).col)) from (by simp only [Touch2.setD_iff]; exact q7'.out))
  have d70' := hid (show DBlk ((((((w7).setCell ⟨d, 16, none⟩ (.bool (Po.whereV T e (Po.rs3 T e st)).any)).setCell ⟨d, 17, none⟩ (.string (Po.whereV T e (Po.rs3 T e st)).name)).setCell ⟨d, 18, none⟩ (.int .i64 (Po.whereV T e (Po.rs3 T e st)).n)).setCell ⟨d, 19, none⟩ (.int .i64 (Po.whereV T e (Po.rs3 T e st)).line)).setCell ⟨d, 20, none⟩ (.int .i64 (Po.whereV T e (Po.rs3 T e st)).col)) d ({ D with role := Po.whoV T e (Po.want T e Po.wRole st), lo := Po.loV T (Po.rs1 T e st), hi := Po.hiV T e (Po.rs1 T e st), label := Po.whoV T e (Po.rs2 T e st), place := Po.whereV T e (Po.rs3 T e st) }) bv from (Blk.set ((Blk.set ((Blk.set ((Blk.set ((Blk.set (d7'.out) 16 (.bool (Po.whereV T e (Po.rs3 T e st)).any))) 17 (.string (Po.whereV T e (Po.rs3 T e st)).name))) 18 (.int .i64 (Po.whereV T e (Po.rs3 T e st)).n))) 19 (.int .i64 (Po.whereV T e (Po.rs3 T e st)).line))) 20 (.int .i64 (Po.whereV T e (Po.rs3 T e st)).col)))
  clear h7' q7' d7'
  unfold pwhoV
  go_wp2_with fail
  clear y16 y17 y18 y19 y20 yf yz
  refine (pwant_any h70'.out _).mono ?_
  rintro en w8 ⟨rfl, h8, t8⟩
  have h8' := hid (e4.out ▸ (show PRd w8 b pa cp T e _ from h8))
  have q8' := hid (q70'.out.touch t8)
  have d8' := hid (Blk.touch d70'.out t8 hdb)
  clear h8 t8
  go_wp2_with fail
  refine (pnumber_any h8'.out).mono ?_
  rintro en w9 ⟨rfl, h9, t9⟩
  have h9' := hid h9
  have q9' := hid (q8'.out.touch t9)
  have d9' := hid (Blk.touch d8'.out t9 hdb)
  clear h9 t9
  have y21 := Blk.cell d9'.out 21 (v := .int .i64 D.zoom) rfl
  have yf := Blk.free d9'.out
  have yz := Blk.lt d9'.out
  have h90' := hid (show PRd ((w9).setCell ⟨d, 21, none⟩ (.int .i64 (Po.takeTok T 3 (Po.rs4 T e st)).n)) b pa cp T e _ from (by simp only [PRd.setD_iff hf'.out]; exact h9'.out))
  have q90' := hid (show Touch2 b d w ((w9).setCell ⟨d, 21, none⟩ (.int .i64 (Po.takeTok T 3 (Po.rs4 T e st)).n)) from (by simp only [Touch2.setD_iff]; exact q9'.out))
  have d90' := hid (show DBlk ((w9).setCell ⟨d, 21, none⟩ (.int .i64 (Po.takeTok T 3 (Po.rs4 T e st)).n)) d ({ D with role := Po.whoV T e (Po.want T e Po.wRole st), lo := Po.loV T (Po.rs1 T e st), hi := Po.hiV T e (Po.rs1 T e st), label := Po.whoV T e (Po.rs2 T e st), place := Po.whereV T e (Po.rs3 T e st), zoom := (Po.takeTok T 3 (Po.rs4 T e st)).n }) bv from (Blk.set (d9'.out) 21 (.int .i64 (Po.takeTok T 3 (Po.rs4 T e st)).n)))
  clear h9' q9' d9'
  go_wp2_with fail
  go_end0
  exact ⟨rfl, h90'.out, d90'.out, q90'.out⟩

end Go.Proofs.Ytelphkhacadfaaa
