/-
  Rows of boxes that are copied: small laws.
  The walk of the checker's where.
  What was declared, with one declaration more.
  The walk of the document's own SameRects: rows that are alike.
  The walks of the document's own SameRects (rows that are alike), declared, sum.
  The document's own sums: Two.
  The walk of the document's own sum.
  The walk of the checker's number.
-/
import Derived.Test.YtelphkhacadfaaaGreatPk06
import Derived.Test.YtelphkhacadfaaaGreatPk12
import Derived.StillTailTactics

namespace Go.Proofs.YtelphkhacadfaaaGreat
open Go.RowKit Go.Sort

theorem Touch.of_grown {w w' : World} {b : Nat} (h : w.grownBy w' (some b)) : Touch b w w' := ⟨h.os, h.tape, h.output, h.size, fun k hk hn => h.block k hk (by simpa using hn)⟩
theorem below_of_grown {w w' : World} (h : w.grownBy w' none) : Below w.heap.size w w' := ⟨h.os, h.tape, h.output, h.size, fun i hi => h.block i hi (by simp)⟩
theorem boxesCells_one (l : List Po.Box) : ∀ u ∈ boxesCells l, u.oneCell' = true := by
  intro u hu
  obtain ⟨b, _, hb⟩ := List.mem_flatMap.1 hu
  exact boxCells_one b u hb
theorem boxesCells_len (l : List Po.Box) : (boxesCells l).length = l.length * 4 := by
  induction l with
  | nil => rfl
  | cons b l ih =>
    have e : boxesCells (b :: l) = boxCells b ++ boxesCells l := rfl
    rw [e, List.length_append, ih, List.length_cons]
    show 4 + l.length * 4 = _
    omega
theorem addr_add (g off j : Nat) : (⟨g, off, none⟩ : Addr).add j = ⟨g, off + j, none⟩ := by unfold Addr.add; split <;> simp_all
/-- the cells of a row that lies in memory -/
theorem Row.news {w : World} {g off n cap size : Nat} {xs : List Value} (h : Row w (.slice (some ⟨g, off, none⟩) n cap) n size xs) : ∀ j u, xs[j]? = some u → w.cell? ((⟨g, off, none⟩ : Addr).add j) = some u := by
  rcases h.2 with ⟨hv, _⟩ | ⟨g', off', cap', hv, _, _, hc⟩
  · cases hv
  · cases hv
    intro j u hj
    rw [addr_add]
    exact hc j u hj
end Go.Proofs.YtelphkhacadfaaaGreat

namespace Go.Proofs.YtelphkhacadfaaaGreat
open Go.RowKit Go.Sort Go.Maps

/-- a region looked up -/
def lookRv (ahead : List Po.Decl) (rg : ByteArray → Value) (s : ByteArray) : Value := match Ru.declared ahead 3 s with | some _ => rg s | none => .slice none 0 0
theorem Inner.lookR {w : World} {bo b1 b2 br c : Nat} {ahead : List Po.Decl} {rules : List Ru.Rule} {rv : Value} {vs : List Value} {rg : ByteArray → Value} (h : Inner w bo b1 b2 br c ahead rules rv vs rg) {s : ByteArray} (hs : s.size ≤ 140737488355328) :
    ∀ n, Sem.run Tryz.prog (Instr.lookup 75 (.map (some br)) (.string s) true) (w.drewN n) = .ok (.tuple #[lookRv ahead rg s, .bool (Ru.declared ahead 3 s).isSome]) (w.drewN n) := by
  intro n
  have := (h.regs.drewN n).look lawS Tryz.underlying75 (zeroRects _) (keyS hs) trivial
  rw [this]
  unfold regF lookRv
  simp only [byt]
  cases Ru.declared ahead 3 s <;> simp

/-- what 'where' leaves -/
def WherePost (w : World) (bo b1 b2 br c : Nat) (ahead : List Po.Decl) (k : Ru.Ck) (rv : Value) (x : Po.Who) (en : Ending) (w' : World) : Prop :=
  ∃ v, en = .returned v ∧ Row w' v (Ru.whereB ahead x).length 4 (boxesCells (Ru.whereB ahead x)) ∧ (Ru.whereB ahead x).length * 32 ≤ 140737488355328 ∧ (∀ b, v.ownBlock = some b → w.heap.size ≤ b) ∧
    Chk w' bo b1 b2 br c ahead (k.wrongIf (Ru.whereE ahead x) x.line x.col) rv ∧ Touch c w w'

set_option maxHeartbeats 2000000 in
theorem cwhere_any {w : World} {bo b1 b2 br c : Nat} {ahead : List Po.Decl} {k : Ru.Ck} {rv : Value} (h : Chk w bo b1 b2 br c ahead k rv) (x : Po.Who) (hs : x.name.size ≤ 140737488355328) :
    Calls Tryz.prog 104 #[.pointer (some ⟨c, 0, none⟩), .agg (whoArr x)] w (WherePost w bo b1 b2 br c ahead k rv x) := by
  obtain ⟨i0, hinf, hz0, hz1, hz2⟩ := info_parts Tryz.infoRect
  have hz := balloc w (.cells (whoArr x) 37)
  have h1 := hid (h.ext hz)
  have t1 := hid (Touch.of_below (b := c) hz)
  have B0 := hid (Blk.new w (whoArr x) 37)
  have hc := h.blk.lt
  have hne : w.heap.size ≠ c := by omega
  have hwb : Hid (Ru.whereB ahead x = _) := hid rfl
  have hwe : Hid (Ru.whereE ahead x = _) := hid rfl
  cases ha : x.any with
  | true =>
    have eB := hid (show Ru.whereB ahead x = [Ru.grid] by unfold Ru.whereB; rw [ha]; rfl)
    have eE := hid (show Ru.whereE ahead x = 0 by unfold Ru.whereE; rw [ha]; rfl)
    obtain ⟨any, name, n, line, col⟩ := x
    simp only at ha
    subst ha
    unfold whoArr at *
    simp only at h1 t1 B0 ⊢
    clear hz hwb hwe
    go_enter Tryz.func104, Tryz.ntmps104
    go_wp2_with fail
    refine (grid_any _).mono ?_
    rintro en w2 ⟨rfl, hb2⟩
    have h2 := hid (h1.out.ext hb2)
    have t2 := hid (t1.out.below hb2)
    have hz2' := balloc w2 (.cells (boxCells Ru.grid).toArray 63)
    have h3 := hid (h2.out.ext hz2')
    have t3 := hid (t2.out.below hz2')
    have hsz2 := t2.out.size
    have o3 := hid (World.ownsRow_lit (base := w.heap.size) (size := 4) (e := 63) w2 (boxCells Ru.grid).toArray 1 hsz2 (by decide) rfl)
    clear hb2 hz2'
    unfold pboxV
    go_wp2_with fail
    go_ret
    refine ⟨_, rfl, ?_, ?_, fun b hb => (o3.out.lt b hb).1, ?_, t3.out⟩
    · rw [eB.out, show boxesCells [Ru.grid] = boxCells Ru.grid from by simp [boxesCells]]
      exact Row.of_owns o3.out
    · rw [eB.out]; decide
    · rw [eE.out, Ru.wrongIf_zero]; exact h3.out
  | false =>
    obtain ⟨vs, rg, hi⟩ := (h.ext hz).inn
    have l2 := hi.lookR hs
    have hrows := hi.rows x.name
    clear hi hz
    obtain ⟨c0, c1, c2, c3, c4, c5, c6, hf, hlt⟩ := h.f
    have hne' : c ≠ w.heap.size := by omega
    cases hd : Ru.declared ahead 3 x.name with
    | none =>
      have eB := hid (show Ru.whereB ahead x = [] by unfold Ru.whereB; rw [ha, hd]; rfl)
      have eE := hid (show Ru.whereE ahead x = 21 by unfold Ru.whereE; rw [ha, hd]; rfl)
      have hl0 : lookRv ahead rg x.name = .slice none 0 0 := by unfold lookRv; rw [hd]
      rw [hl0, hd] at l2
      obtain ⟨any, name, n, line, col⟩ := x
      simp only at ha l2
      subst ha
      unfold whoArr at *
      simp only at h1 t1 B0 l2 ⊢
      simp only [Option.isSome_none] at l2
      clear hwb hwe hrows hl0 hd
      go_enter Tryz.func104, Tryz.ntmps104
      go_wp2_with fail
      go_quiet (fail)
      clear l2 c0 c1 c2 c3 c4 c5 c6 hf
      have h2 := hid (h1.out.drewN nq)
      have t2 := hid (t1.out.drewN nq)
      have B2 := hid (B0.out.drewN nq)
      go_wp2_with fail
      refine (cwrong_any h2.out _ _ _).mono ?_
      rintro en w3 ⟨rfl, h3, t3⟩
      have h3' := hid h3
      have t3' := hid (t2.out.trans t3)
      clear h3 t3
      go_wp2_with fail
      go_ret
      refine ⟨_, rfl, ?_, ?_, fun b hb => by simp [Value.ownBlock] at hb, ?_, t3'.out⟩
      · rw [eB.out]; exact Row.nil _ 4
      · rw [eB.out]; decide
      · rw [eE.out]; unfold Ru.Ck.wrongIf; rw [if_neg (by decide)]; exact h3'.out
    | some d =>
      have eB := hid (show Ru.whereB ahead x = d.boxes by unfold Ru.whereB; rw [ha, hd]; rfl)
      have eE := hid (show Ru.whereE ahead x = 0 by unfold Ru.whereE; rw [ha, hd]; rfl)
      obtain ⟨r1, r2, r3⟩ := hrows d hd
      have hl0 : lookRv ahead rg x.name = rg x.name := by unfold lookRv; rw [hd]
      rw [hl0, hd] at l2
      have r1' := hid r1
      have r2' := hid r2
      have hlen : (boxesCells d.boxes).length = d.boxes.length * 4 := boxesCells_len d.boxes
      generalize rg x.name = rv1 at *
      clear hrows r3 hl0 hd hwb hwe
      rcases r1.2 with ⟨hv, hn0⟩ | ⟨g, off, cap, hv, hcap, hg, hcc⟩
      · have hb0 : d.boxes = [] := List.eq_nil_of_length_eq_zero hn0
        rw [hb0] at eB
        clear hn0 hb0 hlen
        subst hv
        clear r1
        obtain ⟨any, name, n, line, col⟩ := x
        simp only at ha l2
        subst ha
        unfold whoArr at *
        simp only at h1 t1 B0 l2 ⊢
        simp only [Option.isSome_some] at l2
        go_enter Tryz.func104, Tryz.ntmps104
        go_wp2_with fail
        go_quiet (fail)
        clear l2 c0 c1 c2 c3 c4 c5 c6 hf
        have h2 := hid (h1.out.drewN nq)
        have t2 := hid (t1.out.drewN nq)
        go_wp2_with fail
        go_ret
        refine ⟨_, rfl, ?_, ?_, fun b hb => by simp [Value.ownBlock] at hb, ?_, t2.out⟩
        · rw [eB.out]; exact Row.nil _ 4
        · rw [eB.out]; decide
        · rw [eE.out, Ru.wrongIf_zero]; exact h2.out
      · clear hcc hcap hg
        subst hv
        clear r1
        obtain ⟨any, name, n, line, col⟩ := x
        simp only at ha l2
        subst ha
        unfold whoArr at *
        simp only at h1 t1 B0 l2 ⊢
        simp only [Option.isSome_some] at l2
        have r2'' : d.boxes.length * 32 ≤ 140737488355328 := r2'.out
        clear r2
        generalize hbl : d.boxes.length = bl at *
        have hbl' := hid hbl
        clear hbl
        go_enter Tryz.func104, Tryz.ntmps104
        go_wp2_with fail
        go_quiet (fail)
        clear l2 c0 c1 c2 c3 c4 c5 c6 hf
        have h2 := hid (h1.out.drewN nq)
        have t2 := hid (t1.out.drewN nq)
        have hR := hid (r1'.out.ext (bdrewN (Below.refl _ _) nq))
        have hsz := t2.out.size
        have hnews := hid hR.out.news
        have hnil := hid (World.ownsRow_nil ((w.alloc (.cells #[.bool false, .string name, .int .i64 n, .int .i64 line, .int .i64 col] 37)).drewN nq) w.heap.size 63 4)
        have hl4 := hid hlen
        clear hlen
        go_wp2_with (first | (at_builtin; refine wpList_append_own _ rfl _ _ 35 rfl w.heap.size 63 i0 (.agg #[.int .i64 0, .int .i64 0, .int .i64 0, .int .i64 0]) 4 32 Tryz.underlying35 hinf hz0 hz1 hz2 rfl (by decide) _ _ _ rfl hnil.out ⟨g, off, none⟩ bl cap (boxesCells d.boxes) rfl hl4.out hnews.out (boxesCells_one _) (by unfold maxLen; omega) (by omega) hsz ?_; intro v' w5 hown5 hgrow _))
        go_ret
        have hg5 := below_of_grown hgrow
        refine ⟨_, rfl, ?_, ?_, fun b hb => (hown5.lt b hb).1, ?_, t2.out.below hg5⟩
        · rw [eB.out, hbl'.out]
          have := Row.of_owns hown5
          rwa [Nat.zero_add, List.nil_append] at this
        · rw [eB.out, hbl'.out]; exact r2''
        · rw [eE.out, Ru.wrongIf_zero]
          exact h2.out.ext hg5

end Go.Proofs.YtelphkhacadfaaaGreat

namespace Go.Proofs.YtelphkhacadfaaaGreat
open Go.RowKit Go.Sort Go.Maps

theorem beq_bytes {a b : ByteArray} : (a == b) = true ↔ a = b := by
  obtain ⟨x⟩ := a
  obtain ⟨y⟩ := b
  rw [show ((ByteArray.mk x == ByteArray.mk y) = (x == y)) from rfl, beq_iff_eq]
  simp
theorem declared_snoc (ahead : List Po.Decl) (d : Po.Decl) (k : Int) (nm : ByteArray) : Ru.declared (ahead ++ [d]) k nm = (Ru.declared ahead k nm).or (if d.kind = k ∧ d.name = nm then some d else none) := by
  unfold Ru.declared
  rw [List.find?_append]
  congr 1
  by_cases h : d.kind = k ∧ d.name = nm
  · have e : (d.kind == k && d.name == nm) = true := by rw [Bool.and_eq_true, beq_iff_eq, beq_bytes]; exact h
    rw [if_pos h, List.find?_cons, e]
  · have e : (d.kind == k && d.name == nm) = false := by
      rw [Bool.eq_false_iff]; intro hh
      rw [Bool.and_eq_true, beq_iff_eq, beq_bytes] at hh
      exact h hh
    rw [if_neg h, List.find?_cons, e]; rfl
theorem declared_other {ahead : List Po.Decl} {d : Po.Decl} {k : Int} (hk : d.kind ≠ k) (nm : ByteArray) : Ru.declared (ahead ++ [d]) k nm = Ru.declared ahead k nm := by
  rw [declared_snoc, if_neg (fun h => hk h.1)]; simp
theorem declared_name {ahead : List Po.Decl} {d : Po.Decl} {k : Int} {nm : ByteArray} (hn : d.name ≠ nm) : Ru.declared (ahead ++ [d]) k nm = Ru.declared ahead k nm := by
  rw [declared_snoc, if_neg (fun h => hn h.2)]; simp
theorem declared_this {ahead : List Po.Decl} {d : Po.Decl} (h : Ru.declared ahead d.kind d.name = none) : Ru.declared (ahead ++ [d]) d.kind d.name = some d := by
  rw [declared_snoc, h, if_pos ⟨rfl, rfl⟩]; rfl
theorem numF_other {ahead : List Po.Decl} {d : Po.Decl} {k : Int} (hk : d.kind ≠ k) : numF (ahead ++ [d]) k = numF ahead k := by
  funext l; unfold numF; cases l <;> simp [declared_other hk]
theorem regF_other {ahead : List Po.Decl} {d : Po.Decl} {rg : ByteArray → Value} (hk : d.kind ≠ 3) : regF (ahead ++ [d]) rg = regF ahead rg := by
  funext l; unfold regF; cases l <;> simp [declared_other hk]
theorem key_ne {nm : ByteArray} {t : List UInt8} (h : Lit.string t ≠ .string nm.data.toList) : nm ≠ ⟨t.toArray⟩ := by
  rintro rfl; exact h rfl
theorem numF_this {ahead : List Po.Decl} {d : Po.Decl} (h : Ru.declared ahead d.kind d.name = none) : numF (ahead ++ [d]) d.kind (.string d.name.data.toList) = some (.int .i64 d.n) := by
  unfold numF; simp only [byt]; rw [declared_this h]; rfl
theorem numF_else {ahead : List Po.Decl} {d : Po.Decl} {k : Int} (l : Lit) (h : l ≠ .string d.name.data.toList) : numF (ahead ++ [d]) k l = numF ahead k l := by
  unfold numF
  cases l <;> try rfl
  rename_i t
  simp only
  rw [declared_name (key_ne h)]
/-- the regions, with one more -/
def rgPut (rg : ByteArray → Value) (nm : ByteArray) (v : Value) (x : ByteArray) : Value := if x = nm then v else rg x
theorem regF_this {ahead : List Po.Decl} {d : Po.Decl} {rg : ByteArray → Value} {v : Value} (hk : d.kind = 3) (h : Ru.declared ahead 3 d.name = none) : regF (ahead ++ [d]) (rgPut rg d.name v) (.string d.name.data.toList) = some v := by
  unfold regF; simp only [byt]
  have := declared_this (ahead := ahead) (d := d) (by rw [hk]; exact h)
  rw [hk] at this
  rw [this]; simp [rgPut]
theorem regF_else {ahead : List Po.Decl} {d : Po.Decl} {rg : ByteArray → Value} {v : Value} (l : Lit) (h : l ≠ .string d.name.data.toList) : regF (ahead ++ [d]) (rgPut rg d.name v) l = regF ahead rg l := by
  unfold regF
  cases l <;> try rfl
  rename_i t
  simp only
  have hne := key_ne h
  rw [declared_name hne]
  unfold rgPut
  rw [if_neg (Ne.symm hne)]

section
variable {w w' : World} {bo b1 b2 br c : Nat} {ahead : List Po.Decl} {rules : List Ru.Rule} {rv : Value} {vs : List Value} {rg : ByteArray → Value} {d : Po.Decl}
/-- a declaration that is none of a name -/
theorem Inner.lift (h : Inner w bo b1 b2 br c ahead rules rv vs rg) (h1 : d.kind ≠ 1) (h2 : d.kind ≠ 2) (h3 : d.kind ≠ 3) : Inner w bo b1 b2 br c (ahead ++ [d]) rules rv vs rg := by
  have hl : ahead.length ≤ (ahead ++ [d]).length := by simp
  exact ⟨h.ord, h.outer, by rw [numF_other h1]; exact h.nums1.mono hl, by rw [numF_other h2]; exact h.nums2.mono hl, by rw [regF_other h3]; exact h.regs.mono hl,
    fun nm x hx => h.rows nm x (by rwa [declared_other h3] at hx), h.len, h.own, h.box⟩
/-- one of the maps has grown -/
theorem Inner.num (h : Inner w bo b1 b2 br c ahead rules rv vs rg) {bk : Nat} (hb : bk = b1 ∧ d.kind = 1 ∨ bk = b2 ∧ d.kind = 2) (hn : Ru.declared ahead d.kind d.name = none)
    (hp : ∀ f' : Lit → Option Value, f' (.string d.name.data.toList) = some (.int .i64 d.n) → (∀ l, WideAt.IsKeyLit l → l ≠ .string d.name.data.toList → f' l = numF ahead d.kind l) → KMap Tryz.prog 9 w' bk (ahead.length + 1) f') (hg : w.grownBy w' (some bk)) :
    Inner w' bo b1 b2 br c (ahead ++ [d]) rules rv vs rg := by
  obtain ⟨o1, o2, o3, o4, o5⟩ := h.ord
  have ht := Touch.of_grown hg
  have hbk : bo < bk ∧ bk < br := by omega
  have hl : ahead.length ≤ (ahead ++ [d]).length := by simp
  have h3 : d.kind ≠ 3 := by omega
  have hm := hp (numF (ahead ++ [d]) d.kind) (numF_this hn) (fun l _ hl => numF_else l hl)
  have hl1 : (ahead ++ [d]).length = ahead.length + 1 := by simp
  refine ⟨⟨o1, o2, o3, o4, Nat.lt_of_lt_of_le o5 ht.size⟩, h.outer.touch ht (by omega), ?_, ?_, by rw [regF_other h3]; exact (h.regs.touch ht (by omega)).mono hl, ?_, h.len, owns_touch h.own ht (by omega), ?_⟩
  · rcases hb with ⟨rfl, hk⟩ | ⟨rfl, hk⟩
    · rw [hl1]; rwa [hk] at hm
    · rw [numF_other (by omega)]; exact (h.nums1.touch ht (by omega)).mono hl
  · rcases hb with ⟨rfl, hk⟩ | ⟨rfl, hk⟩
    · rw [numF_other (by omega)]; exact (h.nums2.touch ht (by omega)).mono hl
    · rw [hl1]; rwa [hk] at hm
  · intro nm x hx
    rw [declared_other h3] at hx
    obtain ⟨r1, r2, r3⟩ := h.rows nm x hx
    exact ⟨r1.touch ht (fun e => by have := (r3 bk e).1; omega), r2, r3⟩
  · intro i r x hr hx
    obtain ⟨r1, r2, r3⟩ := h.box i r x hr hx
    exact ⟨r1.touch ht (fun e => by have := (r3 bk e).1; omega), r2, r3⟩
/-- a region more -/
theorem Inner.reg (h : Inner w bo b1 b2 br c ahead rules rv vs rg) (hk : d.kind = 3) (hn : Ru.declared ahead 3 d.name = none) {v : Value} (hv : Row w v d.boxes.length 4 (boxesCells d.boxes)) (hs : d.boxes.length * 32 ≤ 140737488355328) (hc : ∀ b, v.ownBlock = some b → c < b ∧ rv.ownBlock ≠ some b)
    (hp : ∀ f' : Lit → Option Value, f' (.string d.name.data.toList) = some v → (∀ l, WideAt.IsKeyLit l → l ≠ .string d.name.data.toList → f' l = regF ahead rg l) → KMap Tryz.prog 9 w' br (ahead.length + 1) f') (hg : w.grownBy w' (some br)) :
    Inner w' bo b1 b2 br c (ahead ++ [d]) rules rv vs (rgPut rg d.name v) := by
  obtain ⟨o1, o2, o3, o4, o5⟩ := h.ord
  have ht := Touch.of_grown hg
  have hl : ahead.length ≤ (ahead ++ [d]).length := by simp
  have hm := hp (regF (ahead ++ [d]) (rgPut rg d.name v)) (regF_this hk hn) (fun l _ hl => regF_else l hl)
  have hl1 : (ahead ++ [d]).length = ahead.length + 1 := by simp
  refine ⟨⟨o1, o2, o3, o4, Nat.lt_of_lt_of_le o5 ht.size⟩, h.outer.touch ht (by omega), by rw [numF_other (by omega)]; exact (h.nums1.touch ht (by omega)).mono hl, by rw [numF_other (by omega)]; exact (h.nums2.touch ht (by omega)).mono hl, by rw [hl1]; exact hm, ?_, h.len, owns_touch h.own ht (by omega), ?_⟩
  · intro nm x hx
    by_cases he : d.name = nm
    · subst he
      have h1 := declared_this (ahead := ahead) (d := d) (by rw [hk]; exact hn)
      rw [hk, hx] at h1
      cases h1
      have h2 : rgPut rg d.name v d.name = v := by simp [rgPut]
      rw [h2]
      exact ⟨hv.touch ht (fun e => by have := (hc br e).1; omega), hs, hc⟩
    · rw [declared_name he] at hx
      have h2 : rgPut rg d.name v nm = rg nm := by simp [rgPut, Ne.symm he]
      rw [h2]
      obtain ⟨r1, r2, r3⟩ := h.rows nm x hx
      exact ⟨r1.touch ht (fun e => by have := (r3 br e).1; omega), r2, r3⟩
  · intro i r x hr hx
    obtain ⟨r1, r2, r3⟩ := h.box i r x hr hx
    exact ⟨r1.touch ht (fun e => by have := (r3 br e).1; omega), r2, r3⟩
end

/-- what one declaration leaves of the checker -/
def CkPost (w : World) (bo b1 b2 br c : Nat) (ahead : List Po.Decl) (d : Po.Decl) (k' : Ru.Ck) (en : Ending) (w' : World) : Prop :=
  en = .returned (.tuple #[]) ∧ Below bo w w' ∧ ∃ ahead' rv', Chk w' bo b1 b2 br c ahead' k' rv' ∧ (k'.f.1 = 0 → ahead' = ahead ++ [d])

end Go.Proofs.YtelphkhacadfaaaGreat

namespace Go.Proofs.YtelphkhacadfaaaGreat
open Go.RowKit Go.Sort

/-- a box's cells, as a region that draws reads them -/
theorem box_at {w : World} {g o : Nat} {b : Po.Box} (h : w.rangeAt g o (boxArr b).toList) : w.cell? ⟨g, o, none⟩ = some (.int .i64 b.x0) ∧ w.cell? ⟨g, o + 1, none⟩ = some (.int .i64 b.y0) ∧ w.cell? ⟨g, o + 1 + 1, none⟩ = some (.int .i64 b.x1) ∧ w.cell? ⟨g, o + 1 + 1 + 1, none⟩ = some (.int .i64 b.y1) :=
  ⟨h 0 _ rfl, h 1 _ rfl, h 2 _ rfl, h 3 _ rfl⟩

set_option maxHeartbeats 1000000 in
theorem samerects_any {w : World} {v1 v2 : Value} {l : List Po.Box} (h1 : BRow w v1 l) (h2 : BRow w v2 l) (hn : l.length ≤ 140737488355328) :
    Calls Tryz.prog 20 #[v1, v2] w fun e w' => e = .returned (.bool true) ∧ Below w.heap.size w w' := by
  by_cases h0 : l.length = 0
  · obtain ⟨p1, c1, rfl⟩ := h1.shape
    obtain ⟨p2, c2, rfl⟩ := h2.shape
    rw [h0]
    clear h1 h2
    go_enter Tryz.func20, Tryz.ntmps20
    go_wp2_with fail
    go_loop [5] (fun u => u = .int .i64 0) (fun _ => 0)
    case atStart => rfl
    case round =>
      subst hrel
      go_wp2_with fail
      go_ret
      exact ⟨rfl, Below.refl _ _⟩
  · rcases brow_of h1 with ⟨_, _, _, rfl⟩ | ⟨g1, o1, k1, rfl, r1⟩
    · exact absurd rfl h0
    rcases brow_of h2 with ⟨_, _, _, rfl⟩ | ⟨g2, o2, k2, rfl, r2⟩
    · exact absurd rfl h0
    have r1' := hid r1
    have r2' := hid r2
    clear h1 h2 r1 r2 h0
    go_enter Tryz.func20, Tryz.ntmps20
    go_wp2_with fail
    go_loopw [5] (fun u wr => ∃ i : Nat, u = .int .i64 i ∧ i ≤ l.length ∧ Below w.heap.size w wr) (fun u _ => l.length - (intOf u).toNat)
    case atStart => exact ⟨0, rfl, Nat.zero_le _, Below.refl _ _⟩
    case round =>
      obtain ⟨i, rfl, hle, hQ⟩ := hrel
      have Q0 := hid hQ
      by_cases hlt : i < l.length
      · obtain ⟨x0, x1, x2, x3⟩ := box_at ((r1'.out.ext hQ).get i hlt)
        obtain ⟨y0, y1, y2, y3⟩ := box_at ((r2'.out.ext hQ).get i hlt)
        have hg1 := Nat.lt_of_lt_of_le r1'.out.lt hQ.size
        have hg2 := Nat.lt_of_lt_of_le r2'.out.lt hQ.size
        clear hQ
        generalize l[i] = b at *
        obtain ⟨b0, b1, b2, b3⟩ := b
        simp only at x0 x1 x2 x3 y0 y1 y2 y3
        have t1 : (0 : Int) ≤ i := by omega
        have t2 : (i : Int) < l.length := by omega
        go_wp2_with fail
        go_quiet (fail)
        go_wp2_with fail
        go_roundw
        case rel => exact ⟨i + 1, by go_num, by omega, bdrewN Q0.out nq⟩
        case measure => simp [intOf]; omega
      · obtain rfl : i = l.length := by omega
        clear hQ
        go_wp2_with fail
        go_ret
        exact ⟨rfl, Q0.out⟩

end Go.Proofs.YtelphkhacadfaaaGreat

namespace Go.Proofs.YtelphkhacadfaaaGreat
open Go.RowKit Go.Sort

/-! ### declared -/
theorem ba_beq (a b : ByteArray) : (a == b) = (a.toList == b.toList) := by
  rw [Bool.eq_iff_iff, beq_bytes, beq_iff_eq, ByteArray.toList_eq, ByteArray.toList_eq]
  constructor
  · intro h; rw [h]
  · intro h; cases a; cases b; simp_all
theorem find_none_take {α : Type} {p : α → Bool} {l : List α} {i : Nat} (hi : i < l.length) (h : (l.take i).find? p = none) (hp : p l[i] = false) : (l.take (i + 1)).find? p = none := by
  rw [List.take_succ_eq_append_getElem hi, List.find?_append, h]; simp [hp]
theorem find_some_take {α : Type} {p : α → Bool} {l : List α} {i : Nat} (hi : i < l.length) (h : (l.take i).find? p = none) (hp : p l[i] = true) : l.find? p = some l[i] := by
  have e : l = l.take i ++ l[i] :: l.drop (i + 1) := by rw [← List.drop_eq_getElem_cons hi, List.take_append_drop]
  have e2 : l.find? p = (l.take i ++ l[i] :: l.drop (i + 1)).find? p := congrArg _ e
  rw [e2, List.find?_append, h, List.find?_cons, hp]; rfl
/-- a result struct of many cells, and a word beside it -/
theorem results_blk_tmp {P : Program} {fn : Func} {p u : Tmp} {ty : TypeId} (h : fn.results = #[.cell p ty, .tmp u]) (tmps : Array Value) (w : World) (g : Nat) (t : TypeId) (cs : Array Value) (hp : tmps.getD p undef = .pointer (some ⟨g, 0, none⟩)) (hb : Blk w g cs t)
    {d : TypeDesc} (hu : P.underlying ty = some d) (hr : d.isRow = true) (hi : (P.info? ty).map (·.size) = some cs.size) : (results fn tmps).run P w = .ok (.tuple #[.agg cs, tmps.getD u undef]) w := by
  rw [results_cell_tmp h, hp]
  have h1 : (loadVar ty ⟨g, 0, none⟩).run P w = .ok (.agg cs) w := run_loadVar_row w g t ty cs (0, 0) d hb hu (by cases d <;> simp_all) hi
  simp [asAddr, Result.andThen, h1]
def DeclaredPost (l : List Po.Decl) (kd : Int) (nm : ByteArray) (w _w' : World) (e : Ending) : Prop :=
  match Ru.declared l kd nm with
  | some d => ∃ x, e = .returned (.tuple #[.agg (declCells d x), .bool true]) ∧ BRow w x d.boxes ∧ (declCells d x).all (·.oneCell') = true
  | none => e = .returned (.tuple #[.agg (declCells Po.zeroDecl (.slice none 0 0)), .bool false])

set_option maxRecDepth 100000 in
set_option maxHeartbeats 4000000 in
theorem declared_at {w0 w : World} {v : Value} {l : List Po.Decl} (kd : Int) (nm : ByteArray) (h : DSl w0 v l) (hw0 : Below w0.heap.size w0 w) (hn : l.length ≤ 140737488355328) :
    Calls Tryz.prog 18 #[v, .int .i64 kd, .string nm] w fun e w' => DeclaredPost l kd nm w0 w' e ∧ Below w.heap.size w w' := by
  obtain ⟨vp, vc, rfl⟩ := h.shape
  have hPR : Hid (0 < l.length → ∃ g off, vp = some ⟨g, off, none⟩ ∧ DRow w0 g off vc l) := by
    refine hid (fun hpos => ?_)
    rcases h with ⟨_, h0⟩ | ⟨g, off, cap, hv, hr⟩
    · rw [h0] at hpos; simp at hpos
    · cases hv; exact ⟨g, off, rfl, hr⟩
  have Q0 := hid (balloc w (.cells (declCells Po.zeroDecl (.slice none 0 0)) 39))
  have W0 := hid hw0
  clear h hw0
  go_enter Tryz.func18, Tryz.ntmps18
  go_wp2_with fail
  go_loopw [8] (fun u wr => ∃ i : Nat, u = .int .i64 i ∧ i ≤ l.length ∧ (l.take i).find? (fun d => d.kind == kd && d.name == nm) = none ∧ Blk wr w.heap.size (declCells Po.zeroDecl (.slice none 0 0)) 39 ∧ Below w.heap.size w wr) (fun u _ => l.length - (intOf u).toNat)
  case atStart => exact ⟨0, rfl, Nat.zero_le _, rfl, Blk.new w _ _, Q0.out⟩
  case round =>
    obtain ⟨i, rfl, hle, hnone, hB, hQ⟩ := hrel
    have hno := hid hnone
    have B1 := hid hB
    have Q1 := hid hQ
    clear hnone hB hQ
    by_cases hlt : i < l.length
    · obtain ⟨g, off, rfl, hr⟩ := hPR.out (by omega)
      obtain ⟨x, hx0⟩ := hr.at (Below.refl _ w0) hlt
      have hbw := hid hx0.box
      have hx : DAt wr g (off + i * 24) l[i] x := ⟨fun j u hj => ((bthen W0.out Q1.out).cell (p := ⟨g, off + i * 24 + j, none⟩) hr.lt).trans (hx0.at_ j u hj), hx0.box.ext (bthen W0.out Q1.out), hx0.one⟩
      have c0 := hx.at_ 0 _ rfl
      have c1 := hx.at_ 1 _ rfl
      have hx' := hid hx
      have hyes := hid (fun h => find_some_take hlt hno.out h)
      have hnot := hid (fun h => find_none_take hlt hno.out h)
      clear hx hr hx0
      generalize l[i] = d at *
      simp only [Nat.add_zero] at c0
      cases hk : (d.kind == kd) with
      | false =>
        have hn2 := hid (hnot.out (by rw [hk]; rfl))
        go_wp2_with fail
        go_roundw
        case rel => exact ⟨i + 1, by go_num, by omega, hn2.out, B1.out, Q1.out⟩
        case measure => simp [intOf]; omega
      | true =>
        cases hs : (d.name.toList == nm.toList) with
        | false =>
          have hn2 := hid (hnot.out (by rw [hk, ba_beq, hs]; rfl))
          go_wp2_with fail
          go_roundw
          case rel => exact ⟨i + 1, by go_num, by omega, hn2.out, B1.out, Q1.out⟩
          case measure => simp [intOf]; omega
        | true =>
          have hn2 := hid (hyes.out (by rw [hk, ba_beq, hs]; rfl))
          go_wp2_with (first | (refine wpList_load_at rfl 39 (.tmp 33) rfl 34 rfl g (off + i * 24) (declCells d x) (hx'.out.at_) rfl Tryz.underlying39 rfl (by kernel_rfl) ?_) | (refine wpList_store_blk rfl 39 (.tmp 6) (.tmp 34) rfl rfl w.heap.size 39 _ (declCells d x) (B1.out) rfl rfl (by kernel_rfl) rfl (hx'.out.one) ?_))
          refine bodyPost_ret (v := .tuple #[.agg (declCells d x), .bool true]) (results_blk_tmp (p := 6) (u := 7) (ty := 39) rfl _ _ w.heap.size 39 _ rfl (B1.out.setRow _) Tryz.underlying39 rfl (by kernel_rfl)) rfl ⟨?_, below_setRow Q1.out (Nat.le_refl _) _⟩
          unfold DeclaredPost Ru.declared
          rw [hn2.out]
          exact ⟨x, rfl, hbw.out, hx'.out.one⟩
    · obtain rfl : i = l.length := by omega
      have hn2 := hid (show Ru.declared l kd nm = none by have h := hno.out; rw [List.take_length] at h; exact h)
      go_wp2_with (first | (refine wpList_buildTo rfl 39 #[] rfl (some 35) rfl (declCells Po.zeroDecl (.slice none 0 0)) (by kernel_rfl) ?_) | (refine wpList_store_blk rfl 39 (.tmp 6) (.tmp 35) rfl rfl w.heap.size 39 _ (declCells Po.zeroDecl (.slice none 0 0)) (B1.out) rfl rfl (by kernel_rfl) rfl (declCells_one _ rfl) ?_))
      refine bodyPost_ret (v := .tuple #[.agg (declCells Po.zeroDecl (.slice none 0 0)), .bool false]) (results_blk_tmp (p := 6) (u := 7) (ty := 39) rfl _ _ w.heap.size 39 _ rfl (B1.out.setRow _) Tryz.underlying39 rfl (by kernel_rfl)) rfl ⟨?_, below_setRow Q1.out (Nat.le_refl _) _⟩
      unfold DeclaredPost
      rw [hn2.out]

theorem declared_any {w : World} {v : Value} {l : List Po.Decl} (kd : Int) (nm : ByteArray) (h : DSl w v l) (hn : l.length ≤ 140737488355328) :
    Calls Tryz.prog 18 #[v, .int .i64 kd, .string nm] w fun e w' => DeclaredPost l kd nm w w' e ∧ Below w.heap.size w w' := declared_at kd nm h (Below.refl _ _) hn

end Go.Proofs.YtelphkhacadfaaaGreat

namespace Go.Proofs.YtelphkhacadfaaaGreat
open Go.RowKit Go.Sort

set_option maxHeartbeats 1000000 in
theorem two_any (n : Nat) (hn : n ≤ 7) (w : World) : Calls Tryz.prog 75 #[.int .i64 n] w fun e w' => e = .returned (.int .i64 ((2 ^ n : Nat) : Int)) ∧ Below w.heap.size w w' := by
  go_enter Tryz.func75, Tryz.ntmps75
  go_wp2_with fail
  go_loopw [3, 4] (fun p u wr => ∃ k m : Nat, u = .int .i64 (k : Nat) ∧ p = .int .i64 (m : Nat) ∧ m = 2 ^ k ∧ k ≤ n ∧ wr = w) (fun _ u _ => n - (intOf u).toNat)
  case atStart => exact ⟨0, 1, by go_num, by go_num, rfl, Nat.zero_le _, rfl⟩
  case round =>
    obtain ⟨k, m, rfl, rfl, hm, hk, rfl⟩ := hrel
    have hm' := hid hm
    have hm64 : k < n → m ≤ 64 := fun h => by
      have : k = 0 ∨ k = 1 ∨ k = 2 ∨ k = 3 ∨ k = 4 ∨ k = 5 ∨ k = 6 := by omega
      rcases this with rfl | rfl | rfl | rfl | rfl | rfl | rfl <;> (rw [hm]; decide)
    have hm64' := hid hm64
    clear hm hm64
    by_cases hlt : k < n
    · have h64 := hm64'.out hlt
      go_wp2_with fail
      go_roundw
      case rel => exact ⟨k + 1, 2 * m, by go_num, by go_num, by rw [hm'.out, Nat.pow_succ]; omega, by omega, by first | rfl | trivial⟩
      case measure => simp [intOf]; omega
    · obtain rfl : k = n := by omega
      go_wp2_with fail
      go_ret
      exact ⟨ret_int (by rw [← hm'.out]), Below.refl _ _⟩


end Go.Proofs.YtelphkhacadfaaaGreat

namespace Go.Proofs.YtelphkhacadfaaaGreat
open Go.RowKit Go.Sort

theorem two_int (n : Int) (hn : n ≤ 7) (w : World) : Calls Tryz.prog 75 #[.int .i64 n] w fun e w' => e = .returned (.int .i64 (2 ^ n.toNat)) ∧ Below w.heap.size w w' := by
  by_cases h0 : 0 ≤ n
  · obtain ⟨k, rfl⟩ := Int.eq_ofNat_of_zero_le h0
    refine (two_any k (by omega) w).mono fun e w' h => ⟨?_, h.2⟩
    rw [h.1]
    exact ret_int (by simp)
  · have h1 : n.toNat = 0 := by omega
    have h2 : decide ((0 : Int) < n) = false := decide_eq_false (by omega)
    rw [h1]
    clear h1
    go_enter Tryz.func75, Tryz.ntmps75
    go_wp2_with fail
    go_loop [3, 4] (fun u v => u = .int .i64 1 ∧ v = .int .i64 0) (fun _ _ => 0)
    case atStart => exact ⟨rfl, rfl⟩
    case round =>
      obtain ⟨rfl, rfl⟩ := hrel
      go_wp2_with fail
      go_ret
      exact ⟨rfl, Below.refl _ _⟩

def SumPost (l : List Po.Decl) (kd : Int) (x : Po.Who) (e : Ending) : Prop :=
  match Ru.rsum l kd x with
  | .ok n => e = .returned (.tuple #[.int .i64 n, .int .i64 0])
  | .error er => e = .returned (.tuple #[.int .i64 0, .int .i64 er])

set_option maxRecDepth 100000 in
set_option maxHeartbeats 4000000 in
theorem rsum_any {w : World} {v : Value} {l : List Po.Decl} (kd : Int) (x : Po.Who) (h : DSl w v l) (hn : l.length ≤ 140737488355328) :
    Calls Tryz.prog 45 #[v, .int .i64 kd, .agg (whoArr x)] w fun e w' => SumPost l kd x e ∧ Below w.heap.size w w' := by
  have hS := hid (show ∀ e, SumPost l kd x e = _ from fun e => by unfold SumPost Ru.rsum; rfl)
  have hz := balloc w (.cells (whoArr x) 37)
  have Q0 := hid hz
  have B0 := hid (Blk.new w (whoArr x) 37)
  have hd := hid (declared_any kd x.name (h.ext hz) hn)
  clear h hz
  obtain ⟨any, name, n, line, col⟩ := x
  simp only at hS hd
  unfold whoArr at *
  simp only at *
  cases any with
  | true =>
    have e1 := hid (show SumPost l kd ⟨true, name, n, line, col⟩ (.returned (.tuple #[.int .i64 255, .int .i64 0])) by rw [hS.out]; rfl)
    clear hS
    go_enter Tryz.func45, Tryz.ntmps45
    go_wp2_with fail
    go_ret2
    exact ⟨e1.out, Q0.out⟩
  | false =>
    cases hem : name.toList.isEmpty with
    | true =>
      have hem' : name.toList = [] := by simpa using hem
      have hem2 : name.data.toList = [] := by rw [← ByteArray.toList_eq]; exact hem'
      by_cases h7 : 7 < n
      · have e1 := hid (show SumPost l kd ⟨false, name, n, line, col⟩ (.returned (.tuple #[.int .i64 0, .int .i64 33])) by rw [hS.out]; simp [hem2, h7])
        clear hS hem hem2
        go_enter Tryz.func45, Tryz.ntmps45
        go_wp2_with fail
        go_ret2
        exact ⟨e1.out, Q0.out⟩
      · have e1 := hid (show SumPost l kd ⟨false, name, n, line, col⟩ (.returned (.tuple #[.int .i64 (2 ^ n.toNat), .int .i64 0])) by rw [hS.out]; simp [hem2, h7])
        have ht := hid (two_int n (by omega))
        generalize (2 : Int) ^ n.toNat = z at *
        clear hS hem hem2
        go_enter Tryz.func45, Tryz.ntmps45
        go_wp2_with fail
        refine (ht.out _).mono ?_
        rintro e w1 ⟨rfl, hb1⟩
        go_wp2_with fail
        go_ret2
        exact ⟨e1.out, bthen Q0.out hb1⟩
    | false =>
      have hem' : ¬ name.toList = [] := by simpa using hem
      have hem1 : (name.toList == []) = false := beq_eq_false_iff_ne.2 hem'
      have hem2 : ¬ name.data.toList = [] := by rw [← ByteArray.toList_eq]; exact hem'
      unfold DeclaredPost at hd
      cases hdc : Ru.declared l kd name with
      | none =>
        have e1 := hid (show SumPost l kd ⟨false, name, n, line, col⟩ (.returned (.tuple #[.int .i64 0, .int .i64 21])) by rw [hS.out]; simp [hem2, hdc])
        rw [hdc] at hd
        clear hS hem hem2 hdc
        go_enter Tryz.func45, Tryz.ntmps45
        go_wp2_with fail
        refine hd.out.mono ?_
        rintro e w1 ⟨rfl, hb1⟩
        have Q1 := hid (bthen Q0.out (bthen hb1 (balloc w1 (.cells (declCells Po.zeroDecl (.slice none 0 0)) 39))))
        clear hb1
        go_wp2_with (first | (refine wpList_store_new rfl 39 (.tmp 9) (.tmp 24) rfl rfl w1 39 _ (declCells Po.zeroDecl (.slice none 0 0)) rfl rfl rfl (by kernel_rfl) rfl (declCells_one _ rfl) ?_))
        go_ret2
        exact ⟨e1.out, Q1.out⟩
      | some d =>
        rw [hdc] at hd
        have hd' := hid hd.out
        by_cases h7 : 7 < d.n
        · have e1 := hid (show SumPost l kd ⟨false, name, n, line, col⟩ (.returned (.tuple #[.int .i64 0, .int .i64 33])) by rw [hS.out]; simp [hem2, hdc, h7])
          clear hS hem hem2 hdc hd
          go_enter Tryz.func45, Tryz.ntmps45
          go_wp2_with fail
          refine hd'.out.mono ?_
          rintro e w1 ⟨⟨xv, rfl, _, hone⟩, hb1⟩
          have Q1 := hid (bthen Q0.out (bthen hb1 (balloc w1 (.cells (declCells d xv) 39))))
          have hone' := hid hone
          have B1 := hid (Blk.new w1 (declCells d xv) 39)
          have c2 := B1.out.cell 2 (v := .int .i64 d.n) rfl
          clear hb1 hone
          go_wp2_with (first | (refine wpList_store_new rfl 39 (.tmp 9) (.tmp 24) rfl rfl w1 39 _ (declCells d xv) rfl rfl rfl (by kernel_rfl) rfl (hone'.out) ?_))
          go_ret2
          exact ⟨e1.out, Q1.out⟩
        · have e1 := hid (show SumPost l kd ⟨false, name, n, line, col⟩ (.returned (.tuple #[.int .i64 (2 ^ d.n.toNat), .int .i64 0])) by rw [hS.out]; simp [hem2, hdc, h7])
          have ht := hid (two_int d.n (by omega))
          generalize (2 : Int) ^ d.n.toNat = z at *
          clear hS hem hem2 hdc hd
          go_enter Tryz.func45, Tryz.ntmps45
          go_wp2_with fail
          refine hd'.out.mono ?_
          rintro e w1 ⟨⟨xv, rfl, _, hone⟩, hb1⟩
          have Q1 := hid (bthen Q0.out (bthen hb1 (balloc w1 (.cells (declCells d xv) 39))))
          have hone' := hid hone
          have B1 := hid (Blk.new w1 (declCells d xv) 39)
          have c2 := B1.out.cell 2 (v := .int .i64 d.n) rfl
          clear hb1 hone
          go_wp2_with (first | (refine wpList_store_new rfl 39 (.tmp 9) (.tmp 24) rfl rfl w1 39 _ (declCells d xv) rfl rfl rfl (by kernel_rfl) rfl (hone'.out) ?_))
          refine (ht.out _).mono ?_
          rintro e w2 ⟨rfl, hb2⟩
          go_wp2_with fail
          go_ret2
          exact ⟨e1.out, bthen Q1.out hb2⟩

end Go.Proofs.YtelphkhacadfaaaGreat

namespace Go.Proofs.YtelphkhacadfaaaGreat
open Go.RowKit Go.Sort Go.Maps

theorem range_pos {w : World} {b : Nat} {D : Po.Decl} {V : Value} {t : TypeId} (h : Blk w b (declCells D V) t) : w.rangeAt b 22 (#[.int .i64 D.line, .int .i64 D.col] : Array Value).toList := by
  intro j v hv
  have hj : j < 2 := by have := (List.getElem?_eq_some_iff.1 hv).1; exact this
  have : j = 0 ∨ j = 1 := by omega
  rcases this with rfl | rfl
  · exact h.cell 22 hv
  · exact h.cell 23 hv
theorem Chk.ord {w : World} {bo b1 b2 br c : Nat} {ahead : List Po.Decl} {k : Ru.Ck} {rv : Value} (h : Chk w bo b1 b2 br c ahead k rv) : bo < b1 ∧ b1 < b2 ∧ b2 < br ∧ br < c ∧ c < w.heap.size := by
  obtain ⟨vs, rg, hi⟩ := h.inn; exact hi.ord
theorem CkPost.fault {w w' : World} {bo b1 b2 br c : Nat} {ahead : List Po.Decl} {d : Po.Decl} {k k' : Ru.Ck} {rv : Value} (h : Chk w' bo b1 b2 br c ahead k' rv) (ht : Touch c w w') (ho : bo < b1 ∧ b1 < b2 ∧ b2 < br ∧ br < c ∧ c < w.heap.size) (he : k = k') (hf : k'.f.1 ≠ 0) :
    CkPost w bo b1 b2 br c ahead d k (.returned (.tuple #[])) w' :=
  ⟨rfl, ht.to_below (by omega) (by omega), ahead, rv, he ▸ h, fun h0 => absurd (he ▸ h0) hf⟩
theorem wrong_stop {k : Ru.Ck} (h0 : k.f.1 = 0) {e : Int} (he : e ≠ 0) (l p : Int) : (k.wrong e l p).f.1 ≠ 0 := by rw [Ru.wrong_f h0]; exact he

/-- a region that draws, whose head only reads and whose tail is in order: the world behind the draw under a name of its own -/
theorem still_tail_at {P : Program} {id : Nat} {Q : Exit → Act → World → Prop} {a : Act} {w : World} {l : List Oper} (n : Nat) (hm : P.follows .mixedOrders = true) (hB : Region.lexTailB .any l.toArray n = true) (w3 : World) (hw : w3 = w.drew)
    (h : wpStill P l.toArray w3 (fun a' => wpList P l.toArray Q (l.drop n) a' w3) (l.take n) a) : (Code.region id l.toArray true).wp P Q a w := wp_region_still_tail n hm hB (by subst hw; exact h)

set_option maxRecDepth 100000 in
set_option maxHeartbeats 2000000 in
theorem cnumber_any {w : World} {bo b1 b2 br c : Nat} {ahead : List Po.Decl} {k : Ru.Ck} {rv : Value} (h : Chk w bo b1 b2 br c ahead k rv) (h0 : k.f.1 = 0) (d : Po.Decl) (x : Value) (hk : d.kind = 1 ∨ d.kind = 2) (hs : d.name.size ≤ 140737488355328) (hl : ahead.length < maxLen) :
    Calls Tryz.prog 65 #[.pointer (some ⟨c, 0, none⟩), .agg (declCells d x)] w (CkPost w bo b1 b2 br c ahead d (Ru.ckNumber ahead k d)) := by
  have hz := balloc w (.cells (declCells d x) 39)
  have h1 := hid (h.ext hz)
  have t1 := hid (Touch.of_below (b := c) hz)
  have B0 := hid (Blk.new w (declCells d x) 39)
  obtain ⟨bk, hbk, l1, l2⟩ := (h.ext hz).look hk hs
  have hbk' := hid hbk
  have hc := h.blk.lt
  have hne : w.heap.size ≠ c := by omega
  have hne' : c ≠ w.heap.size := by omega
  obtain ⟨c0, c1, c2, c3, c4, c5, c6, hf, hlt⟩ := h.f
  have hord := hid h.ord
  have y0 : (declCells d x)[0]? = some (.int .i64 d.kind) := rfl
  have y1 : (declCells d x)[1]? = some (.string d.name) := rfl
  have y2 : (declCells d x)[2]? = some (.int .i64 d.n) := rfl
  have hl' := hid hl
  have hk' := hid hk
  have hs' := hid hs
  have h0' := hid h0
  clear hz hbk hl hk hs h0
  cases hd : Ru.declared ahead d.kind d.name with
  | some d2 =>
    have e := hid (show Ru.ckNumber ahead k d = k.wrong 20 d.line d.col by unfold Ru.ckNumber; rw [hd]; rfl)
    rw [hd] at l2
    simp only [Option.isSome_some] at l2
    generalize lookN ahead d.kind d.name = ln at *
    clear hd
    go_enter Tryz.func65, Tryz.ntmps65
    go_wp2_with fail
    go_quiet (fail)
    clear l1 l2 c0 c1 c2 c3 c4 c5 c6 hf
    have h2 := hid (h1.out.drewN nq)
    have t2 := hid (t1.out.drewN nq)
    have B2 := hid (B0.out.drewN nq)
    go_wp2_with (first | (refine wpList_load_at rfl 25 (.tmp 33) rfl 34 rfl w.heap.size (22) (#[.int .i64 d.line, .int .i64 d.col]) (range_pos B2.out) rfl Tryz.underlying25 rfl (by kernel_rfl) ?_))
    refine (cwrong_any h2.out _ _ _).mono ?_
    rintro en w3 ⟨rfl, h3, t3⟩
    have h3' := hid h3
    have t3' := hid (t2.out.trans t3)
    clear h3 t3
    go_wp2_with fail
    go_end0
    exact CkPost.fault h3'.out t3'.out hord.out e.out (wrong_stop h0'.out (by decide) _ _)
  | none =>
    have hd' := hid hd
    rw [hd] at l2
    simp only [Option.isSome_none] at l2
    have hln : lookN ahead d.kind d.name = 0 := by unfold lookN; rw [hd]
    rw [hln] at l2
    clear hln
    by_cases h7 : 7 < d.n
    · have e := hid (show Ru.ckNumber ahead k d = k.wrong 33 d.line d.col by unfold Ru.ckNumber; rw [hd]; simp [h7])
      clear hd
      go_enter Tryz.func65, Tryz.ntmps65
      go_wp2_with fail
      go_quiet (fail)
      clear l1 l2 c0 c1 c2 c3 c4 c5 c6 hf
      have h2 := hid (h1.out.drewN nq)
      have t2 := hid (t1.out.drewN nq)
      have B2 := hid (B0.out.drewN nq)
      go_wp2_with (first | (refine wpList_load_at rfl 25 (.tmp 41) rfl 42 rfl w.heap.size (22) (#[.int .i64 d.line, .int .i64 d.col]) (range_pos B2.out) rfl Tryz.underlying25 rfl (by kernel_rfl) ?_))
      refine (cwrong_any h2.out _ _ _).mono ?_
      rintro en w3 ⟨rfl, h3, t3⟩
      have h3' := hid h3
      have t3' := hid (t2.out.trans t3)
      clear h3 t3
      go_wp2_with fail
      go_end0
      exact CkPost.fault h3'.out t3'.out hord.out e.out (wrong_stop h0'.out (by decide) _ _)
    · have e := hid (show Ru.ckNumber ahead k d = k by unfold Ru.ckNumber; rw [hd]; simp [h7])
      clear hd
      go_enter Tryz.func65, Tryz.ntmps65
      go_wp2_with fail
      go_quiet (fail)
      have h2 := hid (h1.out.drewN nq)
      have t2 := hid (t1.out.drewN nq)
      have B2 := hid (B0.out.drewN nq)
      go_wp2_with fail
      clear l1 l2 c0 c1 c2 c3 c4 c5 c6 hf
      obtain ⟨w3, hw3⟩ : ∃ w3, w3 = ((w.alloc (.cells (declCells d x) 39)).drewN nq).drew := ⟨_, rfl⟩
      have h3 : Chk w3 bo b1 b2 br c ahead k rv := hw3 ▸ (h2.out.drewN 1)
      have t3 := hid (show Touch c w w3 from hw3 ▸ t2.out.drew)
      have B3 := hid (show Blk w3 w.heap.size (declCells d x) 39 from hw3 ▸ B2.out.drew)
      obtain ⟨vs, rg, hi⟩ := h3.inn
      obtain ⟨c0, c1, c2, c3, c4, c5, c6, hf, hlt3⟩ := h3.f
      have q0 : w3.cell? ⟨w.heap.size, 0, none⟩ = some (.int .i64 d.kind) := B3.out.cell 0 y0
      have q1 : w3.cell? ⟨w.heap.size, 1, none⟩ = some (.string d.name) := B3.out.cell 1 y1
      have q2 : w3.cell? ⟨w.heap.size, 2, none⟩ = some (.int .i64 d.n) := B3.out.cell 2 y2
      obtain ⟨bk', hbk2, l1, _⟩ := h3.look hk'.out hs'.out
      obtain rfl : bk' = bk := by have := hbk'.out; omega
      have l1' : Sem.run Tryz.prog (Instr.lookup 74 (.map (some bo)) (.int .i64 d.kind) false) w3 = .ok (.map (some bk')) w3 := l1 0
      have hm : Hid (KMap Tryz.prog 9 w3 bk' ahead.length (numF ahead d.kind)) := by
        rcases hbk2 with ⟨rfl, e1⟩ | ⟨rfl, e1⟩
        · rw [e1]; exact hid hi.nums1
        · rw [e1]; exact hid hi.nums2
      have h3' := hid h3
      have hi' := hid hi
      have hbk2' := hid hbk2
      clear l1 h3 hi hbk2
      refine still_tail_at 11 (by kernel_rfl) (by kernel_rfl) w3 hw3 ?_
      clear hw3
      simp only [List.take_succ_cons, List.take_zero, List.drop_succ_cons, List.drop_zero]
      repeat still_step
      try refine wpStill_nil ?_
      refine wpList_put rfl (.tmp 25) (.tmp 27) (.tmp 29) 73 (.inl rfl) rfl 3 lawS Tryz.underlying73 rfl hm.out hl'.out (.string d.name) (.int .i64 d.n) (.string d.name.data.toList) rfl rfl (keyS hs'.out) trivial ?_
      intro w4 hput hg
      have hput' := hid hput
      have hg' := hid hg
      clear hput hg c0 c1 c2 c3 c4 c5 c6 hf q0 q1 q2
      go_wp2_with fail
      go_end0
      have hb := Touch.of_grown hg'.out
      have ho := hi'.out.ord
      have hbk3 := hbk2'.out
      have hsz3 := t3.out.size
      have ho2 := hord.out
      have hn' := Inner.num hi'.out hbk2'.out hd'.out hput'.out hg'.out
      rw [e.out]
      exact ⟨rfl, ((t3.out.to_below (by omega) (by omega)).trans (hb.to_below (by omega) (by omega))), _, rv, ⟨h3'.out.blk.touch hb (by omega), vs, rg, hn'⟩, fun _ => rfl⟩

end Go.Proofs.YtelphkhacadfaaaGreat
