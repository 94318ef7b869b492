/-
  The walk of the checker's where.
  What was declared, with one declaration more.
  The walk of the checker's number.
  The walk of the checker's region.
-/
import Derived.Test.YteddkgpnklfppaaGreatDoorPk16
import Derived.Test.YteddkgpnklfppaaGreatDoorPk09
import Derived.StillTailTactics
import Derived.Deep.AppendLies

namespace Go.Proofs.YteddkgpnklfppaaGreatDoor
open Go.RowKit Go.Sort Go.Maps

/-- a region looked up -/
def lookRv (ahead : List Po.Decl) (rg : ByteArray → Value) (s : ByteArray) : Value := match Ru.declared ahead 3 s with | some _ => rg s | none => .slice none 0 0
theorem Inner.lookR {w : World} {bo b1 b2 br c : Nat} {ahead : List Po.Decl} {rules : List Ru.Rule} {rv : Value} {vs : List Value} {rg : ByteArray → Value} (h : Inner w bo b1 b2 br c ahead rules rv vs rg) {s : ByteArray} (hs : s.size ≤ 140737488355328) :
    ∀ n, Sem.run Tryz.prog (Instr.lookup 104 (.map (some br)) (.string s) true) (w.drewN n) = .ok (.tuple #[lookRv ahead rg s, .bool (Ru.declared ahead 3 s).isSome]) (w.drewN n) := by
  intro n
  have := (h.regs.drewN n).look lawS Tryz.underlying104 (zeroRects _) (keyS hs) trivial
  rw [this]
  unfold regF lookRv
  simp only [byt]
  cases Ru.declared ahead 3 s <;> simp

/-- what 'where' leaves -/
def WherePost (w : World) (bo b1 b2 br c : Nat) (ahead : List Po.Decl) (k : Ru.Ck) (rv : Value) (x : Po.Who) (en : Ending) (w' : World) : Prop :=
  ∃ v, en = .returned v ∧ Row w' v (Ru.whereB ahead x).length 4 (boxesCells (Ru.whereB ahead x)) ∧ (Ru.whereB ahead x).length * 32 ≤ 140737488355328 ∧ (∀ b, v.ownBlock = some b → w.heap.size ≤ b) ∧
    Chk w' bo b1 b2 br c ahead (k.wrongIf (Ru.whereE ahead x) x.line x.col) rv ∧ Touch c w w'

set_option maxHeartbeats 2000000 in
theorem cwhere_any {w : World} {bo b1 b2 br c : Nat} {ahead : List Po.Decl} {k : Ru.Ck} {rv : Value} (h : Chk w bo b1 b2 br c ahead k rv) (x : Po.Who) (hs : x.name.size ≤ 140737488355328) :
    Calls Tryz.prog 107 #[.pointer (some ⟨c, 0, none⟩), .agg (whoArr x)] w (WherePost w bo b1 b2 br c ahead k rv x) := by
  obtain ⟨i0, hinf, hz0, hz1, hz2⟩ := info_parts Tryz.infoRect
  have hz := balloc w (.cells (whoArr x) 81)
  have h1 := hid (h.ext hz)
  have t1 := hid (Touch.of_below (b := c) hz)
  have B0 := hid (Blk.new w (whoArr x) 81)
  have hc := h.blk.lt
  have hne : w.heap.size ≠ c := by omega
  have hwb : Hid (Ru.whereB ahead x = _) := hid rfl
  have hwe : Hid (Ru.whereE ahead x = _) := hid rfl
  cases ha : x.any with
  | true =>
    have eB := hid (show Ru.whereB ahead x = [Ru.grid] by unfold Ru.whereB; rw [ha]; rfl)
    have eE := hid (show Ru.whereE ahead x = 0 by unfold Ru.whereE; rw [ha]; rfl)
    obtain ⟨any, name, n, line, col⟩ := x
    simp only at ha
    subst ha
    unfold whoArr at *
    simp only at h1 t1 B0 ⊢
    clear hz hwb hwe
    go_enter Tryz.func107, Tryz.ntmps107
    go_wp2_with fail
    refine (grid_any _).mono ?_
    rintro en w2 ⟨rfl, hb2⟩
    have h2 := hid (h1.out.ext hb2)
    have t2 := hid (t1.out.below hb2)
    have hz2' := balloc w2 (.cells (boxCells Ru.grid).toArray 27)
    have h3 := hid (h2.out.ext hz2')
    have t3 := hid (t2.out.below hz2')
    have hsz2 := t2.out.size
    have o3 := hid (World.ownsRow_lit (base := w.heap.size) (size := 4) (e := 27) w2 (boxCells Ru.grid).toArray 1 hsz2 (by decide) rfl)
    clear hb2 hz2'
    unfold pboxV
    go_wp2_with fail
    go_ret
    refine ⟨_, rfl, ?_, ?_, fun b hb => (o3.out.lt b hb).1, ?_, t3.out⟩
    · rw [eB.out, show boxesCells [Ru.grid] = boxCells Ru.grid from by simp [boxesCells]]
      exact Row.of_owns o3.out
    · rw [eB.out]; decide
    · rw [eE.out, Ru.wrongIf_zero]; exact h3.out
  | false =>
    obtain ⟨vs, rg, hi⟩ := (h.ext hz).inn
    have l2 := hi.lookR hs
    have hrows := hi.rows x.name
    clear hi hz
    obtain ⟨c0, c1, c2, c3, c4, c5, c6, hf, hlt⟩ := h.f
    have hne' : c ≠ w.heap.size := by omega
    cases hd : Ru.declared ahead 3 x.name with
    | none =>
      have eB := hid (show Ru.whereB ahead x = [] by unfold Ru.whereB; rw [ha, hd]; rfl)
      have eE := hid (show Ru.whereE ahead x = 21 by unfold Ru.whereE; rw [ha, hd]; rfl)
      have hl0 : lookRv ahead rg x.name = .slice none 0 0 := by unfold lookRv; rw [hd]
      rw [hl0, hd] at l2
      obtain ⟨any, name, n, line, col⟩ := x
      simp only at ha l2
      subst ha
      unfold whoArr at *
      simp only at h1 t1 B0 l2 ⊢
      simp only [Option.isSome_none] at l2
      clear hwb hwe hrows hl0 hd
      go_enter Tryz.func107, Tryz.ntmps107
      go_wp2_with fail
      go_quiet (fail)
      clear l2 c0 c1 c2 c3 c4 c5 c6 hf
      have h2 := hid (h1.out.drewN nq)
      have t2 := hid (t1.out.drewN nq)
      have B2 := hid (B0.out.drewN nq)
      go_wp2_with fail
      refine (cwrong_any h2.out _ _ _).mono ?_
      rintro en w3 ⟨rfl, h3, t3⟩
      have h3' := hid h3
      have t3' := hid (t2.out.trans t3)
      clear h3 t3
      go_wp2_with fail
      go_ret
      refine ⟨_, rfl, ?_, ?_, fun b hb => by simp [Value.ownBlock] at hb, ?_, t3'.out⟩
      · rw [eB.out]; exact Row.nil _ 4
      · rw [eB.out]; decide
      · rw [eE.out]; unfold Ru.Ck.wrongIf; rw [if_neg (by decide)]; exact h3'.out
    | some d =>
      have eB := hid (show Ru.whereB ahead x = d.boxes by unfold Ru.whereB; rw [ha, hd]; rfl)
      have eE := hid (show Ru.whereE ahead x = 0 by unfold Ru.whereE; rw [ha, hd]; rfl)
      obtain ⟨r1, r2, r3⟩ := hrows d hd
      have hl0 : lookRv ahead rg x.name = rg x.name := by unfold lookRv; rw [hd]
      rw [hl0, hd] at l2
      have r1' := hid r1
      have r2' := hid r2
      have hlen : (boxesCells d.boxes).length = d.boxes.length * 4 := boxesCells_len d.boxes
      generalize rg x.name = rv1 at *
      clear hrows r3 hl0 hd hwb hwe
      rcases r1.2 with ⟨hv, hn0⟩ | ⟨g, off, cap, hv, hcap, hg, hcc⟩
      · have hb0 : d.boxes = [] := List.eq_nil_of_length_eq_zero hn0
        rw [hb0] at eB
        clear hn0 hb0 hlen
        subst hv
        clear r1
        obtain ⟨any, name, n, line, col⟩ := x
        simp only at ha l2
        subst ha
        unfold whoArr at *
        simp only at h1 t1 B0 l2 ⊢
        simp only [Option.isSome_some] at l2
        go_enter Tryz.func107, Tryz.ntmps107
        go_wp2_with fail
        go_quiet (fail)
        clear l2 c0 c1 c2 c3 c4 c5 c6 hf
        have h2 := hid (h1.out.drewN nq)
        have t2 := hid (t1.out.drewN nq)
        go_wp2_with fail
        go_ret
        refine ⟨_, rfl, ?_, ?_, fun b hb => by simp [Value.ownBlock] at hb, ?_, t2.out⟩
        · rw [eB.out]; exact Row.nil _ 4
        · rw [eB.out]; decide
        · rw [eE.out, Ru.wrongIf_zero]; exact h2.out
      · clear hcc hcap hg
        subst hv
        clear r1
        obtain ⟨any, name, n, line, col⟩ := x
        simp only at ha l2
        subst ha
        unfold whoArr at *
        simp only at h1 t1 B0 l2 ⊢
        simp only [Option.isSome_some] at l2
        have r2'' : d.boxes.length * 32 ≤ 140737488355328 := r2'.out
        clear r2
        generalize hbl : d.boxes.length = bl at *
        have hbl' := hid hbl
        clear hbl
        go_enter Tryz.func107, Tryz.ntmps107
        go_wp2_with fail
        go_quiet (fail)
        clear l2 c0 c1 c2 c3 c4 c5 c6 hf
        have h2 := hid (h1.out.drewN nq)
        have t2 := hid (t1.out.drewN nq)
        have hR := hid (r1'.out.ext (bdrewN (Below.refl _ _) nq))
        have hsz := t2.out.size
        have hnews := hid hR.out.news
        have hnil := hid (World.ownsRow_nil ((w.alloc (.cells #[.bool false, .string name, .int .i64 n, .int .i64 line, .int .i64 col] 81)).drewN nq) w.heap.size 27 4)
        have hl4 := hid hlen
        clear hlen
        go_wp2_with (first | (at_builtin; refine wpList_append_own _ rfl _ _ 54 rfl w.heap.size 27 i0 (.agg #[.int .i64 0, .int .i64 0, .int .i64 0, .int .i64 0]) 4 32 Tryz.underlying54 hinf hz0 hz1 hz2 rfl (by decide) _ _ _ rfl hnil.out ⟨g, off, none⟩ bl cap (boxesCells d.boxes) rfl hl4.out hnews.out (boxesCells_one _) (by unfold maxLen; omega) (by omega) hsz ?_; intro v' w5 hown5 hgrow _))
        go_ret
        have hg5 := below_of_grown hgrow
        refine ⟨_, rfl, ?_, ?_, fun b hb => (hown5.lt b hb).1, ?_, t2.out.below hg5⟩
        · rw [eB.out, hbl'.out]
          have := Row.of_owns hown5
          rwa [Nat.zero_add, List.nil_append] at this
        · rw [eB.out, hbl'.out]; exact r2''
        · rw [eE.out, Ru.wrongIf_zero]
          exact h2.out.ext hg5

end Go.Proofs.YteddkgpnklfppaaGreatDoor

namespace Go.Proofs.YteddkgpnklfppaaGreatDoor
open Go.RowKit Go.Sort Go.Maps

theorem beq_bytes {a b : ByteArray} : (a == b) = true ↔ a = b := by
  obtain ⟨x⟩ := a
  obtain ⟨y⟩ := b
  rw [show ((ByteArray.mk x == ByteArray.mk y) = (x == y)) from rfl, beq_iff_eq]
  simp
theorem declared_snoc (ahead : List Po.Decl) (d : Po.Decl) (k : Int) (nm : ByteArray) : Ru.declared (ahead ++ [d]) k nm = (Ru.declared ahead k nm).or (if d.kind = k ∧ d.name = nm then some d else none) := by
  unfold Ru.declared
  rw [List.find?_append]
  congr 1
  by_cases h : d.kind = k ∧ d.name = nm
  · have e : (d.kind == k && d.name == nm) = true := by rw [Bool.and_eq_true, beq_iff_eq, beq_bytes]; exact h
    rw [if_pos h, List.find?_cons, e]
  · have e : (d.kind == k && d.name == nm) = false := by
      rw [Bool.eq_false_iff]; intro hh
      rw [Bool.and_eq_true, beq_iff_eq, beq_bytes] at hh
      exact h hh
    rw [if_neg h, List.find?_cons, e]; rfl
theorem declared_other {ahead : List Po.Decl} {d : Po.Decl} {k : Int} (hk : d.kind ≠ k) (nm : ByteArray) : Ru.declared (ahead ++ [d]) k nm = Ru.declared ahead k nm := by
  rw [declared_snoc, if_neg (fun h => hk h.1)]; simp
theorem declared_name {ahead : List Po.Decl} {d : Po.Decl} {k : Int} {nm : ByteArray} (hn : d.name ≠ nm) : Ru.declared (ahead ++ [d]) k nm = Ru.declared ahead k nm := by
  rw [declared_snoc, if_neg (fun h => hn h.2)]; simp
theorem declared_this {ahead : List Po.Decl} {d : Po.Decl} (h : Ru.declared ahead d.kind d.name = none) : Ru.declared (ahead ++ [d]) d.kind d.name = some d := by
  rw [declared_snoc, h, if_pos ⟨rfl, rfl⟩]; rfl
theorem numF_other {ahead : List Po.Decl} {d : Po.Decl} {k : Int} (hk : d.kind ≠ k) : numF (ahead ++ [d]) k = numF ahead k := by
  funext l; unfold numF; cases l <;> simp [declared_other hk]
theorem regF_other {ahead : List Po.Decl} {d : Po.Decl} {rg : ByteArray → Value} (hk : d.kind ≠ 3) : regF (ahead ++ [d]) rg = regF ahead rg := by
  funext l; unfold regF; cases l <;> simp [declared_other hk]
theorem key_ne {nm : ByteArray} {t : List UInt8} (h : Lit.string t ≠ .string nm.data.toList) : nm ≠ ⟨t.toArray⟩ := by
  rintro rfl; exact h rfl
theorem numF_this {ahead : List Po.Decl} {d : Po.Decl} (h : Ru.declared ahead d.kind d.name = none) : numF (ahead ++ [d]) d.kind (.string d.name.data.toList) = some (.int .i64 d.n) := by
  unfold numF; simp only [byt]; rw [declared_this h]; rfl
theorem numF_else {ahead : List Po.Decl} {d : Po.Decl} {k : Int} (l : Lit) (h : l ≠ .string d.name.data.toList) : numF (ahead ++ [d]) k l = numF ahead k l := by
  unfold numF
  cases l <;> try rfl
  rename_i t
  simp only
  rw [declared_name (key_ne h)]
/-- the regions, with one more -/
def rgPut (rg : ByteArray → Value) (nm : ByteArray) (v : Value) (x : ByteArray) : Value := if x = nm then v else rg x
theorem regF_this {ahead : List Po.Decl} {d : Po.Decl} {rg : ByteArray → Value} {v : Value} (hk : d.kind = 3) (h : Ru.declared ahead 3 d.name = none) : regF (ahead ++ [d]) (rgPut rg d.name v) (.string d.name.data.toList) = some v := by
  unfold regF; simp only [byt]
  have := declared_this (ahead := ahead) (d := d) (by rw [hk]; exact h)
  rw [hk] at this
  rw [this]; simp [rgPut]
theorem regF_else {ahead : List Po.Decl} {d : Po.Decl} {rg : ByteArray → Value} {v : Value} (l : Lit) (h : l ≠ .string d.name.data.toList) : regF (ahead ++ [d]) (rgPut rg d.name v) l = regF ahead rg l := by
  unfold regF
  cases l <;> try rfl
  rename_i t
  simp only
  have hne := key_ne h
  rw [declared_name hne]
  unfold rgPut
  rw [if_neg (Ne.symm hne)]

section
variable {w w' : World} {bo b1 b2 br c : Nat} {ahead : List Po.Decl} {rules : List Ru.Rule} {rv : Value} {vs : List Value} {rg : ByteArray → Value} {d : Po.Decl}
/-- a declaration that is none of a name -/
theorem Inner.lift (h : Inner w bo b1 b2 br c ahead rules rv vs rg) (h1 : d.kind ≠ 1) (h2 : d.kind ≠ 2) (h3 : d.kind ≠ 3) : Inner w bo b1 b2 br c (ahead ++ [d]) rules rv vs rg := by
  have hl : ahead.length ≤ (ahead ++ [d]).length := by simp
  exact ⟨h.ord, h.outer, by rw [numF_other h1]; exact h.nums1.mono hl, by rw [numF_other h2]; exact h.nums2.mono hl, by rw [regF_other h3]; exact h.regs.mono hl,
    fun nm x hx => h.rows nm x (by rwa [declared_other h3] at hx), h.len, h.own, h.box⟩
/-- one of the maps has grown -/
theorem Inner.num (h : Inner w bo b1 b2 br c ahead rules rv vs rg) {bk : Nat} (hb : bk = b1 ∧ d.kind = 1 ∨ bk = b2 ∧ d.kind = 2) (hn : Ru.declared ahead d.kind d.name = none)
    (hp : ∀ f' : Lit → Option Value, f' (.string d.name.data.toList) = some (.int .i64 d.n) → (∀ l, WideAt.IsKeyLit l → l ≠ .string d.name.data.toList → f' l = numF ahead d.kind l) → KMap Tryz.prog 9 w' bk (ahead.length + 1) f') (hg : w.grownBy w' (some bk)) :
    Inner w' bo b1 b2 br c (ahead ++ [d]) rules rv vs rg := by
  obtain ⟨o1, o2, o3, o4, o5⟩ := h.ord
  have ht := Touch.of_grown hg
  have hbk : bo < bk ∧ bk < br := by omega
  have hl : ahead.length ≤ (ahead ++ [d]).length := by simp
  have h3 : d.kind ≠ 3 := by omega
  have hm := hp (numF (ahead ++ [d]) d.kind) (numF_this hn) (fun l _ hl => numF_else l hl)
  have hl1 : (ahead ++ [d]).length = ahead.length + 1 := by simp
  refine ⟨⟨o1, o2, o3, o4, Nat.lt_of_lt_of_le o5 ht.size⟩, h.outer.touch ht (by omega), ?_, ?_, by rw [regF_other h3]; exact (h.regs.touch ht (by omega)).mono hl, ?_, h.len, owns_touch h.own ht (by omega), ?_⟩
  · rcases hb with ⟨rfl, hk⟩ | ⟨rfl, hk⟩
    · rw [hl1]; rwa [hk] at hm
    · rw [numF_other (by omega)]; exact (h.nums1.touch ht (by omega)).mono hl
  · rcases hb with ⟨rfl, hk⟩ | ⟨rfl, hk⟩
    · rw [numF_other (by omega)]; exact (h.nums2.touch ht (by omega)).mono hl
    · rw [hl1]; rwa [hk] at hm
  · intro nm x hx
    rw [declared_other h3] at hx
    obtain ⟨r1, r2, r3⟩ := h.rows nm x hx
    exact ⟨r1.touch ht (fun e => by have := (r3 bk e).1; omega), r2, r3⟩
  · intro i r x hr hx
    obtain ⟨r1, r2, r3⟩ := h.box i r x hr hx
    exact ⟨r1.touch ht (fun e => by have := (r3 bk e).1; omega), r2, r3⟩
/-- a region more -/
theorem Inner.reg (h : Inner w bo b1 b2 br c ahead rules rv vs rg) (hk : d.kind = 3) (hn : Ru.declared ahead 3 d.name = none) {v : Value} (hv : Row w v d.boxes.length 4 (boxesCells d.boxes)) (hs : d.boxes.length * 32 ≤ 140737488355328) (hc : ∀ b, v.ownBlock = some b → c < b ∧ rv.ownBlock ≠ some b)
    (hp : ∀ f' : Lit → Option Value, f' (.string d.name.data.toList) = some v → (∀ l, WideAt.IsKeyLit l → l ≠ .string d.name.data.toList → f' l = regF ahead rg l) → KMap Tryz.prog 9 w' br (ahead.length + 1) f') (hg : w.grownBy w' (some br)) :
    Inner w' bo b1 b2 br c (ahead ++ [d]) rules rv vs (rgPut rg d.name v) := by
  obtain ⟨o1, o2, o3, o4, o5⟩ := h.ord
  have ht := Touch.of_grown hg
  have hl : ahead.length ≤ (ahead ++ [d]).length := by simp
  have hm := hp (regF (ahead ++ [d]) (rgPut rg d.name v)) (regF_this hk hn) (fun l _ hl => regF_else l hl)
  have hl1 : (ahead ++ [d]).length = ahead.length + 1 := by simp
  refine ⟨⟨o1, o2, o3, o4, Nat.lt_of_lt_of_le o5 ht.size⟩, h.outer.touch ht (by omega), by rw [numF_other (by omega)]; exact (h.nums1.touch ht (by omega)).mono hl, by rw [numF_other (by omega)]; exact (h.nums2.touch ht (by omega)).mono hl, by rw [hl1]; exact hm, ?_, h.len, owns_touch h.own ht (by omega), ?_⟩
  · intro nm x hx
    by_cases he : d.name = nm
    · subst he
      have h1 := declared_this (ahead := ahead) (d := d) (by rw [hk]; exact hn)
      rw [hk, hx] at h1
      cases h1
      have h2 : rgPut rg d.name v d.name = v := by simp [rgPut]
      rw [h2]
      exact ⟨hv.touch ht (fun e => by have := (hc br e).1; omega), hs, hc⟩
    · rw [declared_name he] at hx
      have h2 : rgPut rg d.name v nm = rg nm := by simp [rgPut, Ne.symm he]
      rw [h2]
      obtain ⟨r1, r2, r3⟩ := h.rows nm x hx
      exact ⟨r1.touch ht (fun e => by have := (r3 br e).1; omega), r2, r3⟩
  · intro i r x hr hx
    obtain ⟨r1, r2, r3⟩ := h.box i r x hr hx
    exact ⟨r1.touch ht (fun e => by have := (r3 br e).1; omega), r2, r3⟩
end

/-- what one declaration leaves of the checker -/
def CkPost (w : World) (bo b1 b2 br c : Nat) (ahead : List Po.Decl) (d : Po.Decl) (k' : Ru.Ck) (en : Ending) (w' : World) : Prop :=
  en = .returned (.tuple #[]) ∧ Below bo w w' ∧ ∃ ahead' rv', Chk w' bo b1 b2 br c ahead' k' rv' ∧ (k'.f.1 = 0 → ahead' = ahead ++ [d])

end Go.Proofs.YteddkgpnklfppaaGreatDoor

namespace Go.Proofs.YteddkgpnklfppaaGreatDoor
open Go.RowKit Go.Sort Go.Maps

theorem range_pos {w : World} {b : Nat} {D : Po.Decl} {V : Value} {t : TypeId} (h : Blk w b (declCells D V) t) : w.rangeAt b 22 (#[.int .i64 D.line, .int .i64 D.col] : Array Value).toList := by
  intro j v hv
  have hj : j < 2 := by have := (List.getElem?_eq_some_iff.1 hv).1; exact this
  have : j = 0 ∨ j = 1 := by omega
  rcases this with rfl | rfl
  · exact h.cell 22 hv
  · exact h.cell 23 hv
theorem Chk.ord {w : World} {bo b1 b2 br c : Nat} {ahead : List Po.Decl} {k : Ru.Ck} {rv : Value} (h : Chk w bo b1 b2 br c ahead k rv) : bo < b1 ∧ b1 < b2 ∧ b2 < br ∧ br < c ∧ c < w.heap.size := by
  obtain ⟨vs, rg, hi⟩ := h.inn; exact hi.ord
theorem CkPost.fault {w w' : World} {bo b1 b2 br c : Nat} {ahead : List Po.Decl} {d : Po.Decl} {k k' : Ru.Ck} {rv : Value} (h : Chk w' bo b1 b2 br c ahead k' rv) (ht : Touch c w w') (ho : bo < b1 ∧ b1 < b2 ∧ b2 < br ∧ br < c ∧ c < w.heap.size) (he : k = k') (hf : k'.f.1 ≠ 0) :
    CkPost w bo b1 b2 br c ahead d k (.returned (.tuple #[])) w' :=
  ⟨rfl, ht.to_below (by omega) (by omega), ahead, rv, he ▸ h, fun h0 => absurd (he ▸ h0) hf⟩
theorem wrong_stop {k : Ru.Ck} (h0 : k.f.1 = 0) {e : Int} (he : e ≠ 0) (l p : Int) : (k.wrong e l p).f.1 ≠ 0 := by rw [Ru.wrong_f h0]; exact he

/-- a region that draws, whose head only reads and whose tail is in order: the world behind the draw under a name of its own -/
theorem still_tail_at {P : Program} {id : Nat} {Q : Exit → Act → World → Prop} {a : Act} {w : World} {l : List Oper} (n : Nat) (hm : P.follows .mixedOrders = true) (hB : Region.lexTailB .any l.toArray n = true) (w3 : World) (hw : w3 = w.drew)
    (h : wpStill P l.toArray w3 (fun a' => wpList P l.toArray Q (l.drop n) a' w3) (l.take n) a) : (Code.region id l.toArray true).wp P Q a w := wp_region_still_tail n hm hB (by subst hw; exact h)

set_option maxRecDepth 100000 in
set_option maxHeartbeats 2000000 in
theorem cnumber_any {w : World} {bo b1 b2 br c : Nat} {ahead : List Po.Decl} {k : Ru.Ck} {rv : Value} (h : Chk w bo b1 b2 br c ahead k rv) (h0 : k.f.1 = 0) (d : Po.Decl) (x : Value) (hk : d.kind = 1 ∨ d.kind = 2) (hs : d.name.size ≤ 140737488355328) (hl : ahead.length < maxLen) :
    Calls Tryz.prog 67 #[.pointer (some ⟨c, 0, none⟩), .agg (declCells d x)] w (CkPost w bo b1 b2 br c ahead d (Ru.ckNumber ahead k d)) := by
  have hz := balloc w (.cells (declCells d x) 83)
  have h1 := hid (h.ext hz)
  have t1 := hid (Touch.of_below (b := c) hz)
  have B0 := hid (Blk.new w (declCells d x) 83)
  obtain ⟨bk, hbk, l1, l2⟩ := (h.ext hz).look hk hs
  have hbk' := hid hbk
  have hc := h.blk.lt
  have hne : w.heap.size ≠ c := by omega
  have hne' : c ≠ w.heap.size := by omega
  obtain ⟨c0, c1, c2, c3, c4, c5, c6, hf, hlt⟩ := h.f
  have hord := hid h.ord
  have y0 : (declCells d x)[0]? = some (.int .i64 d.kind) := rfl
  have y1 : (declCells d x)[1]? = some (.string d.name) := rfl
  have y2 : (declCells d x)[2]? = some (.int .i64 d.n) := rfl
  have hl' := hid hl
  have hk' := hid hk
  have hs' := hid hs
  have h0' := hid h0
  clear hz hbk hl hk hs h0
  cases hd : Ru.declared ahead d.kind d.name with
  | some d2 =>
    have e := hid (show Ru.ckNumber ahead k d = k.wrong 20 d.line d.col by unfold Ru.ckNumber; rw [hd]; rfl)
    rw [hd] at l2
    simp only [Option.isSome_some] at l2
    generalize lookN ahead d.kind d.name = ln at *
    clear hd
    go_enter Tryz.func67, Tryz.ntmps67
    go_wp2_with fail
    go_quiet (fail)
    clear l1 l2 c0 c1 c2 c3 c4 c5 c6 hf
    have h2 := hid (h1.out.drewN nq)
    have t2 := hid (t1.out.drewN nq)
    have B2 := hid (B0.out.drewN nq)
    go_wp2_with (first | (refine wpList_load_at rfl 31 (.tmp 33) rfl 34 rfl w.heap.size (22) (#[.int .i64 d.line, .int .i64 d.col]) (range_pos B2.out) rfl Tryz.underlying31 rfl (by kernel_rfl) ?_))
    refine (cwrong_any h2.out _ _ _).mono ?_
    rintro en w3 ⟨rfl, h3, t3⟩
    have h3' := hid h3
    have t3' := hid (t2.out.trans t3)
    clear h3 t3
    go_wp2_with fail
    go_end0
    exact CkPost.fault h3'.out t3'.out hord.out e.out (wrong_stop h0'.out (by decide) _ _)
  | none =>
    have hd' := hid hd
    rw [hd] at l2
    simp only [Option.isSome_none] at l2
    have hln : lookN ahead d.kind d.name = 0 := by unfold lookN; rw [hd]
    rw [hln] at l2
    clear hln
    by_cases h7 : 7 < d.n
    · have e := hid (show Ru.ckNumber ahead k d = k.wrong 33 d.line d.col by unfold Ru.ckNumber; rw [hd]; simp [h7])
      clear hd
      go_enter Tryz.func67, Tryz.ntmps67
      go_wp2_with fail
      go_quiet (fail)
      clear l1 l2 c0 c1 c2 c3 c4 c5 c6 hf
      have h2 := hid (h1.out.drewN nq)
      have t2 := hid (t1.out.drewN nq)
      have B2 := hid (B0.out.drewN nq)
      go_wp2_with (first | (refine wpList_load_at rfl 31 (.tmp 41) rfl 42 rfl w.heap.size (22) (#[.int .i64 d.line, .int .i64 d.col]) (range_pos B2.out) rfl Tryz.underlying31 rfl (by kernel_rfl) ?_))
      refine (cwrong_any h2.out _ _ _).mono ?_
      rintro en w3 ⟨rfl, h3, t3⟩
      have h3' := hid h3
      have t3' := hid (t2.out.trans t3)
      clear h3 t3
      go_wp2_with fail
      go_end0
      exact CkPost.fault h3'.out t3'.out hord.out e.out (wrong_stop h0'.out (by decide) _ _)
    · have e := hid (show Ru.ckNumber ahead k d = k by unfold Ru.ckNumber; rw [hd]; simp [h7])
      clear hd
      go_enter Tryz.func67, Tryz.ntmps67
      go_wp2_with fail
      go_quiet (fail)
      have h2 := hid (h1.out.drewN nq)
      have t2 := hid (t1.out.drewN nq)
      have B2 := hid (B0.out.drewN nq)
      go_wp2_with fail
      clear l1 l2 c0 c1 c2 c3 c4 c5 c6 hf
      obtain ⟨w3, hw3⟩ : ∃ w3, w3 = ((w.alloc (.cells (declCells d x) 83)).drewN nq).drew := ⟨_, rfl⟩
      have h3 : Chk w3 bo b1 b2 br c ahead k rv := hw3 ▸ (h2.out.drewN 1)
      have t3 := hid (show Touch c w w3 from hw3 ▸ t2.out.drew)
      have B3 := hid (show Blk w3 w.heap.size (declCells d x) 83 from hw3 ▸ B2.out.drew)
      obtain ⟨vs, rg, hi⟩ := h3.inn
      obtain ⟨c0, c1, c2, c3, c4, c5, c6, hf, hlt3⟩ := h3.f
      have q0 : w3.cell? ⟨w.heap.size, 0, none⟩ = some (.int .i64 d.kind) := B3.out.cell 0 y0
      have q1 : w3.cell? ⟨w.heap.size, 1, none⟩ = some (.string d.name) := B3.out.cell 1 y1
      have q2 : w3.cell? ⟨w.heap.size, 2, none⟩ = some (.int .i64 d.n) := B3.out.cell 2 y2
      obtain ⟨bk', hbk2, l1, _⟩ := h3.look hk'.out hs'.out
      obtain rfl : bk' = bk := by have := hbk'.out; omega
      have l1' : Sem.run Tryz.prog (Instr.lookup 103 (.map (some bo)) (.int .i64 d.kind) false) w3 = .ok (.map (some bk')) w3 := l1 0
      have hm : Hid (KMap Tryz.prog 9 w3 bk' ahead.length (numF ahead d.kind)) := by
        rcases hbk2 with ⟨rfl, e1⟩ | ⟨rfl, e1⟩
        · rw [e1]; exact hid hi.nums1
        · rw [e1]; exact hid hi.nums2
      have h3' := hid h3
      have hi' := hid hi
      have hbk2' := hid hbk2
      clear l1 h3 hi hbk2
      refine still_tail_at 11 (by kernel_rfl) (by kernel_rfl) w3 hw3 ?_
      clear hw3
      simp only [List.take_succ_cons, List.take_zero, List.drop_succ_cons, List.drop_zero]
      repeat still_step
      try refine wpStill_nil ?_
      refine wpList_put rfl (.tmp 25) (.tmp 27) (.tmp 29) 102 (.inl rfl) rfl 3 lawS Tryz.underlying102 rfl hm.out hl'.out (.string d.name) (.int .i64 d.n) (.string d.name.data.toList) rfl rfl (keyS hs'.out) trivial ?_
      intro w4 hput hg
      have hput' := hid hput
      have hg' := hid hg
      clear hput hg c0 c1 c2 c3 c4 c5 c6 hf q0 q1 q2
      go_wp2_with fail
      go_end0
      have hb := Touch.of_grown hg'.out
      have ho := hi'.out.ord
      have hbk3 := hbk2'.out
      have hsz3 := t3.out.size
      have ho2 := hord.out
      have hn' := Inner.num hi'.out hbk2'.out hd'.out hput'.out hg'.out
      rw [e.out]
      exact ⟨rfl, ((t3.out.to_below (by omega) (by omega)).trans (hb.to_below (by omega) (by omega))), _, rv, ⟨h3'.out.blk.touch hb (by omega), vs, rg, hn'⟩, fun _ => rfl⟩

end Go.Proofs.YteddkgpnklfppaaGreatDoor

namespace Go.Proofs.YteddkgpnklfppaaGreatDoor
open Go.RowKit Go.Sort Go.Maps

theorem brow_news {w : World} {g off n cap : Nat} {l : List Po.Box} (h : Row w (.slice (some ⟨g, off, none⟩) n cap) l.length 4 (boxesCells l)) : ∀ j u, (boxesCells l)[j]? = some u → w.cell? ((⟨g, off, none⟩ : Addr).add j) = some u := by
  rcases h.2 with ⟨hv, _⟩ | ⟨g', off', cap', hv, _, _, hc⟩
  · cases hv
  · cases hv
    intro j u hj
    rw [addr_add]
    exact hc j u hj
/-- what region's last step reads -/
def RgS (bd c br : Nat) (nm : ByteArray) (x : Value) (w : World) : Prop := w.cell? ⟨c, 1, none⟩ = some (.map (some br)) ∧ w.cell? ⟨bd, 1, none⟩ = some (.string nm) ∧ w.cell? ⟨bd, 3, none⟩ = some x
theorem RgS.of {w : World} {bo b1 b2 br c bd : Nat} {ahead : List Po.Decl} {k : Ru.Ck} {rv : Value} {d : Po.Decl} {x : Value} {t : TypeId} (h : Chk w bo b1 b2 br c ahead k rv) (hb : Blk w bd (declCells d x) t) :
    w.cell? ⟨c, 1, none⟩ = some (.map (some br)) ∧ w.cell? ⟨bd, 1, none⟩ = some (.string d.name) ∧ w.cell? ⟨bd, 3, none⟩ = some x := ⟨h.f.c1, hb.cell 1 rfl, hb.cell 3 rfl⟩

set_option maxRecDepth 100000 in
set_option maxHeartbeats 4000000 in
theorem cregion_any {w : World} {bo b1 b2 br c : Nat} {ahead : List Po.Decl} {k : Ru.Ck} {rv : Value} (h : Chk w bo b1 b2 br c ahead k rv) (h0 : k.f.1 = 0) (d : Po.Decl) (x : Value) (hk : d.kind = 3) (hs : d.name.size ≤ 140737488355328) (hl : ahead.length < maxLen)
    (hx : Row w x d.boxes.length 4 (boxesCells d.boxes)) (hbn : 0 < d.boxes.length) (hbs : d.boxes.length * 32 ≤ 140737488355328) :
    Calls Tryz.prog 68 #[.pointer (some ⟨c, 0, none⟩), .agg (declCells d x)] w (CkPost w bo b1 b2 br c ahead d (Ru.ckRegion ahead k d)) := by
  obtain ⟨i0, hinf, hz0, hz1, hz2⟩ := info_parts Tryz.infoRect
  rcases hx.2 with ⟨_, hn0⟩ | ⟨g, off, cap, rfl, hcap, hg, hcc⟩
  · omega
  clear hcc hcap hg
  have hz := balloc w (.cells (declCells d (.slice (some ⟨g, off, none⟩) d.boxes.length cap)) 83)
  have h1 := hid (h.ext hz)
  have t1 := hid (Touch.of_below (b := c) hz)
  have B0 := hid (Blk.new w (declCells d (.slice (some ⟨g, off, none⟩) d.boxes.length cap)) 83)
  have X1 := hid (hx.ext hz)
  obtain ⟨vs, rg, hi1⟩ := (h.ext hz).inn
  have l2 := hi1.lookR hs
  have hc := h.blk.lt
  have hne : w.heap.size ≠ c := by omega
  have hne' : c ≠ w.heap.size := by omega
  obtain ⟨c0, c1, c2, c3, c4, c5, c6, hf, hlt⟩ := h.f
  have hord := hid h.ord
  have y1 : (declCells d (.slice (some ⟨g, off, none⟩) d.boxes.length cap))[1]? = some (.string d.name) := rfl
  have y3 : (declCells d (.slice (some ⟨g, off, none⟩) d.boxes.length cap))[3]? = some (.slice (some ⟨g, off, none⟩) d.boxes.length cap) := rfl
  have hl' := hid hl
  have hk' := hid hk
  have hs' := hid hs
  have h0' := hid h0
  have hbn' := hid hbn
  have hbs' := hid hbs
  clear hz hl hk hs h0 hx hi1
  cases hd : Ru.declared ahead 3 d.name with
  | some d2 =>
    have e := hid (show Ru.ckRegion ahead k d = k.wrong 20 d.line d.col by unfold Ru.ckRegion; rw [hd]; rfl)
    rw [hd] at l2
    simp only [Option.isSome_some] at l2
    generalize lookRv ahead rg d.name = ln at *
    clear hd
    go_enter Tryz.func68, Tryz.ntmps68
    go_wp2_with fail
    go_quiet (fail)
    clear l2 c0 c1 c2 c3 c4 c5 c6 hf
    have h2 := hid (h1.out.drewN nq)
    have t2 := hid (t1.out.drewN nq)
    have B2 := hid (B0.out.drewN nq)
    go_wp2_with (first | (refine wpList_load_at rfl 31 (.tmp 28) rfl 29 rfl w.heap.size (22) (#[.int .i64 d.line, .int .i64 d.col]) (range_pos B2.out) rfl Tryz.underlying31 rfl (by kernel_rfl) ?_))
    refine (cwrong_any h2.out _ _ _).mono ?_
    rintro en w3 ⟨rfl, h3, t3⟩
    have h3' := hid h3
    have t3' := hid (t2.out.trans t3)
    clear h3 t3
    go_wp2_with fail
    go_end0
    exact CkPost.fault h3'.out t3'.out hord.out e.out (wrong_stop h0'.out (by decide) _ _)
  | none =>
    have hd' := hid hd
    rw [hd] at l2
    simp only [Option.isSome_none] at l2
    generalize lookRv ahead rg d.name = ln at *
    cases hbx : Ru.boxesR d.boxes with
    | false =>
      have e := hid (show Ru.ckRegion ahead k d = k.wrong 33 d.line d.col by unfold Ru.ckRegion; rw [hd, hbx]; rfl)
      clear hd
      go_enter Tryz.func68, Tryz.ntmps68
      go_wp2_with fail
      go_quiet (fail)
      clear l2 c0 c1 c2 c3 c4 c5 c6 hf
      have h2 := hid (h1.out.drewN nq)
      have t2 := hid (t1.out.drewN nq)
      have B2 := hid (B0.out.drewN nq)
      have X2 := hid (X1.out.ext (bdrewN (Below.refl _ _) nq))
      have hbl : d.boxes.length ≤ 140737488355328 := by omega
      go_wp2_with fail
      refine (boxes_any X2.out.b hbl).mono ?_
      rw [hbx]
      rintro en w4 ⟨rfl, hb4⟩
      have h4 := hid (h2.out.ext hb4)
      have t4 := hid (t2.out.below hb4)
      have B4 := hid (B2.out.ext hb4)
      clear hb4
      go_wp2_with (first | (refine wpList_load_at rfl 31 (.tmp 37) rfl 38 rfl w.heap.size (22) (#[.int .i64 d.line, .int .i64 d.col]) (range_pos B4.out) rfl Tryz.underlying31 rfl (by kernel_rfl) ?_))
      refine (cwrong_any h4.out _ _ _).mono ?_
      rintro en w3 ⟨rfl, h3, t3⟩
      have h3' := hid h3
      have t3' := hid (t4.out.trans t3)
      clear h3 t3
      go_wp2_with fail
      go_end0
      exact CkPost.fault h3'.out t3'.out hord.out e.out (wrong_stop h0'.out (by decide) _ _)
    | true =>
      have e := hid (show Ru.ckRegion ahead k d = k by unfold Ru.ckRegion; rw [hd, hbx]; rfl)
      clear hd
      go_enter Tryz.func68, Tryz.ntmps68
      go_wp2_with fail
      go_quiet (fail)
      clear l2 c0 c1 c2 c3 c4 c5 c6 hf
      have h2 := hid (h1.out.drewN nq)
      have t2 := hid (t1.out.drewN nq)
      have B2 := hid (B0.out.drewN nq)
      have X2 := hid (X1.out.ext (bdrewN (Below.refl _ _) nq))
      have hbl : d.boxes.length ≤ 140737488355328 := by omega
      go_wp2_with fail
      refine (boxes_any X2.out.b hbl).mono ?_
      rw [hbx]
      rintro en w4 ⟨rfl, hb4⟩
      have h4 := hid (h2.out.ext hb4)
      have t4 := hid (t2.out.below hb4)
      have B4 := hid (B2.out.ext hb4)
      have X4 := hid (X2.out.ext hb4)
      have S4 := RgS.of (h2.out.ext hb4) (B2.out.ext hb4)
      clear hb4 hbx
      have hlen : Hid ((boxesCells d.boxes).length = d.boxes.length * 4) := hid (boxesCells_len d.boxes)
      generalize hbg : d.boxes.length = bl at *
      have hbg' := hid hbg
      clear hbg
      go_wp2_with fail
      go_region_held3 (fun w' => w'.cell? ⟨c, 1, none⟩ = some (.map (some br)) ∧ w'.cell? ⟨w.heap.size, 1, none⟩ = some (.string d.name) ∧ w'.cell? ⟨w.heap.size, 3, none⟩ = some (.slice (some ⟨g, off, none⟩) bl cap)) (first | assumption | exact S4) (
        (refine step_append_lies _ rfl _ _ 54 rfl w4.drew.heap.size 27 i0 (.agg #[.int .i64 0, .int .i64 0, .int .i64 0, .int .i64 0]) 4 32 Tryz.underlying54 hinf hz0 hz1 hz2 rfl (by decide) _ _ _ rfl (World.ownsRow_nil _ _ _ 4) ⟨g, off, none⟩ bl cap (boxesCells d.boxes) rfl hlen.out (brow_news (by rw [hbg'.out]; exact X4.out.ext (Below.refl _ _).drew)) (boxesCells_one _) hbn'.out (by unfold maxLen; omega) (by omega) (Nat.le_refl _) _ rfl ?_
         intro g5 cap5 w5 hown5 hgrow hat5 hlt5
         simp only [Nat.zero_add] at hown5 hgrow ⊢
         have hn5 : Below w4.heap.size w4 w5 := (Below.refl w4.heap.size w4).drew.trans (below_of_grown hgrow)
         obtain ⟨vs5, rg5, hi5⟩ := (h4.out.ext hn5).inn
         obtain ⟨w6, hrun, hput, hg6⟩ := hi5.regs.put lawS Tryz.underlying104 hl'.out (val := .slice (some ⟨g5, 0, none⟩) bl cap5) (keyS hs'.out) trivial
         have S5 := RgS.of (h4.out.ext hn5) (B4.out.ext hn5)
         have ht6 := Touch.of_grown hg6
         have ho5 := hi5.ord
         have hb4 := B4.out.lt
         have ho := hord.out
         have S6 : w6.cell? ⟨c, 1, none⟩ = some (.map (some br)) ∧ w6.cell? ⟨w.heap.size, 1, none⟩ = some (.string d.name) ∧ w6.cell? ⟨w.heap.size, 3, none⟩ = some (.slice (some ⟨g, off, none⟩) bl cap) :=
           ⟨((h4.out.ext hn5).blk.touch ht6 (by omega)).cell 1 rfl, (Blk.touch (B4.out.ext hn5) ht6 (by omega)).cell 1 rfl, (Blk.touch (B4.out.ext hn5) ht6 (by omega)).cell 3 rfl⟩
         have hin := hid (Inner.reg hi5 hk'.out hd'.out (by rw [hbg'.out]; have hr := Row.of_owns hown5; rwa [List.nil_append] at hr) (by rw [hbg'.out]; exact hbs'.out) (fun b hb => by
           have h1 := (hown5.lt b hb).1
           have h2 : w4.drew.heap.size = w4.heap.size := rfl
           refine ⟨by omega, fun hb2 => ?_⟩
           obtain ⟨vs4, rg4, hi4⟩ := h4.out.inn
           have := (hi4.own.lt b hb2).2
           omega) hput hg6)
         have hfin := hid (show CkPost w bo b1 b2 br c ahead d (Ru.ckRegion ahead k d) (.returned (.tuple #[])) w6 from by
           rw [e.out]
           have hsz5 := hn5.size
           have hsz4 := t4.out.size
           exact ⟨rfl, ((t4.out.below hn5).to_below (by omega) (by omega)).trans (ht6.to_below (by omega) (by omega)), _, rv, ⟨(h4.out.ext hn5).blk.touch ht6 (by omega), vs5, _, hin.out⟩, fun _ => rfl⟩)
         clear hin hput hi5 hg6 ht6 ho5 hb4 ho hn5 hown5 hgrow hat5 hlt5))
      go_wp2_with fail
      go_end0
      exact hfin.out

end Go.Proofs.YteddkgpnklfppaaGreatDoor
