/- The walk of the checker's where. -/
import Derived.Test.YtelphkhacadfaaaRuI
namespace Go.Proofs.Ytelphkhacadfaaa
open Go.RowKit Go.Sort Go.Maps

theorem Touch.of_grown {w w' : World} {b : Nat} (h : w.grownBy w' (some b)) : Touch b w w' := ⟨h.os, h.tape, h.output, h.size, fun k hk hn => h.block k hk (by simpa using hn)⟩
theorem below_of_grown {w w' : World} (h : w.grownBy w' none) : Below w.heap.size w w' := ⟨h.os, h.tape, h.output, h.size, fun i hi => h.block i hi (by simp)⟩
theorem boxesCells_one (l : List Po.Box) : ∀ u ∈ boxesCells l, u.oneCell' = true := by
  intro u hu
  obtain ⟨b, _, hb⟩ := List.mem_flatMap.1 hu
  exact boxCells_one b u hb
theorem boxesCells_len (l : List Po.Box) : (boxesCells l).length = l.length * 4 := by
  induction l with
  | nil => rfl
  | cons b l ih =>
    have e : boxesCells (b :: l) = boxCells b ++ boxesCells l := rfl
    rw [e, List.length_append, ih, List.length_cons]
    show 4 + l.length * 4 = _
    omega
theorem addr_add (g off j : Nat) : (⟨g, off, none⟩ : Addr).add j = ⟨g, off + j, none⟩ := by unfold Addr.add; split <;> simp_all
/-- the cells of a row that lies in memory -/
theorem Row.news {w : World} {g off n cap size : Nat} {xs : List Value} (h : Row w (.slice (some ⟨g, off, none⟩) n cap) n size xs) : ∀ j u, xs[j]? = some u → w.cell? ((⟨g, off, none⟩ : Addr).add j) = some u := by
  rcases h.2 with ⟨hv, _⟩ | ⟨g', off', cap', hv, _, _, hc⟩
  · cases hv
  · cases hv
    intro j u hj
    rw [addr_add]
    exact hc j u hj
/-- a region looked up -/
def lookRv (ahead : List Po.Decl) (rg : ByteArray → Value) (s : ByteArray) : Value := match Ru.declared ahead 3 s with | some _ => rg s | none => .slice none 0 0
theorem Inner.lookR {w : World} {bo b1 b2 br c : Nat} {ahead : List Po.Decl} {rules : List Ru.Rule} {rv : Value} {vs : List Value} {rg : ByteArray → Value} (h : Inner w bo b1 b2 br c ahead rules rv vs rg) {s : ByteArray} (hs : s.size ≤ 140737488355328) :
    ∀ n, Sem.run Try.prog (Instr.lookup 54 (.map (some br)) (.string s) true) (w.drewN n) = .ok (.tuple #[lookRv ahead rg s, .bool (Ru.declared ahead 3 s).isSome]) (w.drewN n) := by
  intro n
  have := (h.regs.drewN n).look lawS Try.underlying54 (zeroRects _) (keyS hs) trivial
  rw [this]
  unfold regF lookRv
  simp only [byt]
  cases Ru.declared ahead 3 s <;> simp

/-- what 'where' leaves -/
def WherePost (w : World) (bo b1 b2 br c : Nat) (ahead : List Po.Decl) (k : Ru.Ck) (rv : Value) (x : Po.Who) (en : Ending) (w' : World) : Prop :=
  ∃ v, en = .returned v ∧ Row w' v (Ru.whereB ahead x).length 4 (boxesCells (Ru.whereB ahead x)) ∧ (Ru.whereB ahead x).length * 32 ≤ 140737488355328 ∧ (∀ b, v.ownBlock = some b → w.heap.size ≤ b) ∧
    Chk w' bo b1 b2 br c ahead (k.wrongIf (Ru.whereE ahead x) x.line x.col) rv ∧ Touch c w w'

set_option maxHeartbeats 2000000 in
theorem cwhere_any {w : World} {bo b1 b2 br c : Nat} {ahead : List Po.Decl} {k : Ru.Ck} {rv : Value} (h : Chk w bo b1 b2 br c ahead k rv) (x : Po.Who) (hs : x.name.size ≤ 140737488355328) :
    Calls Try.prog 67 #[.pointer (some ⟨c, 0, none⟩), .agg (whoArr x)] w (WherePost w bo b1 b2 br c ahead k rv x) := by
  obtain ⟨i0, hinf, hz0, hz1, hz2⟩ := info_parts Try.infoRect
  have hz := balloc w (.cells (whoArr x) 58)
  have h1 := hid (h.ext hz)
  have t1 := hid (Touch.of_below (b := c) hz)
  have B0 := hid (Blk.new w (whoArr x) 58)
  have hc := h.blk.lt
  have hne : w.heap.size ≠ c := by omega
  have hwb : Hid (Ru.whereB ahead x = _) := hid rfl
  have hwe : Hid (Ru.whereE ahead x = _) := hid rfl
  cases ha : x.any with
  | true =>
    have eB := hid (show Ru.whereB ahead x = [Ru.grid] by unfold Ru.whereB; rw [ha]; rfl)
    have eE := hid (show Ru.whereE ahead x = 0 by unfold Ru.whereE; rw [ha]; rfl)
    obtain ⟨any, name, n, line, col⟩ := x
    simp only at ha
    subst ha
    unfold whoArr at *
    simp only at h1 t1 B0 ⊢
    clear hz hwb hwe
    go_enter Try.func67, Try.ntmps67
    go_wp2_with fail
    refine (grid_any _).mono ?_
    rintro en w2 ⟨rfl, hb2⟩
    have h2 := hid (h1.out.ext hb2)
    have t2 := hid (t1.out.below hb2)
    have hz2' := balloc w2 (.cells (boxCells Ru.grid).toArray 69)
    have h3 := hid (h2.out.ext hz2')
    have t3 := hid (t2.out.below hz2')
    have hsz2 := t2.out.size
    have o3 := hid (World.ownsRow_lit (base := w.heap.size) (size := 4) (e := 69) w2 (boxCells Ru.grid).toArray 1 hsz2 (by decide) rfl)
    clear hb2 hz2'
    unfold pboxV
    go_wp2_with fail
    go_ret
    refine ⟨_, rfl, ?_, ?_, fun b hb => (o3.out.lt b hb).1, ?_, t3.out⟩
    · rw [eB.out, show boxesCells [Ru.grid] = boxCells Ru.grid from by simp [boxesCells]]
      exact Row.of_owns o3.out
    · rw [eB.out]; decide
    · rw [eE.out, Ru.wrongIf_zero]; exact h3.out
  | false =>
    obtain ⟨vs, rg, hi⟩ := (h.ext hz).inn
    have l2 := hi.lookR hs
    have hrows := hi.rows x.name
    clear hi hz
    obtain ⟨c0, c1, c2, c3, c4, c5, c6, hf, hlt⟩ := h.f
    have hne' : c ≠ w.heap.size := by omega
    cases hd : Ru.declared ahead 3 x.name with
    | none =>
      have eB := hid (show Ru.whereB ahead x = [] by unfold Ru.whereB; rw [ha, hd]; rfl)
      have eE := hid (show Ru.whereE ahead x = 21 by unfold Ru.whereE; rw [ha, hd]; rfl)
      have hl0 : lookRv ahead rg x.name = .slice none 0 0 := by unfold lookRv; rw [hd]
      rw [hl0, hd] at l2
      obtain ⟨any, name, n, line, col⟩ := x
      simp only at ha l2
      subst ha
      unfold whoArr at *
      simp only at h1 t1 B0 l2 ⊢
      simp only [Option.isSome_none] at l2
      clear hwb hwe hrows hl0 hd
      go_enter Try.func67, Try.ntmps67
      go_wp2_with fail
      go_quiet (fail)
      clear l2 c0 c1 c2 c3 c4 c5 c6 hf
      have h2 := hid (h1.out.drewN nq)
      have t2 := hid (t1.out.drewN nq)
      have B2 := hid (B0.out.drewN nq)
      go_wp2_with fail
      refine (cwrong_any h2.out _ _ _).mono ?_
      rintro en w3 ⟨rfl, h3, t3⟩
      have h3' := hid h3
      have t3' := hid (t2.out.trans t3)
      clear h3 t3
      go_wp2_with fail
      go_ret
      refine ⟨_, rfl, ?_, ?_, fun b hb => by simp [Value.ownBlock] at hb, ?_, t3'.out⟩
      · rw [eB.out]; exact Row.nil _ 4
      · rw [eB.out]; decide
      · rw [eE.out]; unfold Ru.Ck.wrongIf; rw [if_neg (by decide)]; exact h3'.out
    | some d =>
      have eB := hid (show Ru.whereB ahead x = d.boxes by unfold Ru.whereB; rw [ha, hd]; rfl)
      have eE := hid (show Ru.whereE ahead x = 0 by unfold Ru.whereE; rw [ha, hd]; rfl)
      obtain ⟨r1, r2, r3⟩ := hrows d hd
      have hl0 : lookRv ahead rg x.name = rg x.name := by unfold lookRv; rw [hd]
      rw [hl0, hd] at l2
      have r1' := hid r1
      have r2' := hid r2
      have hlen : (boxesCells d.boxes).length = d.boxes.length * 4 := boxesCells_len d.boxes
      generalize rg x.name = rv1 at *
      clear hrows r3 hl0 hd hwb hwe
      rcases r1.2 with ⟨hv, hn0⟩ | ⟨g, off, cap, hv, hcap, hg, hcc⟩
      · have hb0 : d.boxes = [] := List.eq_nil_of_length_eq_zero hn0
        rw [hb0] at eB
        clear hn0 hb0 hlen
        subst hv
        clear r1
        obtain ⟨any, name, n, line, col⟩ := x
        simp only at ha l2
        subst ha
        unfold whoArr at *
        simp only at h1 t1 B0 l2 ⊢
        simp only [Option.isSome_some] at l2
        go_enter Try.func67, Try.ntmps67
        go_wp2_with fail
        go_quiet (fail)
        clear l2 c0 c1 c2 c3 c4 c5 c6 hf
        have h2 := hid (h1.out.drewN nq)
        have t2 := hid (t1.out.drewN nq)
        go_wp2_with fail
        go_ret
        refine ⟨_, rfl, ?_, ?_, fun b hb => by simp [Value.ownBlock] at hb, ?_, t2.out⟩
        · rw [eB.out]; exact Row.nil _ 4
        · rw [eB.out]; decide
        · rw [eE.out, Ru.wrongIf_zero]; exact h2.out
      · clear hcc hcap hg
        subst hv
        clear r1
        obtain ⟨any, name, n, line, col⟩ := x
        simp only at ha l2
        subst ha
        unfold whoArr at *
        simp only at h1 t1 B0 l2 ⊢
        simp only [Option.isSome_some] at l2
        have r2'' : d.boxes.length * 32 ≤ 140737488355328 := r2'.out
        clear r2
        generalize hbl : d.boxes.length = bl at *
        have hbl' := hid hbl
        clear hbl
        go_enter Try.func67, Try.ntmps67
        go_wp2_with fail
        go_quiet (fail)
        clear l2 c0 c1 c2 c3 c4 c5 c6 hf
        have h2 := hid (h1.out.drewN nq)
        have t2 := hid (t1.out.drewN nq)
        have hR := hid (r1'.out.ext (bdrewN (Below.refl _ _) nq))
        have hsz := t2.out.size
        have hnews := hid hR.out.news
        have hnil := hid (World.ownsRow_nil ((w.alloc (.cells #[.bool false, .string name, .int .i64 n, .int .i64 line, .int .i64 col] 58)).drewN nq) w.heap.size 69 4)
        have hl4 := hid hlen
        clear hlen
        go_wp2_with (first | (at_builtin; refine wpList_append_own _ rfl _ _ 34 rfl w.heap.size 69 i0 (.agg #[.int .i64 0, .int .i64 0, .int .i64 0, .int .i64 0]) 4 32 Try.underlying34 hinf hz0 hz1 hz2 rfl (by decide) _ _ _ rfl hnil.out ⟨g, off, none⟩ bl cap (boxesCells d.boxes) rfl hl4.out hnews.out (boxesCells_one _) (by unfold maxLen; omega) (by omega) hsz ?_; intro v' w5 hown5 hgrow _))
        go_ret
        have hg5 := below_of_grown hgrow
        refine ⟨_, rfl, ?_, ?_, fun b hb => (hown5.lt b hb).1, ?_, t2.out.below hg5⟩
        · rw [eB.out, hbl'.out]
          have := Row.of_owns hown5
          rwa [Nat.zero_add, List.nil_append] at this
        · rw [eB.out, hbl'.out]; exact r2''
        · rw [eE.out, Ru.wrongIf_zero]
          exact h2.out.ext hg5

end Go.Proofs.Ytelphkhacadfaaa
