/- The walk of the checker's number. -/
import Derived.Test.YtelphkhacadfaaaRuK
import Derived.StillTailTactics
namespace Go.Proofs.Ytelphkhacadfaaa
open Go.RowKit Go.Sort Go.Maps

theorem range_pos {w : World} {b : Nat} {D : Po.Decl} {V : Value} {t : TypeId} (h : Blk w b (declCells D V) t) : w.rangeAt b 22 (#[.int .i64 D.line, .int .i64 D.col] : Array Value).toList := by
  intro j v hv
  have hj : j < 2 := by have := (List.getElem?_eq_some_iff.1 hv).1; exact this
  have : j = 0 ∨ j = 1 := by omega
  rcases this with rfl | rfl
  · exact h.cell 22 hv
  · exact h.cell 23 hv
theorem Chk.ord {w : World} {bo b1 b2 br c : Nat} {ahead : List Po.Decl} {k : Ru.Ck} {rv : Value} (h : Chk w bo b1 b2 br c ahead k rv) : bo < b1 ∧ b1 < b2 ∧ b2 < br ∧ br < c ∧ c < w.heap.size := by
  obtain ⟨vs, rg, hi⟩ := h.inn; exact hi.ord
theorem CkPost.fault {w w' : World} {bo b1 b2 br c : Nat} {ahead : List Po.Decl} {d : Po.Decl} {k k' : Ru.Ck} {rv : Value} (h : Chk w' bo b1 b2 br c ahead k' rv) (ht : Touch c w w') (ho : bo < b1 ∧ b1 < b2 ∧ b2 < br ∧ br < c ∧ c < w.heap.size) (he : k = k') (hf : k'.f.1 ≠ 0) :
    CkPost w bo b1 b2 br c ahead d k (.returned (.tuple #[])) w' :=
  ⟨rfl, ht.to_below (by omega) (by omega), ahead, rv, he ▸ h, fun h0 => absurd (he ▸ h0) hf⟩
theorem wrong_stop {k : Ru.Ck} (h0 : k.f.1 = 0) {e : Int} (he : e ≠ 0) (l p : Int) : (k.wrong e l p).f.1 ≠ 0 := by rw [Ru.wrong_f h0]; exact he

/-- a region that draws, whose head only reads and whose tail is in order: the world behind the draw under a name of its own -/
theorem still_tail_at {P : Program} {id : Nat} {Q : Exit → Act → World → Prop} {a : Act} {w : World} {l : List Oper} (n : Nat) (hm : P.follows .mixedOrders = true) (hB : Region.lexTailB .any l.toArray n = true) (w3 : World) (hw : w3 = w.drew)
    (h : wpStill P l.toArray w3 (fun a' => wpList P l.toArray Q (l.drop n) a' w3) (l.take n) a) : (Code.region id l.toArray true).wp P Q a w := wp_region_still_tail n hm hB (by subst hw; exact h)

set_option maxRecDepth 100000 in
set_option maxHeartbeats 2000000 in
theorem cnumber_any {w : World} {bo b1 b2 br c : Nat} {ahead : List Po.Decl} {k : Ru.Ck} {rv : Value} (h : Chk w bo b1 b2 br c ahead k rv) (h0 : k.f.1 = 0) (d : Po.Decl) (x : Value) (hk : d.kind = 1 ∨ d.kind = 2) (hs : d.name.size ≤ 140737488355328) (hl : ahead.length < maxLen) :
    Calls Try.prog 41 #[.pointer (some ⟨c, 0, none⟩), .agg (declCells d x)] w (CkPost w bo b1 b2 br c ahead d (Ru.ckNumber ahead k d)) := by
  have hz := balloc w (.cells (declCells d x) 60)
  have h1 := hid (h.ext hz)
  have t1 := hid (Touch.of_below (b := c) hz)
  have B0 := hid (Blk.new w (declCells d x) 60)
  obtain ⟨bk, hbk, l1, l2⟩ := (h.ext hz).look hk hs
  have hbk' := hid hbk
  have hc := h.blk.lt
  have hne : w.heap.size ≠ c := by omega
  have hne' : c ≠ w.heap.size := by omega
  obtain ⟨c0, c1, c2, c3, c4, c5, c6, hf, hlt⟩ := h.f
  have hord := hid h.ord
  have y0 : (declCells d x)[0]? = some (.int .i64 d.kind) := rfl
  have y1 : (declCells d x)[1]? = some (.string d.name) := rfl
  have y2 : (declCells d x)[2]? = some (.int .i64 d.n) := rfl
  have hl' := hid hl
  have hk' := hid hk
  have hs' := hid hs
  have h0' := hid h0
  clear hz hbk hl hk hs h0
  cases hd : Ru.declared ahead d.kind d.name with
  | some d2 =>
    have e := hid (show Ru.ckNumber ahead k d = k.wrong 20 d.line d.col by unfold Ru.ckNumber; rw [hd]; rfl)
    rw [hd] at l2
    simp only [Option.isSome_some] at l2
    generalize lookN ahead d.kind d.name = ln at *
    clear hd
    go_enter Try.func41, Try.ntmps41
    go_wp2_with fail
    go_quiet (fail)
    clear l1 l2 c0 c1 c2 c3 c4 c5 c6 hf
    have h2 := hid (h1.out.drewN nq)
    have t2 := hid (t1.out.drewN nq)
    have B2 := hid (B0.out.drewN nq)
    go_wp2_with (first | (refine wpList_load_at rfl 27 (.tmp 33) rfl 34 rfl w.heap.size (22) (#[.int .i64 d.line, .int .i64 d.col]) (range_pos B2.out) rfl Try.underlying27 rfl (by kernel_rfl) ?_))
    refine (cwrong_any h2.out _ _ _).mono ?_
    rintro en w3 ⟨rfl, h3, t3⟩
    have h3' := hid h3
    have t3' := hid (t2.out.trans t3)
    clear h3 t3
    go_wp2_with fail
    go_end0
    exact CkPost.fault h3'.out t3'.out hord.out e.out (wrong_stop h0'.out (by decide) _ _)
  | none =>
    have hd' := hid hd
    rw [hd] at l2
    simp only [Option.isSome_none] at l2
    have hln : lookN ahead d.kind d.name = 0 := by unfold lookN; rw [hd]
    rw [hln] at l2
    clear hln
    by_cases h7 : 7 < d.n
    · have e := hid (show Ru.ckNumber ahead k d = k.wrong 33 d.line d.col by unfold Ru.ckNumber; rw [hd]; simp [h7])
      clear hd
      go_enter Try.func41, Try.ntmps41
      go_wp2_with fail
      go_quiet (fail)
      clear l1 l2 c0 c1 c2 c3 c4 c5 c6 hf
      have h2 := hid (h1.out.drewN nq)
      have t2 := hid (t1.out.drewN nq)
      have B2 := hid (B0.out.drewN nq)
      go_wp2_with (first | (refine wpList_load_at rfl 27 (.tmp 41) rfl 42 rfl w.heap.size (22) (#[.int .i64 d.line, .int .i64 d.col]) (range_pos B2.out) rfl Try.underlying27 rfl (by kernel_rfl) ?_))
      refine (cwrong_any h2.out _ _ _).mono ?_
      rintro en w3 ⟨rfl, h3, t3⟩
      have h3' := hid h3
      have t3' := hid (t2.out.trans t3)
      clear h3 t3
      go_wp2_with fail
      go_end0
      exact CkPost.fault h3'.out t3'.out hord.out e.out (wrong_stop h0'.out (by decide) _ _)
    · have e := hid (show Ru.ckNumber ahead k d = k by unfold Ru.ckNumber; rw [hd]; simp [h7])
      clear hd
      go_enter Try.func41, Try.ntmps41
      go_wp2_with fail
      go_quiet (fail)
      have h2 := hid (h1.out.drewN nq)
      have t2 := hid (t1.out.drewN nq)
      have B2 := hid (B0.out.drewN nq)
      go_wp2_with fail
      clear l1 l2 c0 c1 c2 c3 c4 c5 c6 hf
      obtain ⟨w3, hw3⟩ : ∃ w3, w3 = ((w.alloc (.cells (declCells d x) 60)).drewN nq).drew := ⟨_, rfl⟩
      have h3 : Chk w3 bo b1 b2 br c ahead k rv := hw3 ▸ (h2.out.drewN 1)
      have t3 := hid (show Touch c w w3 from hw3 ▸ t2.out.drew)
      have B3 := hid (show Blk w3 w.heap.size (declCells d x) 60 from hw3 ▸ B2.out.drew)
      obtain ⟨vs, rg, hi⟩ := h3.inn
      obtain ⟨c0, c1, c2, c3, c4, c5, c6, hf, hlt3⟩ := h3.f
      have q0 : w3.cell? ⟨w.heap.size, 0, none⟩ = some (.int .i64 d.kind) := B3.out.cell 0 y0
      have q1 : w3.cell? ⟨w.heap.size, 1, none⟩ = some (.string d.name) := B3.out.cell 1 y1
      have q2 : w3.cell? ⟨w.heap.size, 2, none⟩ = some (.int .i64 d.n) := B3.out.cell 2 y2
      obtain ⟨bk', hbk2, l1, _⟩ := h3.look hk'.out hs'.out
      obtain rfl : bk' = bk := by have := hbk'.out; omega
      have l1' : Sem.run Try.prog (Instr.lookup 53 (.map (some bo)) (.int .i64 d.kind) false) w3 = .ok (.map (some bk')) w3 := l1 0
      have hm : Hid (KMap Try.prog 9 w3 bk' ahead.length (numF ahead d.kind)) := by
        rcases hbk2 with ⟨rfl, e1⟩ | ⟨rfl, e1⟩
        · rw [e1]; exact hid hi.nums1
        · rw [e1]; exact hid hi.nums2
      have h3' := hid h3
      have hi' := hid hi
      have hbk2' := hid hbk2
      clear l1 h3 hi hbk2
      refine still_tail_at 11 (by kernel_rfl) (by kernel_rfl) w3 hw3 ?_
      clear hw3
      simp only [List.take_succ_cons, List.take_zero, List.drop_succ_cons, List.drop_zero]
      repeat still_step
      try refine wpStill_nil ?_
      refine wpList_put rfl (.tmp 25) (.tmp 27) (.tmp 29) 52 (.inl rfl) rfl 3 lawS Try.underlying52 rfl hm.out hl'.out (.string d.name) (.int .i64 d.n) (.string d.name.data.toList) rfl rfl (keyS hs'.out) trivial ?_
      intro w4 hput hg
      have hput' := hid hput
      have hg' := hid hg
      clear hput hg c0 c1 c2 c3 c4 c5 c6 hf q0 q1 q2
      go_wp2_with fail
      go_end0
      have hb := Touch.of_grown hg'.out
      have ho := hi'.out.ord
      have hbk3 := hbk2'.out
      have hsz3 := t3.out.size
      have ho2 := hord.out
      have hn' := Inner.num hi'.out hbk2'.out hd'.out hput'.out hg'.out
      rw [e.out]
      exact ⟨rfl, ((t3.out.to_below (by omega) (by omega)).trans (hb.to_below (by omega) (by omega))), _, rv, ⟨h3'.out.blk.touch hb (by omega), vs, rg, hn'⟩, fun _ => rfl⟩

end Go.Proofs.Ytelphkhacadfaaa
