/- The walks of the checker's set and where. -/
import Derived.Test.YtelphkhacadfaaaRuH
namespace Go.Proofs.Ytelphkhacadfaaa
open Go.RowKit Go.Sort Go.Maps

theorem zeroMap (w : World) : (zeroValue 52).run Try.prog w = .ok (.map none) w := by kernel_rfl
theorem zeroInt (w : World) : (zeroValue 3).run Try.prog w = .ok (.int .i64 0) w := by kernel_rfl
theorem zeroRects (w : World) : (zeroValue 34).run Try.prog w = .ok (.slice none 0 0) w := by kernel_rfl
theorem lawI : Keyed Try.prog 3 := int_keyed Try.underlying3
theorem lawS : Keyed Try.prog 9 := string_keyed Try.underlying9
theorem keyI {x : Int} (hx : x = 1 ∨ x = 2) : keyOf Try.prog 3 (.int .i64 x) = some (.int .i64 x) := by
  rcases hx with rfl | rfl
  · exact keyOf_int_mk Try.underlying3 (by decide)
  · exact keyOf_int_mk Try.underlying3 (by decide)
theorem keyS {s : ByteArray} (hs : s.size ≤ 140737488355328) : keyOf Try.prog 9 (.string s) = some (.string s.data.toList) := Go.WideMaps.keyOf_string_mk Try.underlying9 (by unfold maxLen; omega)
theorem byt (s : ByteArray) : (⟨s.data.toList.toArray⟩ : ByteArray) = s := by cases s; simp

theorem Chk.drewN {w : World} {bo b1 b2 br c : Nat} {ahead : List Po.Decl} {k : Ru.Ck} {rv : Value} (h : Chk w bo b1 b2 br c ahead k rv) (n : Nat) : Chk (w.drewN n) bo b1 b2 br c ahead k rv := h.ext (bdrewN (Below.refl _ _) n)
/-- a number's name looked up -/
def lookN (ahead : List Po.Decl) (k : Int) (s : ByteArray) : Int := match Ru.declared ahead k s with | some d => d.n | none => 0
theorem Chk.look {w : World} {bo b1 b2 br c : Nat} {ahead : List Po.Decl} {k : Ru.Ck} {rv : Value} (h : Chk w bo b1 b2 br c ahead k rv) {kd : Int} (hk : kd = 1 ∨ kd = 2) {s : ByteArray} (hs : s.size ≤ 140737488355328) :
    ∃ bk, (bk = b1 ∧ kd = 1 ∨ bk = b2 ∧ kd = 2) ∧ (∀ n, Sem.run Try.prog (Instr.lookup 53 (.map (some bo)) (.int .i64 kd) false) (w.drewN n) = .ok (.map (some bk)) (w.drewN n)) ∧
      ∀ n, Sem.run Try.prog (Instr.lookup 52 (.map (some bk)) (.string s) true) (w.drewN n) = .ok (.tuple #[.int .i64 (lookN ahead kd s), .bool (Ru.declared ahead kd s).isSome]) (w.drewN n) := by
  obtain ⟨vs, rg, hi⟩ := h.inn
  have ho := fun n => (hi.outer.drewN n).look1 lawI Try.underlying53 (zeroMap _) (keyI hk) trivial
  have key : ∀ bk, KMap Try.prog 9 w bk ahead.length (numF ahead kd) → ∀ n, Sem.run Try.prog (Instr.lookup 52 (.map (some bk)) (.string s) true) (w.drewN n) = .ok (.tuple #[.int .i64 (lookN ahead kd s), .bool (Ru.declared ahead kd s).isSome]) (w.drewN n) := by
    intro bk hm n
    have := (hm.drewN n).look lawS Try.underlying52 (zeroInt _) (keyS hs) trivial
    rw [this]
    unfold numF lookN
    simp only [byt]
    cases Ru.declared ahead kd s <;> simp
  rcases hk with rfl | rfl
  · exact ⟨b1, .inl ⟨rfl, rfl⟩, ho, key b1 hi.nums1⟩
  · exact ⟨b2, .inr ⟨rfl, rfl⟩, ho, key b2 hi.nums2⟩
theorem shl_ok {n : Int} (h0 : 0 ≤ n) (h7 : n ≤ 7) : wrap64 (2 ^ n.toNat) = 2 ^ n.toNat := by
  have : n = 0 ∨ n = 1 ∨ n = 2 ∨ n = 3 ∨ n = 4 ∨ n = 5 ∨ n = 6 ∨ n = 7 := by omega
  rcases this with rfl | rfl | rfl | rfl | rfl | rfl | rfl | rfl <;> decide +kernel

set_option maxHeartbeats 2000000 in
theorem cset_any {w : World} {bo b1 b2 br c : Nat} {ahead : List Po.Decl} {k : Ru.Ck} {rv : Value} (h : Chk w bo b1 b2 br c ahead k rv) {kd : Int} (hk : kd = 1 ∨ kd = 2) (x : Po.Who) (hs : x.name.size ≤ 140737488355328) (hp : x.any = false → 0 ≤ Ru.whoN ahead kd x) :
    Calls Try.prog 66 #[.pointer (some ⟨c, 0, none⟩), .int .i64 kd, .agg (whoArr x)] w fun en w' => en = .returned (.int .i64 (Ru.setN ahead kd x)) ∧ Chk w' bo b1 b2 br c ahead (k.wrongIf (Ru.setE ahead kd x) x.line x.col) rv ∧ Touch c w w' := by
  have hz := balloc w (.cells (whoArr x) 58)
  have h1 := hid (h.ext hz)
  have t1 := hid (Touch.of_below (b := c) hz)
  have B0 := hid (Blk.new w (whoArr x) 58)
  obtain ⟨bk, _, l1, l2⟩ := (h.ext hz).look hk hs
  have hc := h.blk.lt
  have hne : w.heap.size ≠ c := by omega
  have hN := hid (show Ru.setN ahead kd x = _ from rfl)
  have hE := hid (show Ru.setE ahead kd x = _ from rfl)
  unfold Ru.setN at hN
  unfold Ru.setE at hE
  clear hz
  cases ha : x.any with
  | true =>
    rw [ha] at hN hE
    obtain ⟨any, name, n, line, col⟩ := x
    simp only at ha
    subst ha
    unfold whoArr at *
    simp only at h1 t1 B0 ⊢
    clear l1 l2
    go_enter Try.func66, Try.ntmps66
    go_wp2_with fail
    go_ret
    refine ⟨ret_int (by unfold Ru.setN; simp), ?_, t1.out⟩
    unfold Ru.setE
    simp only [if_true, Ru.wrongIf_zero]
    exact h1.out
  | false =>
    have hp0 := hp ha
    by_cases hem : x.name.data.toList = []
    · have hw : Ru.whoN ahead kd x = x.n := by unfold Ru.whoN; rw [if_pos hem]
      rw [hw] at hp0
      have hem' : x.name.toList = [] := by rw [ByteArray.toList_eq]; exact hem
      by_cases h7 : 7 < x.n
      · have eN := hid (show Ru.setN ahead kd x = 0 by unfold Ru.setN; rw [ha, hw, if_neg (by decide), if_pos h7])
        have eE := hid (show Ru.setE ahead kd x = 33 by unfold Ru.setE; rw [ha, hw, if_neg (by decide), if_neg (fun h => h.1 hem), if_pos h7])
        obtain ⟨any, name, n, line, col⟩ := x
        simp only at ha hem' h7 hp0
        subst ha
        unfold whoArr at *
        simp only at h1 t1 B0 ⊢
        clear l1 l2 hN hE hw hp hem
        go_enter Try.func66, Try.ntmps66
        go_wp2_with fail
        refine (cwrong_any h1.out _ _ _).mono ?_
        rintro en w2 ⟨rfl, h2, t2⟩
        have h2' := hid h2
        have t2' := hid (t1.out.trans t2)
        clear h2 t2
        go_wp2_with fail
        go_ret
        rw [eN.out, eE.out]
        exact ⟨rfl, by unfold Ru.Ck.wrongIf; rw [if_neg (by decide)]; exact h2'.out, t2'.out⟩
      · have eN := hid (show Ru.setN ahead kd x = 2 ^ x.n.toNat by unfold Ru.setN; rw [ha, hw, if_neg (by decide), if_neg h7])
        have eE := hid (show Ru.setE ahead kd x = 0 by unfold Ru.setE; rw [ha, hw, if_neg (by decide), if_neg (fun h => h.1 hem), if_neg h7])
        have h7' : x.n ≤ 7 := by omega
        obtain ⟨any, name, n, line, col⟩ := x
        simp only at ha hem' h7 hp0 h7' eN
        subst ha
        unfold whoArr at *
        simp only at h1 t1 B0 ⊢
        clear l1 l2 hN hE hw hp hem
        go_enter Try.func66, Try.ntmps66
        go_wp2_with fail
        go_ret
        rw [eN.out, eE.out, Ru.wrongIf_zero]
        exact ⟨ret_int (shl_ok hp0 h7'), h1.out, t1.out⟩
    · have hem' : ¬ x.name.toList = [] := by rw [ByteArray.toList_eq]; exact hem
      have hem2 : (x.name.toList == []) = false := beq_eq_false_iff_ne.2 hem'
      have hw : Ru.whoN ahead kd x = lookN ahead kd x.name := by unfold Ru.whoN lookN; rw [if_neg hem]; cases Ru.declared ahead kd x.name <;> rfl
      cases hd : Ru.declared ahead kd x.name with
      | none =>
        have hl0 : lookN ahead kd x.name = 0 := by unfold lookN; rw [hd]
        have eN := hid (show Ru.setN ahead kd x = 1 by unfold Ru.setN; rw [ha, hw, hl0, if_neg (by decide), if_neg (by decide)]; rfl)
        have eE := hid (show Ru.setE ahead kd x = 21 by unfold Ru.setE; rw [ha, if_neg (by decide), if_pos ⟨hem, hd⟩])
        rw [hl0, hd] at l2
        obtain ⟨any, name, n, line, col⟩ := x
        simp only at ha hem' hem2 l2
        subst ha
        unfold whoArr at *
        simp only at h1 t1 B0 l1 l2 ⊢
        simp only [Option.isSome_none] at l2
        clear hN hE hw hp hem hp0 hl0 hd
        obtain ⟨c0, c1, c2, c3, c4, c5, c6, hf, hlt⟩ := h.f
        have hne' : c ≠ w.heap.size := by omega
        go_enter Try.func66, Try.ntmps66
        go_wp2_with fail
        go_quiet (fail)
        clear l1 l2 c0 c1 c2 c3 c4 c5 c6 hf
        have h2 := hid (h1.out.drewN nq)
        have t2 := hid (t1.out.drewN nq)
        have B2 := hid (B0.out.drewN nq)
        go_wp2_with fail
        refine (cwrong_any h2.out _ _ _).mono ?_
        rintro en w3 ⟨rfl, h3, t3⟩
        have h3' := hid h3
        have t3' := hid (t2.out.trans t3)
        clear h3 t3
        go_wp2_with fail
        go_ret
        rw [eN.out, eE.out]
        exact ⟨ret_int (by decide), by unfold Ru.Ck.wrongIf; rw [if_neg (by decide)]; exact h3'.out, t3'.out⟩
      | some d =>
        have hl0 : lookN ahead kd x.name = d.n := by unfold lookN; rw [hd]
        rw [hw, hl0] at hp0
        rw [hl0, hd] at l2
        obtain ⟨c0, c1, c2, c3, c4, c5, c6, hf, hlt⟩ := h.f
        have hne' : c ≠ w.heap.size := by omega
        by_cases h7 : 7 < d.n
        · have eN := hid (show Ru.setN ahead kd x = 0 by unfold Ru.setN; rw [ha, hw, hl0, if_neg (by decide), if_pos h7])
          have eE := hid (show Ru.setE ahead kd x = 33 by unfold Ru.setE; rw [ha, hw, hl0, if_neg (by decide), if_neg (fun h => by rw [hd] at h; cases h.2), if_pos h7])
          obtain ⟨any, name, n, line, col⟩ := x
          simp only at ha hem' hem2 l2
          subst ha
          unfold whoArr at *
          simp only at h1 t1 B0 l1 l2 ⊢
          simp only [Option.isSome_some] at l2
          clear hN hE hw hp hem hl0 hd
          generalize d.n = dn at *
          go_enter Try.func66, Try.ntmps66
          go_wp2_with fail
          go_quiet (fail)
          clear l1 l2 c0 c1 c2 c3 c4 c5 c6 hf
          have h2 := hid (h1.out.drewN nq)
          have t2 := hid (t1.out.drewN nq)
          go_wp2_with fail
          refine (cwrong_any h2.out _ _ _).mono ?_
          rintro en w3 ⟨rfl, h3, t3⟩
          have h3' := hid h3
          have t3' := hid (t2.out.trans t3)
          clear h3 t3
          go_wp2_with fail
          go_ret
          rw [eN.out, eE.out]
          exact ⟨rfl, by unfold Ru.Ck.wrongIf; rw [if_neg (by decide)]; exact h3'.out, t3'.out⟩
        · have eN := hid (show Ru.setN ahead kd x = 2 ^ d.n.toNat by unfold Ru.setN; rw [ha, hw, hl0, if_neg (by decide), if_neg h7])
          have eE := hid (show Ru.setE ahead kd x = 0 by unfold Ru.setE; rw [ha, hw, hl0, if_neg (by decide), if_neg (fun h => by rw [hd] at h; cases h.2), if_neg h7])
          have h7' : d.n ≤ 7 := by omega
          obtain ⟨any, name, n, line, col⟩ := x
          simp only at ha hem' hem2 l2
          subst ha
          unfold whoArr at *
          simp only at h1 t1 B0 l1 l2 ⊢
          simp only [Option.isSome_some] at l2
          clear hN hE hw hp hem hl0 hd
          generalize d.n = dn at *
          go_enter Try.func66, Try.ntmps66
          go_wp2_with fail
          go_quiet (fail)
          clear l1 l2 c0 c1 c2 c3 c4 c5 c6 hf
          have h2 := hid (h1.out.drewN nq)
          have t2 := hid (t1.out.drewN nq)
          go_wp2_with fail
          go_ret
          rw [eN.out, eE.out, Ru.wrongIf_zero]
          exact ⟨ret_int (shl_ok hp0 h7'), h2.out, t2.out⟩

end Go.Proofs.Ytelphkhacadfaaa
