/- The walks of rules: boxes, right, Right, For, has. -/
import Derived.Test.YtelphkhacadfaaaRuA
import Derived.Test.YtelphkhacadfaaaRow
import Derived.Test.YtelphkhacadfaaaRuPlain
namespace Go.Proofs.Ytelphkhacadfaaa
open Go.RowKit Go.Sort

def boxArr (x : Po.Box) : Array Value := #[.int .i64 x.x0, .int .i64 x.y0, .int .i64 x.x1, .int .i64 x.y1]
theorem pboxV_eq (x : Po.Box) : pboxV x = .agg (boxArr x) := rfl
/-- boxes in memory, as they may come in: of none it does not matter where they lie -/
def BRow (w : World) (v : Value) (l : List Po.Box) : Prop := (∃ p c, v = .slice p 0 c ∧ l = []) ∨ Row w v l.length 4 (boxesCells l)
theorem Row.b {w : World} {v : Value} {l : List Po.Box} (h : Row w v l.length 4 (boxesCells l)) : BRow w v l := .inr h
theorem BRow.ext {w w' : World} {v : Value} {l : List Po.Box} (h : BRow w v l) (hb : Below w.heap.size w w') : BRow w' v l := h.imp id (fun r => r.ext hb)
theorem BRow.shape {w : World} {v : Value} {l : List Po.Box} (h : BRow w v l) : ∃ p c, v = .slice p l.length c := by
  rcases h with ⟨p, c, rfl, rfl⟩ | h
  · exact ⟨p, c, rfl⟩
  · exact row_shape h
theorem BRow.one {w : World} {v : Value} {l : List Po.Box} (h : BRow w v l) : v.oneCell' = true := by
  obtain ⟨p, c, rfl⟩ := h.shape; rfl
theorem BRow.pos {w : World} {v : Value} {l : List Po.Box} (h : BRow w v l) (hl : 0 < l.length) : Row w v l.length 4 (boxesCells l) := by
  rcases h with ⟨_, _, _, rfl⟩ | h
  · simp at hl
  · exact h
theorem brow_of {w : World} {v : Value} {l : List Po.Box} (h : BRow w v l) : (∃ p c, v = .slice p 0 c ∧ l = []) ∨ ∃ g off cap, v = .slice (some ⟨g, off, none⟩) l.length cap ∧ SRow w g off cap 4 boxArr l := by
  rcases h with h | h
  · exact .inl h
  · rcases srow_of (f := boxArr) (fun _ _ => rfl) (show Row w v l.length 4 (l.flatMap fun x => (boxArr x).toList) from h) with ⟨rfl, rfl⟩ | h
    · exact .inl ⟨none, 0, rfl, rfl⟩
    · exact .inr h
theorem boxArr_one (x : Po.Box) : (boxArr x).all (·.oneCell') = true := by unfold boxArr; rw [← Array.all_toList]; rfl
theorem all_take {α : Type} {p : α → Bool} {l : List α} {i : Nat} (hi : i < l.length) (h : (l.take i).all p = true) (hp : p l[i] = true) : (l.take (i + 1)).all p = true := by
  rw [List.take_succ_eq_append_getElem hi, List.all_append, h]; simp [hp]
theorem all_no {α : Type} {p : α → Bool} {l : List α} {i : Nat} (hi : i < l.length) (hp : p l[i] = false) : l.all p = false := by
  rw [List.all_eq_false]; exact ⟨_, List.getElem_mem hi, by simp [hp]⟩
theorem any_take {α : Type} {p : α → Bool} {l : List α} {i : Nat} (hi : i < l.length) (h : (l.take i).any p = false) (hp : p l[i] = false) : (l.take (i + 1)).any p = false := by
  rw [List.take_succ_eq_append_getElem hi, List.any_append, h]; simp [hp]
theorem any_yes {α : Type} {p : α → Bool} {l : List α} {i : Nat} (hi : i < l.length) (hp : p l[i] = true) : l.any p = true := by
  rw [List.any_eq_true]; exact ⟨_, List.getElem_mem hi, hp⟩

set_option maxHeartbeats 1000000 in
theorem boxes_any {w : World} {v : Value} {l : List Po.Box} (h : BRow w v l) (hn : l.length ≤ 140737488355328) :
    Calls Try.prog 49 #[v] w fun e w' => e = .returned (.bool (Ru.boxesR l)) ∧ Below w.heap.size w w' := by
  rcases brow_of h with ⟨p0, c0, rfl, rfl⟩ | ⟨g, off, cap, rfl, hr⟩
  · clear h
    go_enter Try.func49, Try.ntmps49
    go_wp2_with fail
    go_loop [7] (fun u => u = .int .i64 0) (fun _ => 0)
    case atStart => rfl
    case round =>
      subst hrel
      go_wp2_with fail
      go_ret
      exact ⟨rfl, Below.refl _ _⟩
  · have hr' := hid hr
    clear h hr
    go_enter Try.func49, Try.ntmps49
    go_wp2_with fail
    go_loopw [7] (fun u wr => ∃ i : Nat, u = .int .i64 i ∧ i ≤ l.length ∧ Below w.heap.size w wr ∧ (l.take i).all Ru.boxR = true) (fun u _ => l.length - (intOf u).toNat)
    case atStart => exact ⟨0, rfl, Nat.zero_le _, Below.refl _ _, rfl⟩
    case round =>
      obtain ⟨i, rfl, hle, hQ, hall⟩ := hrel
      have hQ' := hid hQ
      have hall' := hid hall
      clear hQ hall
      by_cases hlt : i < l.length
      · have hs := hid ((hr'.out.ext hQ'.out).get i hlt)
        have hyes := hid (fun h => all_take hlt hall'.out h)
        have hno := hid (fun h => all_no (p := Ru.boxR) hlt h)
        have hb : Hid (∀ w, Calls Try.prog 71 #[.agg (boxArr l[i])] w fun e w' => e = .returned (.bool (Ru.boxR l[i])) ∧ Below w.heap.size w w') := hid (boxright_any l[i])
        generalize l[i] = x at *
        go_wp2_with (first | (refine wpList_load_at rfl 69 (.tmp 9) rfl 10 rfl g (off + i * 4) (boxArr x) (hs.out) rfl Try.underlying69 rfl (by kernel_rfl) ?_) | (refine wpList_store_new rfl 69 (.tmp 4) (.tmp 10) rfl rfl wr 69 _ (boxArr x) rfl rfl rfl (by kernel_rfl) rfl (boxArr_one x) ?_) | (refine wpList_load_blk rfl 69 (.tmp 4) rfl 11 rfl wr.heap.size 69 (boxArr x) (Blk.new wr _ _) rfl Try.underlying69 rfl (by kernel_rfl) ?_))
        refine (hb.out _).mono ?_
        rintro e w1 ⟨rfl, hb1⟩
        have Q1 := hid (bthen hQ'.out (bthen (balloc wr _) hb1))
        generalize Ru.boxR x = r at *
        cases r with
        | true =>
          have hy := hid (hyes.out rfl)
          go_wp2_with fail
          go_roundw
          case rel => exact ⟨i + 1, by go_num, by omega, Q1.out, hy.out⟩
          case measure => simp [intOf]; omega
        | false =>
          have hy := hid (hno.out rfl)
          go_wp2_with fail
          go_ret
          exact ⟨ret_bool hy.out.symm, Q1.out⟩
      · obtain rfl : i = l.length := by omega
        have hf := hid (show Ru.boxesR l = true by have h := hall'.out; rw [List.take_of_length_le (Nat.le_refl _)] at h; exact h)
        go_wp2_with fail
        go_ret
        exact ⟨ret_bool hf.out.symm, hQ'.out⟩

theorem Blk.seven {w : World} {b : Nat} {a0 a1 a2 a3 a4 a5 a6 : Value} {t : TypeId} (h : Blk w b #[a0, a1, a2, a3, a4, a5, a6] t) : w.cell? ⟨b, 0, none⟩ = some a0 ∧ w.cell? ⟨b, 1, none⟩ = some a1 ∧ w.cell? ⟨b, 2, none⟩ = some a2 ∧ w.cell? ⟨b, 3, none⟩ = some a3 ∧ w.cell? ⟨b, 4, none⟩ = some a4 ∧ w.cell? ⟨b, 5, none⟩ = some a5 ∧ w.cell? ⟨b, 6, none⟩ = some a6 ∧ (∀ o, w.frozen? ⟨b, o, none⟩ = false) ∧ b < w.heap.size :=
  ⟨h.cell 0 rfl, h.cell 1 rfl, h.cell 2 rfl, h.cell 3 rfl, h.cell 4 rfl, h.cell 5 rfl, h.cell 6 rfl, h.free, h.lt⟩
def ruleArr (r : Ru.Rule) (v : Value) : Array Value := #[.int .i64 r.kind, .int .i64 r.roles, .int .i64 r.lo, .int .i64 r.hi, .int .i64 r.labels, v, .int .i64 r.zoom]

set_option maxHeartbeats 2000000 in
theorem right_any {w : World} {v : Value} (r : Ru.Rule) (h : BRow w v r.boxes) (hn : r.boxes.length ≤ 140737488355328) :
    Calls Try.prog 30 #[.agg (ruleArr r v)] w fun e w' => e = .returned (.bool (Ru.ruleR r)) ∧ Below w.heap.size w w' := by
  obtain ⟨p, c, rfl⟩ := h.shape
  have hz := balloc w (.cells (ruleArr r (.slice p r.boxes.length c)) 36)
  have Q0 := hid hz
  have hbx := hid (boxes_any (h.ext hz) hn)
  have B0 := hid (Blk.new w (ruleArr r (.slice p r.boxes.length c)) 36)
  clear h hz
  unfold ruleArr at *
  by_cases h6 : r.kind = 6
  · have e := hid (show Ru.ruleR r = _ from by unfold Ru.ruleR; rw [if_pos h6])
    obtain ⟨kind, roles, lo, hi, labels, boxes, zoom⟩ := r
    simp only at h6 e hn hbx Q0 B0
    subst h6
    go_enter Try.func30, Try.ntmps30
    go_wp2_with (go_at_call 37; refine (small_any _ _ _).mono ?_; rintro e w' ⟨rfl, rfl⟩)
    all_goals
      go_ret
      rw [e.out]
      refine ⟨ret_bool ?_, balloc w _⟩
      clear hbx Q0 e hn B0
      simp_all
  · by_cases h4 : r.kind = 4 ∨ r.kind = 5
    · have e := hid (show Ru.ruleR r = _ from by unfold Ru.ruleR; rw [if_neg h6, if_pos h4])
      obtain ⟨kind, roles, lo, hi, labels, boxes, zoom⟩ := r
      simp only at h6 h4 e hn hbx Q0 B0
      have k6 : ((kind : Int) == 6) = false := beq_eq_false_iff_ne.2 h6
      clear h6
      rcases h4 with rfl | rfl
      all_goals
        go_enter Try.func30, Try.ntmps30
        go_wp2_with (first | (go_at_call 37; refine (small_any _ _ _).mono ?_; rintro e w' ⟨rfl, rfl⟩) | (go_at_call 49; refine hbx.out.mono ?_; rintro en w1 ⟨rfl, hb1⟩; have Q1 := hid (bthen Q0.out hb1); obtain ⟨x0, x1, x2, x3, x4, x5, x6, xf, xz⟩ := (B0.out.ext hb1).seven; clear hb1))
        all_goals
          go_ret
          rw [e.out]
          refine ⟨ret_bool ?_, by first | exact balloc w _ | exact Q1.out⟩
          clear hbx Q0 e hn B0
          try clear Q1 x0 x1 x2 x3 x4 x5 x6 xf xz
          first | (simp_all; done) | (simp_all; omega)
    · have e := hid (show Ru.ruleR r = false from by unfold Ru.ruleR; rw [if_neg h6, if_neg h4])
      have k6 : ((r.kind : Int) == 6) = false := beq_eq_false_iff_ne.2 h6
      have k4 : ((r.kind : Int) == 4) = false := beq_eq_false_iff_ne.2 (by omega)
      have k5 : ((r.kind : Int) == 5) = false := beq_eq_false_iff_ne.2 (by omega)
      clear h6 h4
      go_enter Try.func30, Try.ntmps30
      go_wp2_with fail
      go_ret
      exact ⟨ret_bool e.out.symm, Q0.out⟩

end Go.Proofs.Ytelphkhacadfaaa
