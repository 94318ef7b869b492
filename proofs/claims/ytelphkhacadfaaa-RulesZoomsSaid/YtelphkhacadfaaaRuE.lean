/- The walks of policy: what a declaration may be. -/
import Derived.Test.YtelphkhacadfaaaRuD
import Derived.Test.YtelphkhacadfaaaPolH
namespace Go.Proofs.Ytelphkhacadfaaa
open Go.RowKit Go.Sort

theorem numbers_row {g : Nat} {ns : List Int} {w : World} (h : ∀ (j : Nat) (hj : j < ns.length), w.cell? ⟨g, 0 + j, none⟩ = some (.int .i64 ns[j])) (hl : ns.length ≤ 4) (cp : Nat) (_hcp : ns.length ≤ cp) :
    Calls Try.prog 58 #[.slice (some ⟨g, 0, none⟩) ns.length cp] w fun e w' => e = .returned (.bool (ns.all Ru.num)) ∧ w = w' := by
  have h' := hid h
  clear h
  go_enter Try.func58, Try.ntmps58
  go_wp2_with fail
  go_loop [7] (fun u => ∃ i : Nat, u = .int .i64 i ∧ i ≤ ns.length ∧ (ns.take i).all Ru.num = true) (fun u => ns.length - (intOf u).toNat)
  case atStart => exact ⟨0, rfl, Nat.zero_le _, rfl⟩
  case round =>
    obtain ⟨i, rfl, hle, hall⟩ := hrel
    have hall' := hid hall
    clear hall
    by_cases hlt : i < ns.length
    · have hc := h'.out i hlt
      rw [Nat.zero_add] at hc
      have hyes := hid (fun h => all_take hlt hall'.out h)
      have hno := hid (fun h => all_no (p := Ru.num) hlt h)
      generalize ns[i] = n at *
      by_cases h0 : n < 0
      · have hy := hid (hno.out (by unfold Ru.num; simp; omega))
        go_wp2_with fail
        go_ret
        exact ⟨ret_bool hy.out.symm, rfl⟩
      · by_cases h1 : 65535 < n
        · have hy := hid (hno.out (by unfold Ru.num; simp; omega))
          go_wp2_with fail
          go_ret
          exact ⟨ret_bool hy.out.symm, rfl⟩
        · have hy := hid (hyes.out (by unfold Ru.num; simp; omega))
          go_wp2_with fail
          go_round
          case rel => exact ⟨i + 1, by go_num, by omega, hy.out⟩
          case measure => simp [intOf]; omega
    · obtain rfl : i = ns.length := by omega
      have hf := hid (show ns.all Ru.num = true by have h := hall'.out; rwa [List.take_of_length_le (Nat.le_refl _)] at h)
      go_wp2_with fail
      go_ret
      exact ⟨ret_bool hf.out.symm, rfl⟩

theorem numbers1_any (a : Int) (w : World) {k : Nat} (hk : k = w.heap.size) : Calls Try.prog 58 #[.slice (some ⟨k, 0, none⟩) 1 1] (w.alloc (.cells #[.int .i64 a] 3)) fun e w' => e = .returned (.bool (Ru.num a)) ∧ Below w.heap.size w w' := by
  subst hk
  have hb := Blk.new w #[.int .i64 a] 3
  refine (numbers_row (g := w.heap.size) (ns := [a]) (fun j hj => ?_) (by simp) 1 (by simp)).mono fun e w' h => ⟨by rw [h.1]; simp, h.2 ▸ balloc w _⟩
  obtain rfl : j = 0 := by simpa using hj
  exact hb.cell 0 rfl
theorem numbers3v_any (a b c : Int) (w : World) {k : Nat} (hk : k = w.heap.size) : Calls Try.prog 58 #[.slice (some ⟨k, 0, none⟩) 3 3] (w.alloc (.cells #[.int .i64 a, .int .i64 b, .int .i64 c] 3)) fun e w' => e = .returned (.bool (Ru.num a && Ru.num b && Ru.num c)) ∧ Below w.heap.size w w' := by
  subst hk
  have hb := Blk.new w #[.int .i64 a, .int .i64 b, .int .i64 c] 3
  refine (numbers_row (g := w.heap.size) (ns := [a, b, c]) (fun j hj => ?_) (by simp) 3 (by simp)).mono fun e w' h => ⟨by rw [h.1]; simp [Bool.and_assoc], h.2 ▸ balloc w _⟩
  have : j = 0 ∨ j = 1 ∨ j = 2 := by simp only [List.length_cons, List.length_nil] at hj; omega
  rcases this with rfl | rfl | rfl
  · exact hb.cell 0 rfl
  · exact hb.cell 1 rfl
  · exact hb.cell 2 rfl
theorem numbers4v_any (x : Po.Box) (w : World) {k : Nat} (hk : k = w.heap.size) : Calls Try.prog 58 #[.slice (some ⟨k, 0, none⟩) 4 4] (w.alloc (.cells #[.int .i64 x.x0, .int .i64 x.y0, .int .i64 x.x1, .int .i64 x.y1] 3)) fun e w' => e = .returned (.bool (Ru.boxN x)) ∧ Below w.heap.size w w' := by
  subst hk
  have hb := Blk.new w #[.int .i64 x.x0, .int .i64 x.y0, .int .i64 x.x1, .int .i64 x.y1] 3
  refine (numbers_row (g := w.heap.size) (ns := [x.x0, x.y0, x.x1, x.y1]) (fun j hj => ?_) (by simp) 4 (by simp)).mono fun e w' h => ⟨by rw [h.1]; unfold Ru.boxN; simp [Bool.and_assoc], h.2 ▸ balloc w _⟩
  have : j = 0 ∨ j = 1 ∨ j = 2 ∨ j = 3 := by simp only [List.length_cons, List.length_nil] at hj; omega
  rcases this with rfl | rfl | rfl | rfl
  · exact hb.cell 0 rfl
  · exact hb.cell 1 rfl
  · exact hb.cell 2 rfl
  · exact hb.cell 3 rfl

def whoArr (x : Po.Who) : Array Value := #[.bool x.any, .string x.name, .int .i64 x.n, .int .i64 x.line, .int .i64 x.col]
theorem empty_eq (s : ByteArray) : (s.toList.isEmpty) = (s.data.toList == []) := by
  rw [ByteArray.toList_eq]; cases s.data.toList <;> rfl

theorem zero_any (x : Po.Who) (w : World) : Calls Try.prog 59 #[.agg (whoArr x)] w fun e w' => e = .returned (.bool (Ru.zeroW x)) ∧ Below w.heap.size w w' := by
  have e := hid (show Ru.zeroW x = _ from by unfold Ru.zeroW; rw [← empty_eq])
  obtain ⟨any, name, n, line, col⟩ := x
  simp only at e
  unfold whoArr
  simp only
  go_enter Try.func59, Try.ntmps59
  go_wp2
  all_goals
    go_ret
    rw [e.out]
    refine ⟨ret_bool ?_, balloc w _⟩
    clear e
    simp_all

theorem wright_any (x : Po.Who) (w : World) (hs : x.name.size ≤ 140737488355328) : Calls Try.prog 64 #[.agg (whoArr x)] w fun e w' => e = .returned (.bool (Ru.rightW x)) ∧ Below w.heap.size w w' := by
  have e := hid (show Ru.rightW x = _ from by unfold Ru.rightW; rw [← empty_eq])
  have hnm := hid (name_any x.name)
  have Q0 := hid (balloc w (.cells (whoArr x) 58))
  obtain ⟨any, name, n, line, col⟩ := x
  simp only at e hs hnm Q0
  unfold whoArr at *
  simp only at Q0 ⊢
  cases any with
  | true =>
    go_enter Try.func64, Try.ntmps64
    go_wp2_with fail
    all_goals
      go_ret
      rw [e.out]
      refine ⟨ret_bool ?_, balloc w _⟩
      clear e hnm Q0
      simp_all
  | false =>
    cases hem : name.toList.isEmpty with
    | true =>
      have e2 := hid (show Ru.rightW ⟨false, name, n, line, col⟩ = Ru.num n by rw [e.out, hem]; rfl)
      have hem' : name.toList = [] := by simpa using hem
      clear e hem
      go_enter Try.func64, Try.ntmps64
      go_wp2_with fail
      refine (numbers1_any n _ (by simp)).mono ?_
      rintro en w1 ⟨rfl, hb1⟩
      go_wp2_with fail
      go_ret
      exact ⟨ret_bool e2.out.symm, bthen Q0.out hb1⟩
    | false =>
      have e2 := hid (show Ru.rightW ⟨false, name, n, line, col⟩ = (n == 0 && Lx.isName name.data.toList) by rw [e.out, hem]; rfl)
      have hem' : ¬ name.toList = [] := by simpa using hem
      have hem2 : (name.toList == []) = false := beq_eq_false_iff_ne.2 hem'
      clear e
      by_cases hn : n = 0
      · have kn : (n == 0) = true := beq_iff_eq.2 hn
        rw [kn] at e2
        clear hn
        go_enter Try.func64, Try.ntmps64
        go_wp2_with fail
        refine (hnm.out _ hs).mono ?_
        rintro en w1 ⟨rfl, hb1⟩
        go_wp2_with fail
        go_ret
        exact ⟨ret_bool e2.out.symm, bthen Q0.out hb1⟩
      · have kn : (n == 0) = false := beq_eq_false_iff_ne.2 hn
        rw [kn] at e2
        clear hn
        go_enter Try.func64, Try.ntmps64
        go_wp2_with fail
        go_ret
        exact ⟨ret_bool e2.out.symm, Q0.out⟩
theorem wplace_any (x : Po.Who) (w : World) (hs : x.name.size ≤ 140737488355328) : Calls Try.prog 91 #[.agg (whoArr x)] w fun e w' => e = .returned (.bool (Ru.placeW x)) ∧ Below w.heap.size w w' := by
  have e := hid (show Ru.placeW x = _ from by unfold Ru.placeW; rw [bne, ← empty_eq])
  have hr := hid (wright_any x)
  have B0 := hid (Blk.new w (whoArr x) 58)
  have Q0 := hid (balloc w (.cells (whoArr x) 58))
  cases hrr : Ru.rightW x with
  | false =>
    rw [hrr] at hr e
    obtain ⟨any, name, n, line, col⟩ := x
    simp only at e hs hr Q0 B0 hrr
    have hrr' := hid hrr
    clear hrr
    unfold whoArr at *
    simp only at Q0 hr B0 ⊢
    go_enter Try.func91, Try.ntmps91
    go_wp2_with fail
    refine (hr.out _ hs).mono ?_
    rintro en w1 ⟨rfl, hb1⟩
    go_wp2_with fail
    go_ret
    exact ⟨ret_bool e.out.symm, bthen Q0.out hb1⟩
  | true =>
    rw [hrr] at hr e
    obtain ⟨any, name, n, line, col⟩ := x
    simp only at e hs hr Q0 B0 hrr
    have hrr' := hid hrr
    clear hrr
    unfold whoArr at *
    simp only at Q0 hr B0 ⊢
    go_enter Try.func91, Try.ntmps91
    go_wp2_with fail
    refine (hr.out _ hs).mono ?_
    rintro en w1 ⟨rfl, hb1⟩
    have Q1 := hid (bthen Q0.out hb1)
    obtain ⟨x0, x1, x2, x3, x4, xf, xz⟩ := (B0.out.ext hb1).five
    clear hb1
    go_wp2_with fail
    all_goals
      go_ret
      rw [e.out]
      refine ⟨ret_bool ?_, Q1.out⟩
      clear e hr Q0 B0 Q1 hrr' x0 x1 x2 x3 x4 xf xz hs
      simp_all

end Go.Proofs.Ytelphkhacadfaaa
