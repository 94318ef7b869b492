/- What comes in, read: a law's own Who; what a law's answer 'true' is worth. -/
import Derived.Test.YtelphkhacadfaaaRdRu
import Derived.Test.YtelphkhacadfaaaRuS
namespace Go.Proofs.Ytelphkhacadfaaa
open Go.ChangeShapes Go.WideShapes Go.RowKit

section
variable {H : Type} {enc : TypeId × Value → H} {w : World} {base : Nat} {spare : Nat → Bool} {held : Bool} {fuel : Nat} {x : DataW H × List MemPlace}
theorem cellsPoint : Try.prog.cellsOf 38 = 2 := by kernel_rfl
theorem cellsLw : Try.prog.cellsOf 40 = 5 := by kernel_rfl
set_option maxRecDepth 100000 in
theorem rd_point {cs : List Value} (h : DataW.trod enc Try.prog w base spare held fuel 38 cs = some x) : ∃ p q, cs = [.int .i64 p, .int .i64 q] := by
  obtain ⟨hl, parts, n, _, hp⟩ := struct_part Try.underlying38 h
  rw [cellsPoint] at hl
  obtain ⟨y0, h0, _⟩ := hp 0 _ rfl
  obtain ⟨y1, h1, _⟩ := hp 1 _ rfl
  have h0 : DataW.trod enc Try.prog w base spare held n 3 ((cs.drop 0).take (Try.prog.cellsOf 3)) = some y0 := h0
  have h1 : DataW.trod enc Try.prog w base spare held n 3 ((cs.drop 1).take (Try.prog.cellsOf 3)) = some y1 := h1
  simp only [cellsInt] at h0 h1
  match cs, hl with
  | [a, b], _ =>
    obtain ⟨n0, rfl⟩ := rd_int h0
    obtain ⟨n1, rfl⟩ := rd_int h1
    exact ⟨n0, n1, rfl⟩
set_option maxRecDepth 100000 in
theorem rd_lwho {v : Value} {d : DataW H} {ps : List MemPlace} (hval : Value.okWide Try.prog w .any base 40 v) (h : DataW.Trod enc Try.prog w 0 spare held 40 v d ps) : ∃ role tier label px py, v = .agg (lwArr role tier label px py) := by
  obtain ⟨cs, rfl, hcs⟩ := okWide_struct Try.underlying40 hval
  obtain ⟨fuel, hf⟩ := h
  have hcl : (Value.agg cs).cells.toList = cs.toList := by simp [Value.cells]
  rw [hcl] at hf
  obtain ⟨hl, parts, n, _, hp⟩ := struct_part Try.underlying40 hf
  rw [cellsLw] at hl
  obtain ⟨y0, h0, _⟩ := hp 0 _ rfl
  obtain ⟨y1, h1, _⟩ := hp 1 _ rfl
  obtain ⟨y2, h2, _⟩ := hp 2 _ rfl
  obtain ⟨y3, h3, _⟩ := hp 3 _ rfl
  have h0 : DataW.trod enc Try.prog w 0 spare held n 3 ((cs.toList.drop 0).take (Try.prog.cellsOf 3)) = some y0 := h0
  have h1 : DataW.trod enc Try.prog w 0 spare held n 3 ((cs.toList.drop 1).take (Try.prog.cellsOf 3)) = some y1 := h1
  have h2 : DataW.trod enc Try.prog w 0 spare held n 3 ((cs.toList.drop 2).take (Try.prog.cellsOf 3)) = some y2 := h2
  have h3 : DataW.trod enc Try.prog w 0 spare held n 38 ((cs.toList.drop 3).take (Try.prog.cellsOf 38)) = some y3 := h3
  simp only [cellsInt, cellsPoint] at h0 h1 h2 h3
  obtain ⟨cl⟩ := cs
  simp only at h0 h1 h2 h3 hl
  match cl, hl with
  | [a, b, c, e, f], _ =>
    obtain ⟨n0, rfl⟩ := rd_int h0
    obtain ⟨n1, rfl⟩ := rd_int h1
    obtain ⟨n2, rfl⟩ := rd_int h2
    obtain ⟨p, q, hpq⟩ := rd_point h3
    simp only [List.drop_succ_cons, List.drop_zero, List.take_succ_cons, List.take_zero, List.cons.injEq, and_true] at hpq
    obtain ⟨rfl, rfl⟩ := hpq
    exact ⟨n0, n1, n2, p, q, rfl⟩
set_option maxRecDepth 100000 in
theorem rd_rule1 {v : Value} {d : DataW H} {ps : List MemPlace} (hval : Value.okWide Try.prog w .any base 36 v) (h : DataW.Trod enc Try.prog w 0 spare held 36 v d ps) (hs : Within Try.prog 36 d) : ∃ r rv, v = .agg (ruleArr r rv) ∧ BRow w rv r.boxes ∧ r.boxes.length * 32 ≤ 140737488355328 := by
  obtain ⟨cs, rfl, hcs⟩ := okWide_struct Try.underlying36 hval
  obtain ⟨fuel, hf⟩ := h
  have hcl : (Value.agg cs).cells.toList = cs.toList := by simp [Value.cells]
  rw [hcl] at hf
  obtain ⟨r, rv, h1, h2, h3, _⟩ := rd_rule hf hs
  exact ⟨r, rv, by rw [Array.toList_inj.1 h1], h2, h3⟩
theorem readRule : Try.prog.readableRec 36 = true ∧ 36 < Try.prog.types.size := ⟨by kernel_rfl, of_decide_eq_true (by kernel_rfl)⟩
theorem laid : laidOutB Try.prog = true := by kernel_rfl
theorem readInt : Try.prog.readableRec 3 = true ∧ 3 < Try.prog.types.size := ⟨by kernel_rfl, of_decide_eq_true (by kernel_rfl)⟩
theorem readRules : Try.prog.readableRec 24 = true ∧ 24 < Try.prog.types.size := ⟨by kernel_rfl, of_decide_eq_true (by kernel_rfl)⟩
theorem readLw : Try.prog.readableRec 40 = true ∧ 40 < Try.prog.types.size := ⟨by kernel_rfl, of_decide_eq_true (by kernel_rfl)⟩
end

end Go.Proofs.Ytelphkhacadfaaa
