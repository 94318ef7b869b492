/-
  Small laws on stores and on two results that are structs.
-/
import Derived.Test.YtelphkhacadfaaaGreatPk06

namespace Go.Proofs.YtelphkhacadfaaaGreat
open Go.RowKit Go.Sort

theorem far {w : World} {b k : Nat} (hn : b ≠ k) (o : Nat) (u : Value) (o' : Nat) : (w.setCell ⟨k, o, none⟩ u).cell? ⟨b, o', none⟩ = w.cell? ⟨b, o', none⟩ :=
  World.cell?_of_block (w := w) (a := ⟨b, o', none⟩) (Below.heap_setCell _ _ _ _ hn)
theorem drewc (w : World) (p : Addr) : w.drew.cell? p = w.cell? p := rfl
theorem blk_set7 {w : World} {b : Nat} {a0 a1 a2 a3 a4 a5 a6 : Value} {t : TypeId} (h : Blk w b #[a0, a1, a2, a3, a4, a5, a6] t) (b0 b1 b2 b3 b4 b5 b6 : Value) :
    Blk (((((((w.setCell ⟨b, 0, none⟩ b0).setCell ⟨b, 1, none⟩ b1).setCell ⟨b, 2, none⟩ b2).setCell ⟨b, 3, none⟩ b3).setCell ⟨b, 4, none⟩ b4).setCell ⟨b, 5, none⟩ b5).setCell ⟨b, 6, none⟩ b6) b #[b0, b1, b2, b3, b4, b5, b6] t := by
  have e : (((((((#[a0, a1, a2, a3, a4, a5, a6] : Array Value).setIfInBounds 0 b0).setIfInBounds 1 b1).setIfInBounds 2 b2).setIfInBounds 3 b3).setIfInBounds 4 b4).setIfInBounds 5 b5).setIfInBounds 6 b6 = #[b0, b1, b2, b3, b4, b5, b6] := by simp
  rw [← e]
  exact ((((((h.set 0 b0).set 1 b1).set 2 b2).set 3 b3).set 4 b4).set 5 b5).set 6 b6
theorem blk_set3 {w : World} {b : Nat} {a0 a1 a2 : Value} {t : TypeId} (h : Blk w b #[a0, a1, a2] t) (b0 b1 b2 : Value) : Blk (((w.setCell ⟨b, 0, none⟩ b0).setCell ⟨b, 1, none⟩ b1).setCell ⟨b, 2, none⟩ b2) b #[b0, b1, b2] t :=
  ((h.set 0 b0).set 1 b1).set 2 b2
theorem zf_one : (#[.int .i64 0, .int .i64 0, .int .i64 0] : Array Value).all (·.oneCell') = true := by simp [Value.oneCell']
/-- two result structs, of blocks that are known whole -/
theorem results_blk2 {P : Program} {fn : Func} {p q : Tmp} {ty tz : TypeId} (h : fn.results = #[.cell p ty, .cell q tz]) (tmps : Array Value) (w : World) (g : Nat) (t : TypeId) (cs : Array Value) (g' : Nat) (t' : TypeId) (cs' : Array Value)
    (hp : tmps.getD p undef = .pointer (some ⟨g, 0, none⟩)) (hq : tmps.getD q undef = .pointer (some ⟨g', 0, none⟩)) (hb : Blk w g cs t) (hb' : Blk w g' cs' t')
    {d d' : TypeDesc} (hu : P.underlying ty = some d) (hr : d.isRow = true) (hi : (P.info? ty).map (·.size) = some cs.size) (hu' : P.underlying tz = some d') (hr' : d'.isRow = true) (hi' : (P.info? tz).map (·.size) = some cs'.size) :
    (results fn tmps).run P w = .ok (.tuple #[.agg cs, .agg cs']) w := by
  have h1 : (loadVar ty ⟨g, 0, none⟩).run P w = .ok (.agg cs) w := run_loadVar_row w g t ty cs (0, 0) d hb hu (by cases d <;> simp_all) hi
  have h2 : (loadVar tz ⟨g', 0, none⟩).run P w = .ok (.agg cs') w := run_loadVar_row w g' t' tz cs' (0, 0) d' hb' hu' (by cases d' <;> simp_all) hi'
  have hp' : tmps[p]?.getD undef = .pointer (some ⟨g, 0, none⟩) := by simpa using hp
  have hq' : tmps[q]?.getD undef = .pointer (some ⟨g', 0, none⟩) := by simpa using hq
  simp only [results, h]
  simp [Sem.run_bind, Result.andThen, hp', hq', asAddr, h1, h2]

end Go.Proofs.YtelphkhacadfaaaGreat
