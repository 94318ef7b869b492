/- A row of tokens in memory. -/
import Derived.Test.YtelphkhacadfaaaLexH
namespace Go.Proofs.Ytelphkhacadfaaa
open Go.RowKit Go.Sort

theorem toksCells_get {ts : List Lx.Tok} {i : Nat} (hi : i < ts.length) : ∀ f, f < 5 → (toksCells ts)[i * 5 + f]? = (tokCells ts[i])[f]? := by
  intro f hf
  induction ts generalizing i with
  | nil => simp at hi
  | cons t ts ih =>
    have e : toksCells (t :: ts) = tokCells t ++ toksCells ts := rfl
    rw [e]
    cases i with
    | zero => rw [List.getElem?_append_left (by simp [tokCells]; omega)]; simp
    | succ i =>
      rw [List.getElem?_append_right (by simp [tokCells]; omega)]
      have e2 : (i + 1) * 5 + f - (tokCells t).length = i * 5 + f := by simp [tokCells]; omega
      rw [e2, ih (by simpa using hi)]
      simp

/-- a row of tokens: each cell, where it lies -/
structure TokRow (w : World) (g off cap : Nat) (ts : List Lx.Tok) : Prop where
  cap : ts.length ≤ cap
  lt : g < w.heap.size
  cell : ∀ (i : Nat) (hi : i < ts.length) (f : Nat) (u : Value), (tokCells ts[i])[f]? = some u → w.cell? ⟨g, off + i * 5 + f, none⟩ = some u
theorem tokRow_of {w : World} {v : Value} {ts : List Lx.Tok} (h : Row w v ts.length 5 (toksCells ts)) :
    (v = .slice none 0 0 ∧ ts = []) ∨ ∃ g off cap, v = .slice (some ⟨g, off, none⟩) ts.length cap ∧ TokRow w g off cap ts := by
  rcases h.2 with ⟨hv, hn⟩ | ⟨g, off, cap, hv, hn, hg, hc⟩
  · exact .inl ⟨hv, List.eq_nil_of_length_eq_zero hn⟩
  · refine .inr ⟨g, off, cap, hv, hn, hg, fun i hi f u hu => ?_⟩
    have hf : f < 5 := by
      rcases Nat.lt_or_ge f 5 with h5 | h5
      · exact h5
      · rw [List.getElem?_eq_none (by simpa [tokCells] using h5)] at hu; cases hu
    rw [show off + i * 5 + f = off + (i * 5 + f) by omega]
    exact hc _ _ (by rw [toksCells_get hi f hf]; exact hu)

/-- a token's cells, each by its own name -/
structure TokAt (w : World) (g o : Nat) (k : Int) (x : ByteArray) (n l c : Int) : Prop where
  c0 : w.cell? ⟨g, o, none⟩ = some (.int .i64 k)
  c1 : w.cell? ⟨g, o + 1, none⟩ = some (.string x)
  c2 : w.cell? ⟨g, o + 2, none⟩ = some (.int .i64 n)
  c3 : w.cell? ⟨g, o + 3, none⟩ = some (.int .i64 l)
  c4 : w.cell? ⟨g, o + 3 + 1, none⟩ = some (.int .i64 c)
theorem TokRow.at {w : World} {g off cap : Nat} {ts : List Lx.Tok} (h : TokRow w g off cap ts) {i : Nat} (hi : i < ts.length) :
    TokAt w g (off + i * 5) ts[i].kind ⟨ts[i].text.toArray⟩ ts[i].n ts[i].line ts[i].col :=
  ⟨h.cell i hi 0 _ rfl, h.cell i hi 1 _ rfl, h.cell i hi 2 _ rfl, h.cell i hi 3 _ rfl, h.cell i hi 4 _ rfl⟩
theorem tokRow_ext {w w' : World} {g off cap : Nat} {ts : List Lx.Tok} (h : TokRow w g off cap ts) (hb : Below w.heap.size w w') : TokRow w' g off cap ts :=
  ⟨h.cap, Nat.lt_of_lt_of_le h.lt hb.size, fun i hi f u hu => by rw [hb.cell (by exact h.lt)]; exact h.cell i hi f u hu⟩
theorem TokRow.touch {w w' : World} {g off cap b : Nat} {ts : List Lx.Tok} (h : TokRow w g off cap ts) (hb : Touch b w w') (hn : g ≠ b) : TokRow w' g off cap ts :=
  ⟨h.cap, Nat.lt_of_lt_of_le h.lt hb.size, fun i hi f u hu => ((tcell hb).1 g _ h.lt hn).trans (h.cell i hi f u hu)⟩

end Go.Proofs.Ytelphkhacadfaaa
