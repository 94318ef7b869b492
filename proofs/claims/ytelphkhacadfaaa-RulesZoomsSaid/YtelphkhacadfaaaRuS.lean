/- Rows of rules as pairs (rule, the slice of its boxes); the walk of the laws' own zoom. -/
import Derived.Test.YtelphkhacadfaaaRuR
import Derived.Test.YtelphkhacadfaaaRdRu
namespace Go.Proofs.Ytelphkhacadfaaa
open Go.RowKit Go.Sort Go.Maps

abbrev RP := Ru.Rule × Value
def pairCells (ps : List RP) : List Value := ps.flatMap fun p => (ruleArr p.1 p.2).toList
/-- boxes that lie in memory -/
def PIn (w : World) (ps : List RP) : Prop := ∀ p ∈ ps, BRow w p.2 p.1.boxes ∧ p.1.boxes.length ≤ 140737488355328
theorem PIn.ext {w w' : World} {ps : List RP} (h : PIn w ps) (hb : Below w.heap.size w w') : PIn w' ps := fun p hp => ⟨(h p hp).1.ext hb, (h p hp).2⟩
structure PRow (w : World) (g off cap : Nat) (ps : List RP) : Prop where
  cap : ps.length ≤ cap
  lt : g < w.heap.size
  get : ∀ (i : Nat) (hi : i < ps.length), w.rangeAt g (off + i * 7) (ruleArr ps[i].1 ps[i].2).toList
theorem PRow.ext {w w' : World} {g off cap : Nat} {ps : List RP} (h : PRow w g off cap ps) (hb : Below w.heap.size w w') : PRow w' g off cap ps :=
  ⟨h.cap, Nat.lt_of_lt_of_le h.lt hb.size, fun i hi j u hu => (hb.cell (p := ⟨g, off + i * 7 + j, none⟩) h.lt).trans (h.get i hi j u hu)⟩
theorem RSl.pairs {w : World} {v : Value} {l : List Ru.Rule} (h : RSl w v l) : ∃ ps : List RP, l = ps.map (·.1) ∧ PIn w ps ∧ ((v = .slice none 0 0 ∧ ps = []) ∨ ∃ g off cap, v = .slice (some ⟨g, off, none⟩) ps.length cap ∧ PRow w g off cap ps) := by
  rcases h with ⟨rfl, rfl⟩ | ⟨g, off, cap, rfl, hr⟩
  · exact ⟨[], rfl, fun p hp => by simp at hp, .inl ⟨rfl, rfl⟩⟩
  · obtain ⟨f, hf⟩ := Go.Deep.choose_lt (α := Value) (n := l.length) (p := fun i x => ∀ hi : i < l.length, w.rangeAt g (off + i * 7) (ruleArr l[i] x).toList ∧ BRow w x l[i].boxes ∧ l[i].boxes.length ≤ 140737488355328) (fun i hi => by
      obtain ⟨x, h1, h2, h3⟩ := hr.get i hi
      exact ⟨x, fun _ => ⟨h1, h2, h3⟩⟩)
    refine ⟨(List.range l.length).map fun i => (l.getD i default, f i), ?_, ?_, .inr ⟨g, off, cap, by simp, by simpa using hr.cap, hr.lt, fun i hi => ?_⟩⟩
    · apply List.ext_getElem
      · simp
      · intro i h1 h2
        simp [List.getD, List.getElem?_eq_getElem h1]
    · intro p hp
      obtain ⟨i, hi, rfl⟩ := List.mem_map.1 hp
      have hi' := List.mem_range.1 hi
      obtain ⟨_, h2, h3⟩ := hf i hi' hi'
      simp only [List.getD, List.getElem?_eq_getElem hi', Option.getD_some]
      exact ⟨h2, h3⟩
    · have hi' : i < l.length := by simpa using hi
      obtain ⟨h1, _, _⟩ := hf i hi' hi'
      simp only [List.getElem_map, List.getElem_range, List.getD, List.getElem?_eq_getElem hi', Option.getD_some]
      exact h1
theorem RSl.of_own {w : World} {base n : Nat} {u : Value} {ps : List RP} (h : w.ownsRow base 36 7 u n (pairCells ps)) (hn : n = ps.length) (hp : PIn w ps) : RSl w u (ps.map (·.1)) := by
  subst hn
  rcases srow_of (f := fun p : RP => ruleArr p.1 p.2) (fun _ _ => rfl) (show Row w u ps.length 7 (ps.flatMap fun p => (ruleArr p.1 p.2).toList) from Row.of_owns h) with ⟨hv, h0⟩ | ⟨g, off, cap, hv, hs⟩
  · exact .inl ⟨hv, by rw [h0]; rfl⟩
  · refine .inr ⟨g, off, cap, by rw [List.length_map]; exact hv, by rw [List.length_map]; exact hs.cap, hs.lt, fun i hi => ?_⟩
    have hi' : i < ps.length := by simpa using hi
    have h1 := hs.get i hi'
    obtain ⟨h2, h3⟩ := hp _ (List.getElem_mem hi')
    simp only [List.getElem_map]
    exact ⟨_, h1, h2, h3⟩
theorem pairCells_snoc (ps : List RP) (p : RP) : pairCells (ps ++ [p]) = pairCells ps ++ (ruleArr p.1 p.2).toList := by unfold pairCells; simp
theorem ownBlock_none : (Value.slice none 0 0).ownBlock = none := rfl

def lwArr (role tier label x y : Int) : Array Value := #[.int .i64 role, .int .i64 tier, .int .i64 label, .int .i64 x, .int .i64 y]
set_option maxHeartbeats 1000000 in
theorem lzoom_any {w : World} {v : Value} {l : List Ru.Rule} (role tier label x y : Int) (h : RSl w v l) (hn : l.length ≤ 140737488355328) :
    Calls Try.prog 12 #[v, .agg (lwArr role tier label x y)] w fun e w' => e = .returned (.int .i64 (Ru.zoomV l role tier label x y)) ∧ Below w.heap.size w w' := by
  unfold lwArr
  have hz := balloc w (.cells #[.int .i64 role, .int .i64 tier, .int .i64 label, .int .i64 x, .int .i64 y] 40)
  have h1 := hid (h.ext hz)
  have Q0 := hid hz
  clear h hz
  go_enter Try.func12, Try.ntmps12
  go_wp2_with fail
  refine (zoom_any role tier label x y h1.out hn).mono ?_
  rintro e w2 ⟨rfl, hb2⟩
  have Q2 := hid (bthen Q0.out hb2)
  clear hb2
  go_wp2_with fail
  go_ret
  exact ⟨rfl, Q2.out⟩

end Go.Proofs.Ytelphkhacadfaaa
