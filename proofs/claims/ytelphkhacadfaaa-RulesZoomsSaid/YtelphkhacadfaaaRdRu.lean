/- What comes in, read: rows of rules, of boxes, of declarations, as the walks want them; and that all reads again as it did. -/
import Derived.Test.YtelphkhacadfaaaRuC
import Derived.Test.YtelphkhacadfaaaRuG
import Derived.ProofKit
import Derived.OpenShut
import Derived.ShutString
import Derived.SizedLaws
import Derived.Carry
import Derived.Deep.Slices
namespace Go.Proofs.Ytelphkhacadfaaa
open Go.ChangeShapes Go.WideShapes Go.RowKit

/-! ### general -/
section
variable {H : Type} {P : Program}
def Within (P : Program) (t : TypeId) (d : DataW H) : Prop := ∀ n ∈ d.weights P t, n ≤ reachBytes
theorem mem_weightsAll {e : TypeId} {d : DataW H} {n : Nat} (hn : n ∈ d.weights P e) : ∀ {l : List (DataW H)}, d ∈ l → n ∈ DataW.weightsAll P e l
  | x :: l, h => by
    simp only [DataW.weightsAll, List.mem_append]
    rcases List.mem_cons.1 h with rfl | h
    · exact .inl hn
    · exact .inr (mem_weightsAll hn h)
theorem Within.slice {t e : TypeId} {el sp : List (DataW H)} (h : Within P t (.slice el sp)) (ht : P.underlying t = some (.slice e)) : el.length * P.bytesOf e ≤ reachBytes ∧ ∀ d ∈ el, Within P e d := by
  unfold Within at h
  simp only [DataW.weights, ht] at h
  refine ⟨?_, fun d hd n hn => h n (List.mem_cons_of_mem _ (List.mem_append_left _ (mem_weightsAll hn hd)))⟩
  have := h _ List.mem_cons_self
  rw [Nat.add_mul] at this
  omega
theorem Within.struct {t : TypeId} {fs : Array Field} {parts : List (DataW H)} (h : Within P t (.agg parts)) (ht : P.underlying t = some (.struct fs)) {i : Nat} {f : Field} {d : DataW H} (hf : fs[i]? = some f) (hd : parts[i]? = some d) : Within P f.type d := by
  unfold Within at h
  simp only [DataW.weights, ht] at h
  exact fun n hn => h n (DataW.weights_mem_each (ts := fs.toList.map (·.type)) (j := i) (by simp [hf]) hd n hn)
theorem Within.top {ts : List TypeId} {ds : List (DataW H)} (h : (DataW.weightsEach P ts ds).all (· ≤ reachBytes) = true) {j : Nat} {t : TypeId} {d : DataW H} (ht : ts[j]? = some t) (hd : ds[j]? = some d) : Within P t d :=
  fun n hn => by simpa using List.all_eq_true.1 h n (DataW.weights_mem_each ht hd n hn)
variable {enc : TypeId × Value → H} {w : World} {base : Nat} {spare : Nat → Bool} {held : Bool}
/-- part number i of a struct, by itself -/
theorem struct_part {fs : Array Field} {fuel : Nat} {t : TypeId} {cs : List Value} {x : DataW H × List MemPlace} (ht : P.underlying t = some (.struct fs)) (h : DataW.trod enc P w base spare held fuel t cs = some x) :
    cs.length = P.cellsOf t ∧ ∃ parts n, x.1 = .agg parts ∧ ∀ (i : Nat) (f : Field), fs[i]? = some f → ∃ y, DataW.trod enc P w base spare held n f.type ((cs.drop f.offset).take (P.cellsOf f.type)) = some y ∧ parts[i]? = some y.1 := by
  obtain ⟨xs, n, _, rfl, hlen, hxl, hf⟩ := DataW.trod_struct ht h
  refine ⟨hlen, xs.map (·.1), n, rfl, fun i f hi => ?_⟩
  have hi2 : i < xs.length := by rw [hxl]; exact (Array.getElem?_eq_some_iff.1 hi).1
  refine ⟨xs[i], ?_, ?_⟩
  · rw [hf i f hi, List.getElem?_eq_getElem hi2]
  · rw [List.getElem?_map, List.getElem?_eq_getElem hi2]; rfl
/-- a row's elements lie behind one another in one block -/
theorem rows_at {a : Addr} {len size : Nat} (hpos : 0 < len) (hsz : 0 < size) (F : Nat → List Value) (hF : ∀ i, i < len → w.cells? base (a.add (i * size)) size = some (F i)) :
    ∃ g off, a = ⟨g, off, none⟩ ∧ g < w.heap.size ∧ ∀ i, i < len → (F i).length = size ∧ w.rangeAt g (off + i * size) (F i) := by
  obtain ⟨_, hl0, h0⟩ := World.cells?_some (hF 0 hpos)
  have h1 := h0 0 hsz
  rw [List.getElem?_eq_getElem (by omega)] at h1
  have e0 : (a.add (0 * size)).add 0 = a := by simp [Addr.add]
  rw [e0] at h1
  obtain ⟨g, off, sp⟩ := a
  have hsp : sp = none := by
    unfold World.cell? at h1
    cases sp with
    | none => rfl
    | some s => simp at h1; split at h1 <;> simp at h1
  subst hsp
  refine ⟨g, off, rfl, World.block_lt_of_cell? _ _ h1, fun i hi => ?_⟩
  obtain ⟨_, hl, hc⟩ := World.cells?_some (hF i hi)
  refine ⟨hl, fun j v hj => ?_⟩
  have hj2 : j < size := by rw [← hl]; exact (List.getElem?_eq_some_iff.1 hj).1
  have := hc j hj2
  rw [Go.Deep.add_add, addr_add', hj] at this
  rw [Nat.add_assoc]
  exact this
where
  addr_add' {g off j : Nat} : (⟨g, off, none⟩ : Addr).add j = ⟨g, off + j, none⟩ := by unfold Addr.add; split <;> simp_all
/-- all arguments read again as they did -/
theorem all_again {W W' : World} (hb : Below W.heap.size W W') (hl : laidOutB P = true) : ∀ {ts : List TypeId} {vs : List Value} {ds : List (DataW H)} {p : List MemPlace}, DataW.TrodAll enc P W 0 (fun _ => true) true ts vs ds p → (∀ t ∈ ts, P.readableRec t = true ∧ t < P.types.size) → (∀ x ∈ p, x.block < W.heap.size) →
    DataW.TrodAll enc P W' 0 (fun b => decide (b < W.heap.size)) true ts vs ds p
  | [], vs, ds, p, h, _, _ => by
    obtain ⟨rfl, rfl, rfl⟩ := trodAll_nil h
    exact trodAll_mk0
  | t :: ts, vs, ds, p, h, hr, hp => by
    obtain ⟨v, vs', d, ds', p1, q1, rfl, rfl, rfl, h1, h2⟩ := trodAll_cons h
    obtain ⟨r1, r2⟩ := hr t List.mem_cons_self
    exact trodAll_cons_mk (Below.trod hl r1 r2 h1 hb (fun x hx => hp x (List.mem_append_left _ hx))) (all_again hb hl h2 (fun t ht => hr t (List.mem_cons_of_mem _ ht)) (fun x hx => hp x (List.mem_append_right _ hx)))
end

/-! ### this program's types -/
section
variable {H : Type} {enc : TypeId × Value → H} {w : World} {base : Nat} {spare : Nat → Bool} {held : Bool} {fuel : Nat} {x : DataW H × List MemPlace}
instance : Inhabited Po.Box := ⟨⟨0, 0, 0, 0⟩⟩
instance : Inhabited Ru.Rule := ⟨⟨0, 0, 0, 0, 0, [], 0⟩⟩
theorem boxes_len' (l : List Po.Box) : (boxesCells l).length = l.length * 4 := by
  induction l with
  | nil => rfl
  | cons b l ih =>
    have e : boxesCells (b :: l) = boxCells b ++ boxesCells l := rfl
    rw [e, List.length_append, ih, List.length_cons]
    show 4 + l.length * 4 = _
    omega
theorem cellsInt : Try.prog.cellsOf 3 = 1 := by kernel_rfl
theorem cellsRect : Try.prog.cellsOf 69 = 4 := by kernel_rfl
theorem cellsRects : Try.prog.cellsOf 34 = 1 := by kernel_rfl
theorem cellsRule : Try.prog.cellsOf 36 = 7 := by kernel_rfl
theorem bytesRect : Try.prog.bytesOf 69 = 32 := by kernel_rfl
theorem bytesRule : Try.prog.bytesOf 36 = 72 := by kernel_rfl
theorem rd_int {v : Value} (h : DataW.trod enc Try.prog w base spare held fuel 3 [v] = some x) : ∃ n, v = .int .i64 n := by
  obtain ⟨n, h1, _⟩ := DataW.trod_int Try.underlying3 h
  exact ⟨n, by simpa using h1⟩
theorem rd_int2 {v : Value} (h : DataW.trod enc Try.prog w base spare held fuel 3 [v] = some x) : ∃ n, v = .int .i64 n ∧ -9223372036854775808 ≤ n ∧ n ≤ 9223372036854775807 := by
  obtain ⟨n, h1, _, h2⟩ := DataW.trod_int Try.underlying3 h
  refine ⟨n, by simpa using h1, ?_⟩
  have e1 : IntKind.i64.min = -9223372036854775808 := rfl
  have e2 : IntKind.i64.max = 9223372036854775807 := rfl
  simp only [Lit.wf, Bool.and_eq_true, decide_eq_true_eq, e1, e2] at h2
  exact h2
set_option maxRecDepth 100000 in
theorem rd_rect {cs : List Value} (h : DataW.trod enc Try.prog w base spare held fuel 69 cs = some x) : ∃ b : Po.Box, cs = boxCells b := by
  obtain ⟨hl, parts, n, _, hp⟩ := struct_part Try.underlying69 h
  rw [cellsRect] at hl
  obtain ⟨y0, h0, _⟩ := hp 0 _ rfl
  obtain ⟨y1, h1, _⟩ := hp 1 _ rfl
  obtain ⟨y2, h2, _⟩ := hp 2 _ rfl
  obtain ⟨y3, h3, _⟩ := hp 3 _ rfl
  have h0 : DataW.trod enc Try.prog w base spare held n 3 ((cs.drop 0).take (Try.prog.cellsOf 3)) = some y0 := h0
  have h1 : DataW.trod enc Try.prog w base spare held n 3 ((cs.drop 1).take (Try.prog.cellsOf 3)) = some y1 := h1
  have h2 : DataW.trod enc Try.prog w base spare held n 3 ((cs.drop 2).take (Try.prog.cellsOf 3)) = some y2 := h2
  have h3 : DataW.trod enc Try.prog w base spare held n 3 ((cs.drop 3).take (Try.prog.cellsOf 3)) = some y3 := h3
  simp only [cellsInt] at h0 h1 h2 h3
  match cs, hl with
  | [a, b, c, d], _ =>
    obtain ⟨n0, rfl⟩ := rd_int h0
    obtain ⟨n1, rfl⟩ := rd_int h1
    obtain ⟨n2, rfl⟩ := rd_int h2
    obtain ⟨n3, rfl⟩ := rd_int h3
    exact ⟨⟨n0, n1, n2, n3⟩, rfl⟩
theorem rd_rects {v : Value} (h : DataW.trod enc Try.prog w base spare held fuel 34 [v] = some x) (hs : Within Try.prog 34 x.1) : ∃ l : List Po.Box, BRow w v l ∧ l.length * 32 ≤ 140737488355328 := by
  rcases Go.Deep.open_slice Try.underlying34 h with ⟨hcs, rfl⟩ | ⟨a, len, cap, m, n, D, Pl, hcs, hb, hl, hm, hmm, rfl, hx⟩
  · simp only [List.cons.injEq, and_true] at hcs
    exact ⟨[], .inl ⟨_, _, hcs, rfl⟩, by decide⟩
  · simp only [List.cons.injEq, and_true] at hcs
    subst hcs
    obtain ⟨hbytes, _⟩ := hs.slice Try.underlying34
    rw [bytesRect] at hbytes
    simp only [List.length_map, List.length_range] at hbytes
    rw [cellsRect] at hx
    by_cases h0 : len = 0
    · subst h0
      exact ⟨[], .inl ⟨_, _, rfl, rfl⟩, by decide⟩
    · have hml : len ≤ m := by rw [hmm]; split <;> omega
      obtain ⟨f, hf⟩ := Go.Deep.choose_lt (α := Po.Box) (n := len) (p := fun i b => w.cells? base (a.add (i * 4)) 4 = some (boxCells b)) (fun i hi => by
        obtain ⟨cs', h1, h2⟩ := hx i (by omega)
        obtain ⟨b, rfl⟩ := rd_rect h2
        exact ⟨b, h1⟩)
      obtain ⟨g, off, rfl, hg, hr⟩ := rows_at (by omega) (by decide) (fun i => boxCells (f i)) hf
      refine ⟨(List.range len).map f, .inr ⟨by rw [boxes_len'], .inr ⟨g, off, cap, by simp, by simpa using hl, hg, fun j u hj => ?_⟩⟩, by simp only [List.length_map, List.length_range]; unfold reachBytes at hbytes; omega⟩
      have hjl : j < len * 4 := by
        have := (List.getElem?_eq_some_iff.1 hj).1
        rw [boxes_len'] at this
        simpa using this
      have hi : j / 4 < ((List.range len).map f).length := by simp only [List.length_map, List.length_range]; omega
      have hp := flat_part (f := boxArr) (size := 4) ((List.range len).map f) (fun _ _ => rfl) (j / 4) hi (j % 4) (by omega)
      rw [show j / 4 * 4 + j % 4 = j by omega] at hp
      have hj' : ((List.range len).map f).flatMap (fun x => (boxArr x).toList) = boxesCells ((List.range len).map f) := rfl
      rw [hj', hj] at hp
      have := (hr (j / 4) (by omega)).2 (j % 4) u (by
        have e : (boxArr ((List.range len).map f)[j / 4])[j % 4]? = (boxCells (f (j / 4)))[j % 4]? := by
          simp only [List.getElem_map, List.getElem_range]
          unfold boxArr boxCells
          simp
        rw [← e, ← hp])
      rw [show off + j / 4 * 4 + j % 4 = off + j by omega] at this
      exact this
set_option maxRecDepth 100000 in
theorem rd_rule {cs : List Value} (h : DataW.trod enc Try.prog w base spare held fuel 36 cs = some x) (hs : Within Try.prog 36 x.1) : ∃ (r : Ru.Rule) (v : Value), cs = (ruleArr r v).toList ∧ BRow w v r.boxes ∧ r.boxes.length * 32 ≤ 140737488355328 ∧ -9223372036854775808 ≤ r.roles ∧ r.roles ≤ 9223372036854775807 := by
  obtain ⟨hl, parts, n, hx1, hp⟩ := struct_part Try.underlying36 h
  rw [hx1] at hs
  rw [cellsRule] at hl
  obtain ⟨y0, h0, _⟩ := hp 0 _ rfl
  obtain ⟨y1, h1, _⟩ := hp 1 _ rfl
  obtain ⟨y2, h2, _⟩ := hp 2 _ rfl
  obtain ⟨y3, h3, _⟩ := hp 3 _ rfl
  obtain ⟨y4, h4, _⟩ := hp 4 _ rfl
  obtain ⟨y5, h5, p5⟩ := hp 5 _ rfl
  obtain ⟨y6, h6, _⟩ := hp 6 _ rfl
  have hs5 : Within Try.prog 34 y5.1 := hs.struct Try.underlying36 (i := 5) rfl p5
  have h0 : DataW.trod enc Try.prog w base spare held n 3 ((cs.drop 0).take (Try.prog.cellsOf 3)) = some y0 := h0
  have h1 : DataW.trod enc Try.prog w base spare held n 3 ((cs.drop 1).take (Try.prog.cellsOf 3)) = some y1 := h1
  have h2 : DataW.trod enc Try.prog w base spare held n 3 ((cs.drop 2).take (Try.prog.cellsOf 3)) = some y2 := h2
  have h3 : DataW.trod enc Try.prog w base spare held n 3 ((cs.drop 3).take (Try.prog.cellsOf 3)) = some y3 := h3
  have h4 : DataW.trod enc Try.prog w base spare held n 3 ((cs.drop 4).take (Try.prog.cellsOf 3)) = some y4 := h4
  have h5 : DataW.trod enc Try.prog w base spare held n 34 ((cs.drop 5).take (Try.prog.cellsOf 34)) = some y5 := h5
  have h6 : DataW.trod enc Try.prog w base spare held n 3 ((cs.drop 6).take (Try.prog.cellsOf 3)) = some y6 := h6
  simp only [cellsInt, cellsRects] at h0 h1 h2 h3 h4 h5 h6
  match cs, hl with
  | [a, b, c, d, e, f, g], _ =>
    obtain ⟨n0, rfl⟩ := rd_int h0
    obtain ⟨n1, rfl, hn1⟩ := rd_int2 h1
    obtain ⟨n2, rfl⟩ := rd_int h2
    obtain ⟨n3, rfl⟩ := rd_int h3
    obtain ⟨n4, rfl⟩ := rd_int h4
    obtain ⟨n6, rfl⟩ := rd_int h6
    obtain ⟨l, hb, hbl⟩ := rd_rects (v := f) h5 hs5
    exact ⟨⟨n0, n1, n2, n3, n4, l, n6⟩, f, rfl, hb, hbl, hn1⟩
set_option maxRecDepth 100000 in
theorem rd_rules {v : Value} {d : DataW H} {ps : List MemPlace} (hval : Value.okWide Try.prog w .any base 24 v) (h : DataW.Trod enc Try.prog w 0 spare held 24 v d ps) (hs : Within Try.prog 24 d) :
    ∃ l : List Ru.Rule, RSl w v l ∧ l.length ≤ 140737488355328 ∧ ∀ r ∈ l, r.boxes.length * 32 ≤ 140737488355328 ∧ -9223372036854775808 ≤ r.roles ∧ r.roles ≤ 9223372036854775807 := by
  obtain ⟨va, vl, vc, rfl⟩ := okWide_slice Try.underlying24 hval
  obtain ⟨fuel, hf⟩ := h
  have hcl : (Value.slice va vl vc).cells.toList = [.slice va vl vc] := by simp [Value.cells]
  rw [hcl] at hf
  rcases Go.Deep.open_slice Try.underlying24 hf with ⟨hcs, _⟩ | ⟨a, len, cap, m, n, D, Pl, hcs, hb, hl, hm, hmm, hd, hx⟩
  · simp only [List.cons.injEq, and_true] at hcs
    exact ⟨[], .inl ⟨hcs, rfl⟩, by simp, by simp⟩
  · simp only [List.cons.injEq, and_true] at hcs
    obtain ⟨rfl, rfl, rfl⟩ : some a = va ∧ len = vl ∧ cap = vc := by simp only [Value.slice.injEq] at hcs; exact ⟨hcs.1.symm, hcs.2.1.symm, hcs.2.2.symm⟩
    have hd1 := congrArg Prod.fst hd
    simp only at hd1
    subst hd1
    obtain ⟨hbytes, hel⟩ := hs.slice Try.underlying24
    rw [bytesRule] at hbytes
    simp only [List.length_map, List.length_range] at hbytes
    rw [cellsRule] at hx
    by_cases h0 : len = 0
    · subst h0
      -- none: the address is one that the block has
      have hval' := hval
      simp only [Value.okWide, Try.underlying24, Cell.okWide, Cell.ok] at hval'
      obtain ⟨_, _, hhas⟩ := hval'
      obtain ⟨_, hsp, row, cells, hshape, _⟩ := hhas
      obtain ⟨g, off, sp⟩ := a
      simp only at hsp hshape
      subst hsp
      refine ⟨[], .inr ⟨g, off, cap, rfl, Nat.zero_le _, ?_, fun i hi => by simp at hi⟩, by simp, by simp⟩
      unfold World.shape? at hshape
      rcases Nat.lt_or_ge g w.heap.size with hlt | hge
      · exact hlt
      · rw [Array.getElem?_eq_none hge] at hshape; cases hshape
    · have hml : len ≤ m := by rw [hmm]; split <;> omega
      obtain ⟨f, hf2⟩ := Go.Deep.choose_lt (α := Ru.Rule × Value) (n := len) (p := fun i q => w.cells? 0 (a.add (i * 7)) 7 = some (ruleArr q.1 q.2).toList ∧ BRow w q.2 q.1.boxes ∧ q.1.boxes.length * 32 ≤ 140737488355328 ∧ -9223372036854775808 ≤ q.1.roles ∧ q.1.roles ≤ 9223372036854775807) (fun i hi => by
        obtain ⟨cs', h1, h2⟩ := hx i (by omega)
        obtain ⟨r, v, rfl, h3, h4⟩ := rd_rule h2 (hel (D i) (List.mem_map.2 ⟨i, List.mem_range.2 hi, rfl⟩))
        exact ⟨(r, v), h1, h3, h4⟩)
      obtain ⟨g, off, rfl, hg, hr⟩ := rows_at (by omega) (by decide) (fun i => (ruleArr (f i).1 (f i).2).toList) (fun i hi => (hf2 i hi).1)
      refine ⟨(List.range len).map fun i => (f i).1, .inr ⟨g, off, cap, by simp, by simpa using hl, hg, fun i hi => ?_⟩, by simp only [List.length_map, List.length_range]; unfold reachBytes at hbytes; omega, fun r hr' => ?_⟩
      · simp only [List.length_map, List.length_range] at hi
        obtain ⟨_, h3, h4⟩ := hf2 i hi
        simp only [List.getElem_map, List.getElem_range]
        exact ⟨(f i).2, (hr i hi).2, h3, by have := h4.1; omega⟩
      · obtain ⟨i, hi, rfl⟩ := List.mem_map.1 hr'
        exact (hf2 i (List.mem_range.1 hi)).2.2
end

end Go.Proofs.Ytelphkhacadfaaa
