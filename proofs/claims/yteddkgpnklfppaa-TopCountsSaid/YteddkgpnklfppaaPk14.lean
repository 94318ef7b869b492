/-
  What comes in, read: points, a cell, a profile.
-/
import Derived.Test.YteddkgpnklfppaaPk13
import Derived.ProofKit
import Derived.OpenShut
import Derived.ShutString
import Derived.SizedLaws
import Derived.Carry
import Derived.Deep.Slices

namespace Go.Proofs.Yteddkgpnklfppaa
open Go.ChangeShapes Go.WideShapes Go.RowKit

/-! ### general -/
section
variable {H : Type} {P : Program}
def Within (P : Program) (t : TypeId) (d : DataW H) : Prop := ∀ n ∈ d.weights P t, n ≤ reachBytes
theorem mem_weightsAll {e : TypeId} {d : DataW H} {n : Nat} (hn : n ∈ d.weights P e) : ∀ {l : List (DataW H)}, d ∈ l → n ∈ DataW.weightsAll P e l
  | x :: l, h => by
    simp only [DataW.weightsAll, List.mem_append]
    rcases List.mem_cons.1 h with rfl | h
    · exact .inl hn
    · exact .inr (mem_weightsAll hn h)
theorem Within.slice {t e : TypeId} {el sp : List (DataW H)} (h : Within P t (.slice el sp)) (ht : P.underlying t = some (.slice e)) : el.length * P.bytesOf e ≤ reachBytes ∧ ∀ d ∈ el, Within P e d := by
  unfold Within at h
  simp only [DataW.weights, ht] at h
  refine ⟨?_, fun d hd n hn => h n (List.mem_cons_of_mem _ (List.mem_append_left _ (mem_weightsAll hn hd)))⟩
  have := h _ List.mem_cons_self
  rw [Nat.add_mul] at this
  omega
theorem Within.struct {t : TypeId} {fs : Array Field} {parts : List (DataW H)} (h : Within P t (.agg parts)) (ht : P.underlying t = some (.struct fs)) {i : Nat} {f : Field} {d : DataW H} (hf : fs[i]? = some f) (hd : parts[i]? = some d) : Within P f.type d := by
  unfold Within at h
  simp only [DataW.weights, ht] at h
  exact fun n hn => h n (DataW.weights_mem_each (ts := fs.toList.map (·.type)) (j := i) (by simp [hf]) hd n hn)
theorem Within.top {ts : List TypeId} {ds : List (DataW H)} (h : (DataW.weightsEach P ts ds).all (· ≤ reachBytes) = true) {j : Nat} {t : TypeId} {d : DataW H} (ht : ts[j]? = some t) (hd : ds[j]? = some d) : Within P t d :=
  fun n hn => by simpa using List.all_eq_true.1 h n (DataW.weights_mem_each ht hd n hn)
variable {enc : TypeId × Value → H} {w : World} {base : Nat} {spare : Nat → Bool} {held : Bool}
/-- part number i of a struct, by itself -/
theorem struct_part {fs : Array Field} {fuel : Nat} {t : TypeId} {cs : List Value} {x : DataW H × List MemPlace} (ht : P.underlying t = some (.struct fs)) (h : DataW.trod enc P w base spare held fuel t cs = some x) :
    cs.length = P.cellsOf t ∧ ∃ parts n, x.1 = .agg parts ∧ ∀ (i : Nat) (f : Field), fs[i]? = some f → ∃ y, DataW.trod enc P w base spare held n f.type ((cs.drop f.offset).take (P.cellsOf f.type)) = some y ∧ parts[i]? = some y.1 := by
  obtain ⟨xs, n, _, rfl, hlen, hxl, hf⟩ := DataW.trod_struct ht h
  refine ⟨hlen, xs.map (·.1), n, rfl, fun i f hi => ?_⟩
  have hi2 : i < xs.length := by rw [hxl]; exact (Array.getElem?_eq_some_iff.1 hi).1
  refine ⟨xs[i], ?_, ?_⟩
  · rw [hf i f hi, List.getElem?_eq_getElem hi2]
  · rw [List.getElem?_map, List.getElem?_eq_getElem hi2]; rfl
/-- a row's elements lie behind one another in one block -/
theorem rows_at {a : Addr} {len size : Nat} (hpos : 0 < len) (hsz : 0 < size) (F : Nat → List Value) (hF : ∀ i, i < len → w.cells? base (a.add (i * size)) size = some (F i)) :
    ∃ g off, a = ⟨g, off, none⟩ ∧ g < w.heap.size ∧ ∀ i, i < len → (F i).length = size ∧ w.rangeAt g (off + i * size) (F i) := by
  obtain ⟨_, hl0, h0⟩ := World.cells?_some (hF 0 hpos)
  have h1 := h0 0 hsz
  rw [List.getElem?_eq_getElem (by omega)] at h1
  have e0 : (a.add (0 * size)).add 0 = a := by simp [Addr.add]
  rw [e0] at h1
  obtain ⟨g, off, sp⟩ := a
  have hsp : sp = none := by
    unfold World.cell? at h1
    cases sp with
    | none => rfl
    | some s => simp at h1; split at h1 <;> simp at h1
  subst hsp
  refine ⟨g, off, rfl, World.block_lt_of_cell? _ _ h1, fun i hi => ?_⟩
  obtain ⟨_, hl, hc⟩ := World.cells?_some (hF i hi)
  refine ⟨hl, fun j v hj => ?_⟩
  have hj2 : j < size := by rw [← hl]; exact (List.getElem?_eq_some_iff.1 hj).1
  have := hc j hj2
  rw [Go.Deep.add_add, addr_add', hj] at this
  rw [Nat.add_assoc]
  exact this
where
  addr_add' {g off j : Nat} : (⟨g, off, none⟩ : Addr).add j = ⟨g, off + j, none⟩ := by unfold Addr.add; split <;> simp_all
/-- all arguments read again as they did -/
theorem all_again {W W' : World} (hb : Below W.heap.size W W') (hl : laidOutB P = true) : ∀ {ts : List TypeId} {vs : List Value} {ds : List (DataW H)} {p : List MemPlace}, DataW.TrodAll enc P W 0 (fun _ => true) true ts vs ds p → (∀ t ∈ ts, P.readableRec t = true ∧ t < P.types.size) → (∀ x ∈ p, x.block < W.heap.size) →
    DataW.TrodAll enc P W' 0 (fun b => decide (b < W.heap.size)) true ts vs ds p
  | [], vs, ds, p, h, _, _ => by
    obtain ⟨rfl, rfl, rfl⟩ := trodAll_nil h
    exact trodAll_mk0
  | t :: ts, vs, ds, p, h, hr, hp => by
    obtain ⟨v, vs', d, ds', p1, q1, rfl, rfl, rfl, h1, h2⟩ := trodAll_cons h
    obtain ⟨r1, r2⟩ := hr t List.mem_cons_self
    exact trodAll_cons_mk (Below.trod hl r1 r2 h1 hb (fun x hx => hp x (List.mem_append_left _ hx))) (all_again hb hl h2 (fun t ht => hr t (List.mem_cons_of_mem _ ht)) (fun x hx => hp x (List.mem_append_right _ hx)))
end

/-! ### this program's types -/
section
variable {H : Type} {enc : TypeId × Value → H} {w : World} {base : Nat} {spare : Nat → Bool} {held : Bool} {fuel : Nat} {x : DataW H × List MemPlace}
theorem cellsInt : Try.prog.cellsOf 3 = 1 := by kernel_rfl
theorem cellsUint : Try.prog.cellsOf 27 = 1 := by kernel_rfl
theorem cellsPoint : Try.prog.cellsOf 26 = 2 := by kernel_rfl
theorem cellsCell : Try.prog.cellsOf 24 = 3 := by kernel_rfl
theorem cellsProf : Try.prog.cellsOf 29 = 2 := by kernel_rfl
theorem rd_int {v : Value} (h : DataW.trod enc Try.prog w base spare held fuel 3 [v] = some x) : ∃ n, v = .int .i64 n := by
  obtain ⟨n, h1, _⟩ := DataW.trod_int Try.underlying3 h
  exact ⟨n, by simpa using h1⟩
theorem rd_uint64 {v : Value} (h : DataW.trod enc Try.prog w base spare held fuel 27 [v] = some x) : ∃ n, v = .int .u64 n := by
  obtain ⟨n, h1, _⟩ := DataW.trod_int Try.underlying27 h
  exact ⟨n, by simpa using h1⟩
set_option maxRecDepth 100000 in
theorem rd_point {cs : List Value} (h : DataW.trod enc Try.prog w base spare held fuel 26 cs = some x) : ∃ p q, cs = [.int .i64 p, .int .i64 q] := by
  obtain ⟨hl, parts, n, _, hp⟩ := struct_part Try.underlying26 h
  rw [cellsPoint] at hl
  obtain ⟨y0, h0, _⟩ := hp 0 _ rfl
  obtain ⟨y1, h1, _⟩ := hp 1 _ rfl
  have h0 : DataW.trod enc Try.prog w base spare held n 3 ((cs.drop 0).take (Try.prog.cellsOf 3)) = some y0 := h0
  have h1 : DataW.trod enc Try.prog w base spare held n 3 ((cs.drop 1).take (Try.prog.cellsOf 3)) = some y1 := h1
  simp only [cellsInt] at h0 h1
  match cs, hl with
  | [a, b], _ =>
    obtain ⟨n0, rfl⟩ := rd_int h0
    obtain ⟨n1, rfl⟩ := rd_int h1
    exact ⟨n0, n1, rfl⟩
set_option maxRecDepth 100000 in
theorem rd_cell1 {v : Value} {d : DataW H} {ps : List MemPlace} (hval : Value.okWide Try.prog w .any base 24 v) (h : DataW.Trod enc Try.prog w 0 spare held 24 v d ps) : ∃ l x y, v = .agg #[.int .i64 l, .int .i64 x, .int .i64 y] := by
  obtain ⟨cs, rfl, hcs⟩ := okWide_struct Try.underlying24 hval
  obtain ⟨fuel, hf⟩ := h
  have hcl : (Value.agg cs).cells.toList = cs.toList := by simp [Value.cells]
  rw [hcl] at hf
  obtain ⟨hl, parts, n, _, hp⟩ := struct_part Try.underlying24 hf
  rw [cellsCell] at hl
  obtain ⟨y0, h0, _⟩ := hp 0 _ rfl
  obtain ⟨y1, h1, _⟩ := hp 1 _ rfl
  obtain ⟨y2, h2, _⟩ := hp 2 _ rfl
  have h0 : DataW.trod enc Try.prog w 0 spare held n 3 ((cs.toList.drop 0).take (Try.prog.cellsOf 3)) = some y0 := h0
  have h1 : DataW.trod enc Try.prog w 0 spare held n 3 ((cs.toList.drop 1).take (Try.prog.cellsOf 3)) = some y1 := h1
  have h2 : DataW.trod enc Try.prog w 0 spare held n 3 ((cs.toList.drop 2).take (Try.prog.cellsOf 3)) = some y2 := h2
  simp only [cellsInt] at h0 h1 h2
  obtain ⟨cl⟩ := cs
  simp only at h0 h1 h2 hl
  match cl, hl with
  | [a, b, c], _ =>
    obtain ⟨n0, rfl⟩ := rd_int h0
    obtain ⟨n1, rfl⟩ := rd_int h1
    obtain ⟨n2, rfl⟩ := rd_int h2
    exact ⟨n0, n1, n2, rfl⟩
set_option maxRecDepth 100000 in
theorem rd_point1 {v : Value} {d : DataW H} {ps : List MemPlace} (hval : Value.okWide Try.prog w .any base 26 v) (h : DataW.Trod enc Try.prog w 0 spare held 26 v d ps) : ∃ x y, v = .agg #[.int .i64 x, .int .i64 y] := by
  obtain ⟨cs, rfl, hcs⟩ := okWide_struct Try.underlying26 hval
  obtain ⟨fuel, hf⟩ := h
  have hcl : (Value.agg cs).cells.toList = cs.toList := by simp [Value.cells]
  rw [hcl] at hf
  obtain ⟨hl, parts, n, _, hp⟩ := struct_part Try.underlying26 hf
  rw [cellsPoint] at hl
  obtain ⟨y0, h0, _⟩ := hp 0 _ rfl
  obtain ⟨y1, h1, _⟩ := hp 1 _ rfl
  have h0 : DataW.trod enc Try.prog w 0 spare held n 3 ((cs.toList.drop 0).take (Try.prog.cellsOf 3)) = some y0 := h0
  have h1 : DataW.trod enc Try.prog w 0 spare held n 3 ((cs.toList.drop 1).take (Try.prog.cellsOf 3)) = some y1 := h1
  simp only [cellsInt] at h0 h1
  obtain ⟨cl⟩ := cs
  simp only at h0 h1 hl
  match cl, hl with
  | [a, b], _ =>
    obtain ⟨n0, rfl⟩ := rd_int h0
    obtain ⟨n1, rfl⟩ := rd_int h1
    exact ⟨n0, n1, rfl⟩
set_option maxRecDepth 100000 in
theorem rd_prof1 {v : Value} {d : DataW H} {ps : List MemPlace} (hval : Value.okWide Try.prog w .any base 29 v) (h : DataW.Trod enc Try.prog w 0 spare held 29 v d ps) : ∃ k a, v = .agg #[.int .i64 k, .int .u64 a] := by
  obtain ⟨cs, rfl, hcs⟩ := okWide_struct Try.underlying29 hval
  obtain ⟨fuel, hf⟩ := h
  have hcl : (Value.agg cs).cells.toList = cs.toList := by simp [Value.cells]
  rw [hcl] at hf
  obtain ⟨hl, parts, n, _, hp⟩ := struct_part Try.underlying29 hf
  rw [cellsProf] at hl
  obtain ⟨y0, h0, _⟩ := hp 0 _ rfl
  obtain ⟨y1, h1, _⟩ := hp 1 _ rfl
  have h0 : DataW.trod enc Try.prog w 0 spare held n 3 ((cs.toList.drop 0).take (Try.prog.cellsOf 3)) = some y0 := h0
  have h1 : DataW.trod enc Try.prog w 0 spare held n 27 ((cs.toList.drop 1).take (Try.prog.cellsOf 27)) = some y1 := h1
  simp only [cellsInt, cellsUint] at h0 h1
  obtain ⟨cl⟩ := cs
  simp only at h0 h1 hl
  match cl, hl with
  | [a, b], _ =>
    obtain ⟨n0, rfl⟩ := rd_int h0
    obtain ⟨n1, rfl⟩ := rd_uint64 h1
    exact ⟨n0, n1, rfl⟩
set_option maxRecDepth 100000 in
theorem rd_pts {v : Value} {d : DataW H} {ps : List MemPlace} (hval : Value.okWide Try.prog w .any base 22 v) (h : DataW.Trod enc Try.prog w 0 spare held 22 v d ps) : ∃ l : List (Int × Int), PtRow w v l := by
  obtain ⟨va, vl, vc, rfl⟩ := okWide_slice Try.underlying22 hval
  obtain ⟨fuel, hf⟩ := h
  have hcl : (Value.slice va vl vc).cells.toList = [.slice va vl vc] := by simp [Value.cells]
  rw [hcl] at hf
  rcases Go.Deep.open_slice Try.underlying22 hf with ⟨hcs, _⟩ | ⟨a, len, cap, m, n, D, Pl, hcs, hb, hl, hm, hmm, hd, hx⟩
  · simp only [List.cons.injEq, and_true] at hcs
    exact ⟨[], none, 0, hcs, fun h => by simp at h⟩
  · simp only [List.cons.injEq, and_true] at hcs
    obtain ⟨rfl, rfl, rfl⟩ : some a = va ∧ len = vl ∧ cap = vc := by simp only [Value.slice.injEq] at hcs; exact ⟨hcs.1.symm, hcs.2.1.symm, hcs.2.2.symm⟩
    rw [cellsPoint] at hx
    by_cases h0 : len = 0
    · subst h0
      exact ⟨[], some a, cap, rfl, fun h => by simp at h⟩
    · have hml : len ≤ m := by rw [hmm]; split <;> omega
      obtain ⟨f, hf2⟩ := Go.Deep.choose_lt (α := Int × Int) (n := len) (p := fun i q => w.cells? 0 (a.add (i * 2)) 2 = some [.int .i64 q.1, .int .i64 q.2]) (fun i hi => by
        obtain ⟨cs', h1, h2⟩ := hx i (by omega)
        obtain ⟨p, q, rfl⟩ := rd_point h2
        exact ⟨(p, q), h1⟩)
      obtain ⟨g, off, rfl, hg, hr⟩ := rows_at (by omega) (by decide) (fun i => [.int .i64 (f i).1, .int .i64 (f i).2]) hf2
      refine ⟨(List.range len).map f, some ⟨g, off, none⟩, cap, by simp, fun _ => ⟨g, off, rfl, hg, fun i hi => ?_⟩⟩
      simp only [List.length_map, List.length_range] at hi
      simp only [List.getElem_map, List.getElem_range]
      exact ⟨(hr i hi).2 0 _ rfl, (hr i hi).2 1 _ rfl⟩
theorem laid : laidOutB Try.prog = true := by kernel_rfl
theorem readPts : Try.prog.readableRec 22 = true ∧ 22 < Try.prog.types.size := ⟨by kernel_rfl, of_decide_eq_true (by kernel_rfl)⟩
theorem readCell : Try.prog.readableRec 24 = true ∧ 24 < Try.prog.types.size := ⟨by kernel_rfl, of_decide_eq_true (by kernel_rfl)⟩
theorem readPoint : Try.prog.readableRec 26 = true ∧ 26 < Try.prog.types.size := ⟨by kernel_rfl, of_decide_eq_true (by kernel_rfl)⟩
theorem readProf : Try.prog.readableRec 29 = true ∧ 29 < Try.prog.types.size := ⟨by kernel_rfl, of_decide_eq_true (by kernel_rfl)⟩
end

end Go.Proofs.Yteddkgpnklfppaa
