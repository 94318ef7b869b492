/-
  The walk of rules.Read.
  The walk of the laws' known: what must come of fixed calls.
  What comes in, read: rows of rules, of boxes, of declarations, as the walks want them; and that all reads again as it did.
  Rows of rules as pairs (rule, the slice of its boxes); the walk of the laws' own zoom.
  The document's own Check: small laws, and two regions' code.
-/
import Derived.Test.YtelphkhacadfaaaPk19
import Derived.Test.YtelphkhacadfaaaPk11
import Derived.Test.YtelphkhacadfaaaPk07
import Derived.Test.YtelphkhacadfaaaPk13
import Derived.ProofKit
import Derived.OpenShut
import Derived.ShutString
import Derived.SizedLaws
import Derived.Carry
import Derived.Deep.Slices
import Derived.Test.YtelphkhacadfaaaPk18

namespace Go.Proofs.Ytelphkhacadfaaa
open Go.RowKit Go.Sort Go.Maps

def ReadPost (B : Nat) (L : Lx.Bytes) (e : Ending) (w' : World) : Prop :=
  match Po.parse L with
  | .ok ds => CheckPost B ds e w'
  | .error (er, l, c) => e = .returned (.tuple #[.slice none 0 0, .agg #[.int .i64 er, .int .i64 l, .int .i64 c]]) ∧ er ≠ 0
theorem DSmall.of {d : Po.Decl} (h : Po.Sm d) : DSmall d :=
  ⟨by have := h.name; omega, by have := h.role; omega, by have := h.label; omega, by have := h.place; omega, by have := h.boxes; omega⟩

set_option maxRecDepth 100000 in
set_option maxHeartbeats 4000000 in
theorem read_any (s : ByteArray) (w : World) (hs : s.size ≤ 140737488355328) :
    Calls Try.prog 21 #[.string s] w fun e w' => ReadPost w.heap.size s.data.toList e w' ∧ Below w.heap.size w w' := by
  have hn1 := Nat.le_refl w.heap.size
  have hpa := parse_any s (w.alloc (.cells #[.int .i64 0, .int .i64 0, .int .i64 0] 29)) hs
  unfold ParsePost at hpa
  have hz1 := balloc w (.cells #[.int .i64 0, .int .i64 0, .int .i64 0] 29)
  have Q0 := hid hz1
  have B0 := hid (Blk.new w #[.int .i64 0, .int .i64 0, .int .i64 0] 29)
  clear hz1
  cases hp : Po.parse s.data.toList with
  | error f =>
    obtain ⟨er, l, c⟩ := f
    rw [hp] at hpa
    have hpa' := hid hpa
    have hp' := hid hp
    clear hpa hp
    go_enter Try.func21, Try.ntmps21
    go_wp2_with fail
    refine hpa'.out.mono ?_
    rintro e w1 ⟨⟨rfl, her⟩, hb1⟩
    have hsz := hb1.size
    simp only [World.size_alloc] at hsz
    have Q1 := hid (bthen Q0.out hb1)
    have B1 := hid (B0.out.ext hb1)
    have hne : w.heap.size ≠ w1.heap.size := by omega
    have hne' : w1.heap.size ≠ w.heap.size := by omega
    have hn2 : w.heap.size ≤ w1.heap.size := by omega
    have C1 := hid (Blk.new w1 #[.int .i64 er, .int .i64 l, .int .i64 c] 29)
    have B2 := hid (B1.out.ext (balloc w1 (.cells #[.int .i64 er, .int .i64 l, .int .i64 c] 29)))
    have Q2 := hid (bthen Q1.out (balloc w1 (.cells #[.int .i64 er, .int .i64 l, .int .i64 c] 29)))
    obtain ⟨d0, d1, d2, df, dz⟩ := B2.out.three
    have h0 : ((er : Int) != 0) = true := by rw [bne_iff_ne]; omega
    go_wp2_with fail
    go_region_held3 (fun w' => w'.cell? ⟨w1.heap.size, 0, none⟩ = some (.int .i64 er) ∧ w'.cell? ⟨w1.heap.size, 1, none⟩ = some (.int .i64 l) ∧ w'.cell? ⟨w1.heap.size, 1 + 1, none⟩ = some (.int .i64 c)) (go_keep) (first | fail)
    go_wp2_with fail
    refine bodyPost_ret (v := .tuple #[.slice none 0 0, .agg #[.int .i64 er, .int .i64 l, .int .i64 c]]) (by simp [results, Try.results21, go_sem, d0, d1, d2]) rfl ⟨?_, (by simp only [below_setNew_iff hn1, below_drew_iff]; exact Q2.out)⟩
    unfold ReadPost
    rw [hp'.out]
    exact ⟨rfl, her⟩
  | ok ds =>
    rw [hp] at hpa
    have hpa' := hid hpa
    have hp' := hid hp
    obtain ⟨hlen, hsm⟩ := Po.parse_small hp
    have hsm' := hid (fun d hd => DSmall.of (hsm d hd))
    clear hpa hp hsm
    go_enter Try.func21, Try.ntmps21
    go_wp2_with fail
    refine hpa'.out.mono ?_
    rintro e w1 ⟨⟨v, vs, rfl, hds⟩, hb1⟩
    have hsz := hb1.size
    simp only [World.size_alloc] at hsz
    have Q1 := hid (bthen Q0.out hb1)
    have B1 := hid (B0.out.ext hb1)
    have hne : w.heap.size ≠ w1.heap.size := by omega
    have hne' : w1.heap.size ≠ w.heap.size := by omega
    have B2 := hid (B1.out.ext (balloc w1 (.cells #[.int .i64 0, .int .i64 0, .int .i64 0] 29)))
    have Q2 := hid (bthen Q1.out (balloc w1 (.cells #[.int .i64 0, .int .i64 0, .int .i64 0] 29)))
    have D2 := hid (hds.sl.ext (balloc w1 (.cells #[.int .i64 0, .int .i64 0, .int .i64 0] 29)))
    clear hds hb1
    go_wp2_with fail
    have hck := check_any D2.out (by omega) hsm'.out
    unfold CheckPost at hck
    cases hc : Ru.checkV ds with
    | ok rs =>
      rw [hc] at hck
      refine hck.mono ?_
      rintro e w3 ⟨⟨v3, rfl, hr3, hl3⟩, hb3⟩
      have Q3 := hid (bthen Q2.out hb3)
      have B3 := hid (B2.out.ext hb3)
      have R3 := hid hr3
      obtain ⟨d0, d1, d2, df, dz⟩ := B3.out.three
      clear hr3 hb3 hck
      go_wp2_with fail
      refine bodyPost_ret (v := .tuple #[v3, .agg #[.int .i64 0, .int .i64 0, .int .i64 0]]) (by simp [results, Try.results21, go_sem, d0, d1, d2]) rfl ⟨?_, (by simp only [below_setNew_iff hn1]; exact Q3.out)⟩
      unfold ReadPost
      rw [hp'.out]
      simp only
      unfold CheckPost
      rw [hc]
      have ht := ((((Touch.refl w.heap.size w3).setCell 0 (.int .i64 0)).setCell 1 (.int .i64 0)).setCell (1 + 1) (.int .i64 0))
      exact ⟨v3, rfl, fun w'' ha => R3.out w'' (((Above.touch ht (Nat.le_refl _)).trans ha).mono (by rw [World.size_alloc]; omega)), hl3⟩
    | error f =>
      obtain ⟨er, l, c⟩ := f
      rw [hc] at hck
      refine hck.mono ?_
      rintro e w3 ⟨rfl, hb3⟩
      have Q3 := hid (bthen Q2.out hb3)
      have B3 := hid (B2.out.ext hb3)
      obtain ⟨d0, d1, d2, df, dz⟩ := B3.out.three
      clear hb3 hck
      go_wp2_with fail
      refine bodyPost_ret (v := .tuple #[.slice none 0 0, .agg #[.int .i64 er, .int .i64 l, .int .i64 c]]) (by simp [results, Try.results21, go_sem, d0, d1, d2]) rfl ⟨?_, (by simp only [below_setNew_iff hn1]; exact Q3.out)⟩
      unfold ReadPost
      rw [hp'.out]
      simp only
      unfold CheckPost
      rw [hc]

end Go.Proofs.Ytelphkhacadfaaa

namespace Go.Proofs.Ytelphkhacadfaaa
open Go.RowKit Go.Sort Go.Maps

def kRule : Ru.Rule := ⟨4, 8, 1, 4, 255, [⟨0, 0, 65535, 65535⟩], 12⟩
def kText : ByteArray := { data := ([114, 111, 108, 101, 32, 110, 117, 114, 115, 101, 32, 61, 32, 51, 59, 32, 97, 108, 108, 111, 119, 32, 114, 111, 108, 101, 32, 110, 117, 114, 115, 101, 32, 116].append [105, 101, 114, 32, 49, 46, 46, 52, 32, 108, 97, 98, 101, 108, 32, 97, 110, 121, 32, 105, 110, 32, 97, 108, 108, 32, 122, 111, 111, 109, 32, 49, 50, 59]).toArray }
def kDecls : List Po.Decl := match Po.parse kText.data.toList with | .ok ds => ds | .error _ => []
theorem kParse : Po.parse kText.data.toList = .ok kDecls := by
  have h : (match Po.parse kText.data.toList with | .ok _ => true | .error _ => false) = true := by decide +kernel
  unfold kDecls
  cases hp : Po.parse kText.data.toList with
  | ok ds => rfl
  | error f => rw [hp] at h; cases h
theorem kCheck : Ru.checkV kDecls = .ok [kRule] := by kernel_rfl
theorem kZoom1 : Ru.zoomV [kRule] 3 2 7 9 0 = 12 := by kernel_rfl
theorem kZoom2 : Ru.zoomV [kRule] 3 5 7 0 0 = 0 := by kernel_rfl

set_option maxRecDepth 100000 in
set_option maxHeartbeats 4000000 in
theorem known_any (w : World) : Calls Try.prog 7 #[] w fun e w' => e = .returned (.bool true) ∧ Below w.heap.size w w' := by
  have hr := read_any kText w (by decide)
  unfold ReadPost at hr
  rw [kParse] at hr
  simp only at hr
  unfold CheckPost at hr
  rw [kCheck] at hr
  simp only at hr
  have hr' := hid hr
  clear hr
  go_enter Try.func7, Try.ntmps7
  go_wp2_with fail
  refine hr'.out.mono ?_
  rintro e w1 ⟨⟨v, rfl, hrs, _⟩, hb1⟩
  have hz := balloc w1 (.cells #[.int .i64 0, .int .i64 0, .int .i64 0] 29)
  have R1 := hid (hrs _ (Above.below hz))
  have Q1 := hid (bthen hb1 hz)
  rcases R1.out with ⟨_, h0⟩ | ⟨g, off, cap, rfl, hg⟩
  · cases h0
  obtain ⟨x, hat, hrow, _⟩ := hg.get 0 (by decide)
  have q1 : (w1.alloc (.cells #[.int .i64 0, .int .i64 0, .int .i64 0] 29)).cell? ⟨g, off + 1, none⟩ = some (.int .i64 8) := hat 1 _ rfl
  have q4 : (w1.alloc (.cells #[.int .i64 0, .int .i64 0, .int .i64 0] 29)).cell? ⟨g, off + 4, none⟩ = some (.int .i64 255) := hat 4 _ rfl
  clear hat hrow hg hz hb1 hrs
  go_wp2_with fail
  refine (zoom_any 3 2 7 9 0 R1.out (by decide)).mono ?_
  rw [kZoom1]
  rintro e w3 ⟨rfl, hb3⟩
  have R3 := hid (R1.out.ext hb3)
  have Q3 := hid (bthen Q1.out hb3)
  clear hb3 q1 q4
  go_wp2_with fail
  refine (zoom_any 3 5 7 0 0 R3.out (by decide)).mono ?_
  rw [kZoom2]
  rintro e w4 ⟨rfl, hb4⟩
  have Q4 := hid (bthen Q3.out hb4)
  clear hb4
  go_wp2_with fail
  go_ret
  exact ⟨rfl, Q4.out⟩

end Go.Proofs.Ytelphkhacadfaaa

namespace Go.Proofs.Ytelphkhacadfaaa
open Go.ChangeShapes Go.WideShapes Go.RowKit

/-! ### general -/
section
variable {H : Type} {P : Program}
def Within (P : Program) (t : TypeId) (d : DataW H) : Prop := ∀ n ∈ d.weights P t, n ≤ reachBytes
theorem mem_weightsAll {e : TypeId} {d : DataW H} {n : Nat} (hn : n ∈ d.weights P e) : ∀ {l : List (DataW H)}, d ∈ l → n ∈ DataW.weightsAll P e l
  | x :: l, h => by
    simp only [DataW.weightsAll, List.mem_append]
    rcases List.mem_cons.1 h with rfl | h
    · exact .inl hn
    · exact .inr (mem_weightsAll hn h)
theorem Within.slice {t e : TypeId} {el sp : List (DataW H)} (h : Within P t (.slice el sp)) (ht : P.underlying t = some (.slice e)) : el.length * P.bytesOf e ≤ reachBytes ∧ ∀ d ∈ el, Within P e d := by
  unfold Within at h
  simp only [DataW.weights, ht] at h
  refine ⟨?_, fun d hd n hn => h n (List.mem_cons_of_mem _ (List.mem_append_left _ (mem_weightsAll hn hd)))⟩
  have := h _ List.mem_cons_self
  rw [Nat.add_mul] at this
  omega
theorem Within.struct {t : TypeId} {fs : Array Field} {parts : List (DataW H)} (h : Within P t (.agg parts)) (ht : P.underlying t = some (.struct fs)) {i : Nat} {f : Field} {d : DataW H} (hf : fs[i]? = some f) (hd : parts[i]? = some d) : Within P f.type d := by
  unfold Within at h
  simp only [DataW.weights, ht] at h
  exact fun n hn => h n (DataW.weights_mem_each (ts := fs.toList.map (·.type)) (j := i) (by simp [hf]) hd n hn)
theorem Within.top {ts : List TypeId} {ds : List (DataW H)} (h : (DataW.weightsEach P ts ds).all (· ≤ reachBytes) = true) {j : Nat} {t : TypeId} {d : DataW H} (ht : ts[j]? = some t) (hd : ds[j]? = some d) : Within P t d :=
  fun n hn => by simpa using List.all_eq_true.1 h n (DataW.weights_mem_each ht hd n hn)
variable {enc : TypeId × Value → H} {w : World} {base : Nat} {spare : Nat → Bool} {held : Bool}
/-- part number i of a struct, by itself -/
theorem struct_part {fs : Array Field} {fuel : Nat} {t : TypeId} {cs : List Value} {x : DataW H × List MemPlace} (ht : P.underlying t = some (.struct fs)) (h : DataW.trod enc P w base spare held fuel t cs = some x) :
    cs.length = P.cellsOf t ∧ ∃ parts n, x.1 = .agg parts ∧ ∀ (i : Nat) (f : Field), fs[i]? = some f → ∃ y, DataW.trod enc P w base spare held n f.type ((cs.drop f.offset).take (P.cellsOf f.type)) = some y ∧ parts[i]? = some y.1 := by
  obtain ⟨xs, n, _, rfl, hlen, hxl, hf⟩ := DataW.trod_struct ht h
  refine ⟨hlen, xs.map (·.1), n, rfl, fun i f hi => ?_⟩
  have hi2 : i < xs.length := by rw [hxl]; exact (Array.getElem?_eq_some_iff.1 hi).1
  refine ⟨xs[i], ?_, ?_⟩
  · rw [hf i f hi, List.getElem?_eq_getElem hi2]
  · rw [List.getElem?_map, List.getElem?_eq_getElem hi2]; rfl
/-- a row's elements lie behind one another in one block -/
theorem rows_at {a : Addr} {len size : Nat} (hpos : 0 < len) (hsz : 0 < size) (F : Nat → List Value) (hF : ∀ i, i < len → w.cells? base (a.add (i * size)) size = some (F i)) :
    ∃ g off, a = ⟨g, off, none⟩ ∧ g < w.heap.size ∧ ∀ i, i < len → (F i).length = size ∧ w.rangeAt g (off + i * size) (F i) := by
  obtain ⟨_, hl0, h0⟩ := World.cells?_some (hF 0 hpos)
  have h1 := h0 0 hsz
  rw [List.getElem?_eq_getElem (by omega)] at h1
  have e0 : (a.add (0 * size)).add 0 = a := by simp [Addr.add]
  rw [e0] at h1
  obtain ⟨g, off, sp⟩ := a
  have hsp : sp = none := by
    unfold World.cell? at h1
    cases sp with
    | none => rfl
    | some s => simp at h1; split at h1 <;> simp at h1
  subst hsp
  refine ⟨g, off, rfl, World.block_lt_of_cell? _ _ h1, fun i hi => ?_⟩
  obtain ⟨_, hl, hc⟩ := World.cells?_some (hF i hi)
  refine ⟨hl, fun j v hj => ?_⟩
  have hj2 : j < size := by rw [← hl]; exact (List.getElem?_eq_some_iff.1 hj).1
  have := hc j hj2
  rw [Go.Deep.add_add, addr_add', hj] at this
  rw [Nat.add_assoc]
  exact this
where
  addr_add' {g off j : Nat} : (⟨g, off, none⟩ : Addr).add j = ⟨g, off + j, none⟩ := by unfold Addr.add; split <;> simp_all
/-- all arguments read again as they did -/
theorem all_again {W W' : World} (hb : Below W.heap.size W W') (hl : laidOutB P = true) : ∀ {ts : List TypeId} {vs : List Value} {ds : List (DataW H)} {p : List MemPlace}, DataW.TrodAll enc P W 0 (fun _ => true) true ts vs ds p → (∀ t ∈ ts, P.readableRec t = true ∧ t < P.types.size) → (∀ x ∈ p, x.block < W.heap.size) →
    DataW.TrodAll enc P W' 0 (fun b => decide (b < W.heap.size)) true ts vs ds p
  | [], vs, ds, p, h, _, _ => by
    obtain ⟨rfl, rfl, rfl⟩ := trodAll_nil h
    exact trodAll_mk0
  | t :: ts, vs, ds, p, h, hr, hp => by
    obtain ⟨v, vs', d, ds', p1, q1, rfl, rfl, rfl, h1, h2⟩ := trodAll_cons h
    obtain ⟨r1, r2⟩ := hr t List.mem_cons_self
    exact trodAll_cons_mk (Below.trod hl r1 r2 h1 hb (fun x hx => hp x (List.mem_append_left _ hx))) (all_again hb hl h2 (fun t ht => hr t (List.mem_cons_of_mem _ ht)) (fun x hx => hp x (List.mem_append_right _ hx)))
end

/-! ### this program's types -/
section
variable {H : Type} {enc : TypeId × Value → H} {w : World} {base : Nat} {spare : Nat → Bool} {held : Bool} {fuel : Nat} {x : DataW H × List MemPlace}
instance : Inhabited Po.Box := ⟨⟨0, 0, 0, 0⟩⟩
instance : Inhabited Ru.Rule := ⟨⟨0, 0, 0, 0, 0, [], 0⟩⟩
theorem boxes_len' (l : List Po.Box) : (boxesCells l).length = l.length * 4 := by
  induction l with
  | nil => rfl
  | cons b l ih =>
    have e : boxesCells (b :: l) = boxCells b ++ boxesCells l := rfl
    rw [e, List.length_append, ih, List.length_cons]
    show 4 + l.length * 4 = _
    omega
theorem cellsInt : Try.prog.cellsOf 3 = 1 := by kernel_rfl
theorem cellsRect : Try.prog.cellsOf 69 = 4 := by kernel_rfl
theorem cellsRects : Try.prog.cellsOf 34 = 1 := by kernel_rfl
theorem cellsRule : Try.prog.cellsOf 36 = 7 := by kernel_rfl
theorem bytesRect : Try.prog.bytesOf 69 = 32 := by kernel_rfl
theorem bytesRule : Try.prog.bytesOf 36 = 72 := by kernel_rfl
theorem rd_int {v : Value} (h : DataW.trod enc Try.prog w base spare held fuel 3 [v] = some x) : ∃ n, v = .int .i64 n := by
  obtain ⟨n, h1, _⟩ := DataW.trod_int Try.underlying3 h
  exact ⟨n, by simpa using h1⟩
theorem rd_int2 {v : Value} (h : DataW.trod enc Try.prog w base spare held fuel 3 [v] = some x) : ∃ n, v = .int .i64 n ∧ -9223372036854775808 ≤ n ∧ n ≤ 9223372036854775807 := by
  obtain ⟨n, h1, _, h2⟩ := DataW.trod_int Try.underlying3 h
  refine ⟨n, by simpa using h1, ?_⟩
  have e1 : IntKind.i64.min = -9223372036854775808 := rfl
  have e2 : IntKind.i64.max = 9223372036854775807 := rfl
  simp only [Lit.wf, Bool.and_eq_true, decide_eq_true_eq, e1, e2] at h2
  exact h2
set_option maxRecDepth 100000 in
theorem rd_rect {cs : List Value} (h : DataW.trod enc Try.prog w base spare held fuel 69 cs = some x) : ∃ b : Po.Box, cs = boxCells b := by
  obtain ⟨hl, parts, n, _, hp⟩ := struct_part Try.underlying69 h
  rw [cellsRect] at hl
  obtain ⟨y0, h0, _⟩ := hp 0 _ rfl
  obtain ⟨y1, h1, _⟩ := hp 1 _ rfl
  obtain ⟨y2, h2, _⟩ := hp 2 _ rfl
  obtain ⟨y3, h3, _⟩ := hp 3 _ rfl
  have h0 : DataW.trod enc Try.prog w base spare held n 3 ((cs.drop 0).take (Try.prog.cellsOf 3)) = some y0 := h0
  have h1 : DataW.trod enc Try.prog w base spare held n 3 ((cs.drop 1).take (Try.prog.cellsOf 3)) = some y1 := h1
  have h2 : DataW.trod enc Try.prog w base spare held n 3 ((cs.drop 2).take (Try.prog.cellsOf 3)) = some y2 := h2
  have h3 : DataW.trod enc Try.prog w base spare held n 3 ((cs.drop 3).take (Try.prog.cellsOf 3)) = some y3 := h3
  simp only [cellsInt] at h0 h1 h2 h3
  match cs, hl with
  | [a, b, c, d], _ =>
    obtain ⟨n0, rfl⟩ := rd_int h0
    obtain ⟨n1, rfl⟩ := rd_int h1
    obtain ⟨n2, rfl⟩ := rd_int h2
    obtain ⟨n3, rfl⟩ := rd_int h3
    exact ⟨⟨n0, n1, n2, n3⟩, rfl⟩
theorem rd_rects {v : Value} (h : DataW.trod enc Try.prog w base spare held fuel 34 [v] = some x) (hs : Within Try.prog 34 x.1) : ∃ l : List Po.Box, BRow w v l ∧ l.length * 32 ≤ 140737488355328 := by
  rcases Go.Deep.open_slice Try.underlying34 h with ⟨hcs, rfl⟩ | ⟨a, len, cap, m, n, D, Pl, hcs, hb, hl, hm, hmm, rfl, hx⟩
  · simp only [List.cons.injEq, and_true] at hcs
    exact ⟨[], .inl ⟨_, _, hcs, rfl⟩, by decide⟩
  · simp only [List.cons.injEq, and_true] at hcs
    subst hcs
    obtain ⟨hbytes, _⟩ := hs.slice Try.underlying34
    rw [bytesRect] at hbytes
    simp only [List.length_map, List.length_range] at hbytes
    rw [cellsRect] at hx
    by_cases h0 : len = 0
    · subst h0
      exact ⟨[], .inl ⟨_, _, rfl, rfl⟩, by decide⟩
    · have hml : len ≤ m := by rw [hmm]; split <;> omega
      obtain ⟨f, hf⟩ := Go.Deep.choose_lt (α := Po.Box) (n := len) (p := fun i b => w.cells? base (a.add (i * 4)) 4 = some (boxCells b)) (fun i hi => by
        obtain ⟨cs', h1, h2⟩ := hx i (by omega)
        obtain ⟨b, rfl⟩ := rd_rect h2
        exact ⟨b, h1⟩)
      obtain ⟨g, off, rfl, hg, hr⟩ := rows_at (by omega) (by decide) (fun i => boxCells (f i)) hf
      refine ⟨(List.range len).map f, .inr ⟨by rw [boxes_len'], .inr ⟨g, off, cap, by simp, by simpa using hl, hg, fun j u hj => ?_⟩⟩, by simp only [List.length_map, List.length_range]; unfold reachBytes at hbytes; omega⟩
      have hjl : j < len * 4 := by
        have := (List.getElem?_eq_some_iff.1 hj).1
        rw [boxes_len'] at this
        simpa using this
      have hi : j / 4 < ((List.range len).map f).length := by simp only [List.length_map, List.length_range]; omega
      have hp := flat_part (f := boxArr) (size := 4) ((List.range len).map f) (fun _ _ => rfl) (j / 4) hi (j % 4) (by omega)
      rw [show j / 4 * 4 + j % 4 = j by omega] at hp
      have hj' : ((List.range len).map f).flatMap (fun x => (boxArr x).toList) = boxesCells ((List.range len).map f) := rfl
      rw [hj', hj] at hp
      have := (hr (j / 4) (by omega)).2 (j % 4) u (by
        have e : (boxArr ((List.range len).map f)[j / 4])[j % 4]? = (boxCells (f (j / 4)))[j % 4]? := by
          simp only [List.getElem_map, List.getElem_range]
          unfold boxArr boxCells
          simp
        rw [← e, ← hp])
      rw [show off + j / 4 * 4 + j % 4 = off + j by omega] at this
      exact this
set_option maxRecDepth 100000 in
theorem rd_rule {cs : List Value} (h : DataW.trod enc Try.prog w base spare held fuel 36 cs = some x) (hs : Within Try.prog 36 x.1) : ∃ (r : Ru.Rule) (v : Value), cs = (ruleArr r v).toList ∧ BRow w v r.boxes ∧ r.boxes.length * 32 ≤ 140737488355328 ∧ -9223372036854775808 ≤ r.roles ∧ r.roles ≤ 9223372036854775807 := by
  obtain ⟨hl, parts, n, hx1, hp⟩ := struct_part Try.underlying36 h
  rw [hx1] at hs
  rw [cellsRule] at hl
  obtain ⟨y0, h0, _⟩ := hp 0 _ rfl
  obtain ⟨y1, h1, _⟩ := hp 1 _ rfl
  obtain ⟨y2, h2, _⟩ := hp 2 _ rfl
  obtain ⟨y3, h3, _⟩ := hp 3 _ rfl
  obtain ⟨y4, h4, _⟩ := hp 4 _ rfl
  obtain ⟨y5, h5, p5⟩ := hp 5 _ rfl
  obtain ⟨y6, h6, _⟩ := hp 6 _ rfl
  have hs5 : Within Try.prog 34 y5.1 := hs.struct Try.underlying36 (i := 5) rfl p5
  have h0 : DataW.trod enc Try.prog w base spare held n 3 ((cs.drop 0).take (Try.prog.cellsOf 3)) = some y0 := h0
  have h1 : DataW.trod enc Try.prog w base spare held n 3 ((cs.drop 1).take (Try.prog.cellsOf 3)) = some y1 := h1
  have h2 : DataW.trod enc Try.prog w base spare held n 3 ((cs.drop 2).take (Try.prog.cellsOf 3)) = some y2 := h2
  have h3 : DataW.trod enc Try.prog w base spare held n 3 ((cs.drop 3).take (Try.prog.cellsOf 3)) = some y3 := h3
  have h4 : DataW.trod enc Try.prog w base spare held n 3 ((cs.drop 4).take (Try.prog.cellsOf 3)) = some y4 := h4
  have h5 : DataW.trod enc Try.prog w base spare held n 34 ((cs.drop 5).take (Try.prog.cellsOf 34)) = some y5 := h5
  have h6 : DataW.trod enc Try.prog w base spare held n 3 ((cs.drop 6).take (Try.prog.cellsOf 3)) = some y6 := h6
  simp only [cellsInt, cellsRects] at h0 h1 h2 h3 h4 h5 h6
  match cs, hl with
  | [a, b, c, d, e, f, g], _ =>
    obtain ⟨n0, rfl⟩ := rd_int h0
    obtain ⟨n1, rfl, hn1⟩ := rd_int2 h1
    obtain ⟨n2, rfl⟩ := rd_int h2
    obtain ⟨n3, rfl⟩ := rd_int h3
    obtain ⟨n4, rfl⟩ := rd_int h4
    obtain ⟨n6, rfl⟩ := rd_int h6
    obtain ⟨l, hb, hbl⟩ := rd_rects (v := f) h5 hs5
    exact ⟨⟨n0, n1, n2, n3, n4, l, n6⟩, f, rfl, hb, hbl, hn1⟩
set_option maxRecDepth 100000 in
theorem rd_rules {v : Value} {d : DataW H} {ps : List MemPlace} (hval : Value.okWide Try.prog w .any base 24 v) (h : DataW.Trod enc Try.prog w 0 spare held 24 v d ps) (hs : Within Try.prog 24 d) :
    ∃ l : List Ru.Rule, RSl w v l ∧ l.length ≤ 140737488355328 ∧ ∀ r ∈ l, r.boxes.length * 32 ≤ 140737488355328 ∧ -9223372036854775808 ≤ r.roles ∧ r.roles ≤ 9223372036854775807 := by
  obtain ⟨va, vl, vc, rfl⟩ := okWide_slice Try.underlying24 hval
  obtain ⟨fuel, hf⟩ := h
  have hcl : (Value.slice va vl vc).cells.toList = [.slice va vl vc] := by simp [Value.cells]
  rw [hcl] at hf
  rcases Go.Deep.open_slice Try.underlying24 hf with ⟨hcs, _⟩ | ⟨a, len, cap, m, n, D, Pl, hcs, hb, hl, hm, hmm, hd, hx⟩
  · simp only [List.cons.injEq, and_true] at hcs
    exact ⟨[], .inl ⟨hcs, rfl⟩, by simp, by simp⟩
  · simp only [List.cons.injEq, and_true] at hcs
    obtain ⟨rfl, rfl, rfl⟩ : some a = va ∧ len = vl ∧ cap = vc := by simp only [Value.slice.injEq] at hcs; exact ⟨hcs.1.symm, hcs.2.1.symm, hcs.2.2.symm⟩
    have hd1 := congrArg Prod.fst hd
    simp only at hd1
    subst hd1
    obtain ⟨hbytes, hel⟩ := hs.slice Try.underlying24
    rw [bytesRule] at hbytes
    simp only [List.length_map, List.length_range] at hbytes
    rw [cellsRule] at hx
    by_cases h0 : len = 0
    · subst h0
      -- none: the address is one that the block has
      have hval' := hval
      simp only [Value.okWide, Try.underlying24, Cell.okWide, Cell.ok] at hval'
      obtain ⟨_, _, hhas⟩ := hval'
      obtain ⟨_, hsp, row, cells, hshape, _⟩ := hhas
      obtain ⟨g, off, sp⟩ := a
      simp only at hsp hshape
      subst hsp
      refine ⟨[], .inr ⟨g, off, cap, rfl, Nat.zero_le _, ?_, fun i hi => by simp at hi⟩, by simp, by simp⟩
      unfold World.shape? at hshape
      rcases Nat.lt_or_ge g w.heap.size with hlt | hge
      · exact hlt
      · rw [Array.getElem?_eq_none hge] at hshape; cases hshape
    · have hml : len ≤ m := by rw [hmm]; split <;> omega
      obtain ⟨f, hf2⟩ := Go.Deep.choose_lt (α := Ru.Rule × Value) (n := len) (p := fun i q => w.cells? 0 (a.add (i * 7)) 7 = some (ruleArr q.1 q.2).toList ∧ BRow w q.2 q.1.boxes ∧ q.1.boxes.length * 32 ≤ 140737488355328 ∧ -9223372036854775808 ≤ q.1.roles ∧ q.1.roles ≤ 9223372036854775807) (fun i hi => by
        obtain ⟨cs', h1, h2⟩ := hx i (by omega)
        obtain ⟨r, v, rfl, h3, h4⟩ := rd_rule h2 (hel (D i) (List.mem_map.2 ⟨i, List.mem_range.2 hi, rfl⟩))
        exact ⟨(r, v), h1, h3, h4⟩)
      obtain ⟨g, off, rfl, hg, hr⟩ := rows_at (by omega) (by decide) (fun i => (ruleArr (f i).1 (f i).2).toList) (fun i hi => (hf2 i hi).1)
      refine ⟨(List.range len).map fun i => (f i).1, .inr ⟨g, off, cap, by simp, by simpa using hl, hg, fun i hi => ?_⟩, by simp only [List.length_map, List.length_range]; unfold reachBytes at hbytes; omega, fun r hr' => ?_⟩
      · simp only [List.length_map, List.length_range] at hi
        obtain ⟨_, h3, h4⟩ := hf2 i hi
        simp only [List.getElem_map, List.getElem_range]
        exact ⟨(f i).2, (hr i hi).2, h3, by have := h4.1; omega⟩
      · obtain ⟨i, hi, rfl⟩ := List.mem_map.1 hr'
        exact (hf2 i (List.mem_range.1 hi)).2.2
end

end Go.Proofs.Ytelphkhacadfaaa

namespace Go.Proofs.Ytelphkhacadfaaa
open Go.RowKit Go.Sort Go.Maps

abbrev RP := Ru.Rule × Value
def pairCells (ps : List RP) : List Value := ps.flatMap fun p => (ruleArr p.1 p.2).toList
/-- boxes that lie in memory -/
def PIn (w : World) (ps : List RP) : Prop := ∀ p ∈ ps, BRow w p.2 p.1.boxes ∧ p.1.boxes.length ≤ 140737488355328
theorem PIn.ext {w w' : World} {ps : List RP} (h : PIn w ps) (hb : Below w.heap.size w w') : PIn w' ps := fun p hp => ⟨(h p hp).1.ext hb, (h p hp).2⟩
structure PRow (w : World) (g off cap : Nat) (ps : List RP) : Prop where
  cap : ps.length ≤ cap
  lt : g < w.heap.size
  get : ∀ (i : Nat) (hi : i < ps.length), w.rangeAt g (off + i * 7) (ruleArr ps[i].1 ps[i].2).toList
theorem PRow.ext {w w' : World} {g off cap : Nat} {ps : List RP} (h : PRow w g off cap ps) (hb : Below w.heap.size w w') : PRow w' g off cap ps :=
  ⟨h.cap, Nat.lt_of_lt_of_le h.lt hb.size, fun i hi j u hu => (hb.cell (p := ⟨g, off + i * 7 + j, none⟩) h.lt).trans (h.get i hi j u hu)⟩
theorem RSl.pairs {w : World} {v : Value} {l : List Ru.Rule} (h : RSl w v l) : ∃ ps : List RP, l = ps.map (·.1) ∧ PIn w ps ∧ ((v = .slice none 0 0 ∧ ps = []) ∨ ∃ g off cap, v = .slice (some ⟨g, off, none⟩) ps.length cap ∧ PRow w g off cap ps) := by
  rcases h with ⟨rfl, rfl⟩ | ⟨g, off, cap, rfl, hr⟩
  · exact ⟨[], rfl, fun p hp => by simp at hp, .inl ⟨rfl, rfl⟩⟩
  · obtain ⟨f, hf⟩ := Go.Deep.choose_lt (α := Value) (n := l.length) (p := fun i x => ∀ hi : i < l.length, w.rangeAt g (off + i * 7) (ruleArr l[i] x).toList ∧ BRow w x l[i].boxes ∧ l[i].boxes.length ≤ 140737488355328) (fun i hi => by
      obtain ⟨x, h1, h2, h3⟩ := hr.get i hi
      exact ⟨x, fun _ => ⟨h1, h2, h3⟩⟩)
    refine ⟨(List.range l.length).map fun i => (l.getD i default, f i), ?_, ?_, .inr ⟨g, off, cap, by simp, by simpa using hr.cap, hr.lt, fun i hi => ?_⟩⟩
    · apply List.ext_getElem
      · simp
      · intro i h1 h2
        simp [List.getD, List.getElem?_eq_getElem h1]
    · intro p hp
      obtain ⟨i, hi, rfl⟩ := List.mem_map.1 hp
      have hi' := List.mem_range.1 hi
      obtain ⟨_, h2, h3⟩ := hf i hi' hi'
      simp only [List.getD, List.getElem?_eq_getElem hi', Option.getD_some]
      exact ⟨h2, h3⟩
    · have hi' : i < l.length := by simpa using hi
      obtain ⟨h1, _, _⟩ := hf i hi' hi'
      simp only [List.getElem_map, List.getElem_range, List.getD, List.getElem?_eq_getElem hi', Option.getD_some]
      exact h1
theorem RSl.of_own {w : World} {base n : Nat} {u : Value} {ps : List RP} (h : w.ownsRow base 36 7 u n (pairCells ps)) (hn : n = ps.length) (hp : PIn w ps) : RSl w u (ps.map (·.1)) := by
  subst hn
  rcases srow_of (f := fun p : RP => ruleArr p.1 p.2) (fun _ _ => rfl) (show Row w u ps.length 7 (ps.flatMap fun p => (ruleArr p.1 p.2).toList) from Row.of_owns h) with ⟨hv, h0⟩ | ⟨g, off, cap, hv, hs⟩
  · exact .inl ⟨hv, by rw [h0]; rfl⟩
  · refine .inr ⟨g, off, cap, by rw [List.length_map]; exact hv, by rw [List.length_map]; exact hs.cap, hs.lt, fun i hi => ?_⟩
    have hi' : i < ps.length := by simpa using hi
    have h1 := hs.get i hi'
    obtain ⟨h2, h3⟩ := hp _ (List.getElem_mem hi')
    simp only [List.getElem_map]
    exact ⟨_, h1, h2, h3⟩
theorem pairCells_snoc (ps : List RP) (p : RP) : pairCells (ps ++ [p]) = pairCells ps ++ (ruleArr p.1 p.2).toList := by unfold pairCells; simp
theorem ownBlock_none : (Value.slice none 0 0).ownBlock = none := rfl

def lwArr (role tier label x y : Int) : Array Value := #[.int .i64 role, .int .i64 tier, .int .i64 label, .int .i64 x, .int .i64 y]
set_option maxHeartbeats 1000000 in
theorem lzoom_any {w : World} {v : Value} {l : List Ru.Rule} (role tier label x y : Int) (h : RSl w v l) (hn : l.length ≤ 140737488355328) :
    Calls Try.prog 12 #[v, .agg (lwArr role tier label x y)] w fun e w' => e = .returned (.int .i64 (Ru.zoomV l role tier label x y)) ∧ Below w.heap.size w w' := by
  unfold lwArr
  have hz := balloc w (.cells #[.int .i64 role, .int .i64 tier, .int .i64 label, .int .i64 x, .int .i64 y] 40)
  have h1 := hid (h.ext hz)
  have Q0 := hid hz
  clear h hz
  go_enter Try.func12, Try.ntmps12
  go_wp2_with fail
  refine (zoom_any role tier label x y h1.out hn).mono ?_
  rintro e w2 ⟨rfl, hb2⟩
  have Q2 := hid (bthen Q0.out hb2)
  clear hb2
  go_wp2_with fail
  go_ret
  exact ⟨rfl, Q2.out⟩

end Go.Proofs.Ytelphkhacadfaaa

namespace Go.Proofs.Ytelphkhacadfaaa
open Go.RowKit Go.Sort

theorem Blk.rng {w : World} {b : Nat} {cs : Array Value} {t : TypeId} (h : Blk w b cs t) : w.rangeAt b 0 cs.toList := by
  have := World.rangeAt_of_block h 0 cs.size
  rwa [Nat.zero_add, Array.extract_size] at this
theorem BRow.setRowOther {w : World} {v : Value} {l : List Po.Box} {k : Nat} (h : BRow w v l) (hne : l = [] ∨ v.ownBlock ≠ some k) (cs : Array Value) : BRow (w.setRow k cs) v l := by
  rcases hne with rfl | hne
  · obtain ⟨p, c, rfl⟩ := h.shape
    exact .inl ⟨p, c, rfl, rfl⟩
  · exact h.touch ((Touch.refl k w).setRow cs) hne
/-- a region of a function's code, by its number -/
def regionOf (n : Nat) : Code → Option Code
  | .region k ops d => if k = n then some (.region k ops d) else none
  | .seq a b => match regionOf n a with | some c => some c | none => regionOf n b
  | .cond _ a b => match regionOf n a with | some c => some c | none => regionOf n b
  | .block _ c => regionOf n c
  | .loop c => regionOf n c
  | .scope c => regionOf n c
  | _ => none
noncomputable def check13 : Code := (Try.f9.body.bind (regionOf 13)).getD .skip
noncomputable def check18 : Code := (Try.f9.body.bind (regionOf 18)).getD .skip

theorem rrule_ne {a : List Po.Decl} {d : Po.Decl} {n b er l c : Int} (h : Ru.rrule a d n b = .error (er, l, c)) : er ≠ 0 := by
  unfold Ru.rrule at h
  repeat' split at h
  all_goals first
    | (cases h; done)
    | (cases h; decide)
    | (rename_i hs; cases h; exact rsum_ne hs)
    | skip
  all_goals
    rename_i hs
    cases h
    unfold Ru.rwhere at hs
    repeat' split at hs
    all_goals cases hs
    all_goals decide
theorem szSet (w : World) (a : Addr) (u : Value) : (w.setCell a u).heap.size = w.heap.size := by simp [World.setCell]
theorem szDrew (w : World) : w.drew.heap.size = w.heap.size := rfl
/-- what a region that draws reads of a declaration -/
theorem dS {W : World} {b : Nat} {d : Po.Decl} {xp : Option Addr} {xc : Nat} {t : TypeId} (h : Blk W b (declCells d (.slice xp d.boxes.length xc)) t) :
    W.cell? ⟨b, 0, none⟩ = some (.int .i64 d.kind) ∧ W.cell? ⟨b, 1, none⟩ = some (.string d.name) ∧ W.cell? ⟨b, 1 + 1, none⟩ = some (.int .i64 d.n) ∧ W.cell? ⟨b, 1 + 1 + 1, none⟩ = some (.slice xp d.boxes.length xc) ∧ W.cell? ⟨b, 1 + 1 + 1 + 1, none⟩ = some (.bool d.role.any) ∧ W.cell? ⟨b, 1 + 1 + 1 + 1 + 1, none⟩ = some (.string d.role.name) ∧ W.cell? ⟨b, 1 + 1 + 1 + 1 + 1 + 1, none⟩ = some (.int .i64 d.role.n) ∧ W.cell? ⟨b, 1 + 1 + 1 + 1 + 1 + 1 + 1, none⟩ = some (.int .i64 d.role.line) ∧ W.cell? ⟨b, 1 + 1 + 1 + 1 + 1 + 1 + 1 + 1, none⟩ = some (.int .i64 d.role.col) ∧ W.cell? ⟨b, 1 + 1 + 1 + 1 + 1 + 1 + 1 + 1 + 1, none⟩ = some (.int .i64 d.lo) ∧ W.cell? ⟨b, 1 + 1 + 1 + 1 + 1 + 1 + 1 + 1 + 1 + 1, none⟩ = some (.int .i64 d.hi) ∧ W.cell? ⟨b, 1 + 1 + 1 + 1 + 1 + 1 + 1 + 1 + 1 + 1 + 1, none⟩ = some (.bool d.label.any) ∧ W.cell? ⟨b, 1 + 1 + 1 + 1 + 1 + 1 + 1 + 1 + 1 + 1 + 1 + 1, none⟩ = some (.string d.label.name) ∧ W.cell? ⟨b, 1 + 1 + 1 + 1 + 1 + 1 + 1 + 1 + 1 + 1 + 1 + 1 + 1, none⟩ = some (.int .i64 d.label.n) ∧ W.cell? ⟨b, 1 + 1 + 1 + 1 + 1 + 1 + 1 + 1 + 1 + 1 + 1 + 1 + 1 + 1, none⟩ = some (.int .i64 d.label.line) ∧ W.cell? ⟨b, 1 + 1 + 1 + 1 + 1 + 1 + 1 + 1 + 1 + 1 + 1 + 1 + 1 + 1 + 1, none⟩ = some (.int .i64 d.label.col) ∧ W.cell? ⟨b, 1 + 1 + 1 + 1 + 1 + 1 + 1 + 1 + 1 + 1 + 1 + 1 + 1 + 1 + 1 + 1, none⟩ = some (.bool d.place.any) ∧ W.cell? ⟨b, 1 + 1 + 1 + 1 + 1 + 1 + 1 + 1 + 1 + 1 + 1 + 1 + 1 + 1 + 1 + 1 + 1, none⟩ = some (.string d.place.name) ∧ W.cell? ⟨b, 1 + 1 + 1 + 1 + 1 + 1 + 1 + 1 + 1 + 1 + 1 + 1 + 1 + 1 + 1 + 1 + 1 + 1, none⟩ = some (.int .i64 d.place.n) ∧ W.cell? ⟨b, 1 + 1 + 1 + 1 + 1 + 1 + 1 + 1 + 1 + 1 + 1 + 1 + 1 + 1 + 1 + 1 + 1 + 1 + 1, none⟩ = some (.int .i64 d.place.line) ∧ W.cell? ⟨b, 1 + 1 + 1 + 1 + 1 + 1 + 1 + 1 + 1 + 1 + 1 + 1 + 1 + 1 + 1 + 1 + 1 + 1 + 1 + 1, none⟩ = some (.int .i64 d.place.col) ∧ W.cell? ⟨b, 1 + 1 + 1 + 1 + 1 + 1 + 1 + 1 + 1 + 1 + 1 + 1 + 1 + 1 + 1 + 1 + 1 + 1 + 1 + 1 + 1, none⟩ = some (.int .i64 d.zoom) ∧ W.cell? ⟨b, 1 + 1 + 1 + 1 + 1 + 1 + 1 + 1 + 1 + 1 + 1 + 1 + 1 + 1 + 1 + 1 + 1 + 1 + 1 + 1 + 1 + 1, none⟩ = some (.int .i64 d.line) ∧ W.cell? ⟨b, 1 + 1 + 1 + 1 + 1 + 1 + 1 + 1 + 1 + 1 + 1 + 1 + 1 + 1 + 1 + 1 + 1 + 1 + 1 + 1 + 1 + 1 + 1, none⟩ = some (.int .i64 d.col) :=
  ⟨h.cell 0 rfl, h.cell 1 rfl, h.cell 2 rfl, h.cell 3 rfl, h.cell 4 rfl, h.cell 5 rfl, h.cell 6 rfl, h.cell 7 rfl, h.cell 8 rfl, h.cell 9 rfl, h.cell 10 rfl, h.cell 11 rfl, h.cell 12 rfl, h.cell 13 rfl, h.cell 14 rfl, h.cell 15 rfl, h.cell 16 rfl, h.cell 17 rfl, h.cell 18 rfl, h.cell 19 rfl, h.cell 20 rfl, h.cell 21 rfl, h.cell 22 rfl, h.cell 23 rfl⟩
theorem kS {W : World} {b : Nat} {d : Po.Decl} {v : Value} {t : TypeId} (h : Blk W b (declCells d v) t) : W.cell? ⟨b, 0, none⟩ = some (.int .i64 d.kind) ∧ W.cell? ⟨b, 1, none⟩ = some (.string d.name) := ⟨h.cell 0 rfl, h.cell 1 rfl⟩
theorem BRow.grownOwn {w w' : World} {v : Value} {l : List Po.Box} {row : Option Nat} (h : BRow w v l) (hg : w.grownBy w' row) (hn : l = [] ∨ ∀ k, v.ownBlock = some k → row ≠ some k) : BRow w' v l := by
  rcases hn with rfl | hn
  · obtain ⟨p, c, rfl⟩ := h.shape
    exact .inl ⟨p, c, rfl, rfl⟩
  · refine h.imp id fun r => r.same hg.size (fun b hb => hg.block b (r.own_lt hb) (fun e => hn b hb e.symm))
/-- boxes that lie in memory, none in the row of the rules -/
def POwn (B : Nat) (w : World) (v : Value) (ps : List RP) : Prop := ∀ p ∈ ps, BRow w p.2 p.1.boxes ∧ p.1.boxes.length ≤ 140737488355328 ∧ (p.1.boxes = [] ∨ ∀ k, p.2.ownBlock = some k → v.ownBlock ≠ some k ∧ k ≠ B)
theorem POwn.ext {B : Nat} {w w' : World} {v : Value} {ps : List RP} (h : POwn B w v ps) (hb : Below w.heap.size w w') : POwn B w' v ps := fun p hp => ⟨(h p hp).1.ext hb, (h p hp).2⟩
theorem POwn.alloc {B : Nat} {w : World} {v : Value} {ps : List RP} (h : POwn B w v ps) (o : Obj) : POwn B (w.alloc o) v ps := h.ext (balloc w o)
theorem POwn.pin {B : Nat} {w w' : World} {v : Value} {ps : List RP} (h : POwn B w v ps) (ht : Touch B w w') : PIn w' ps := fun p hp => by
  obtain ⟨h1, h2, h3⟩ := h p hp
  refine ⟨?_, h2⟩
  rcases h3 with h3 | h3
  · obtain ⟨q, c, hv⟩ := h1.shape
    rw [h3] at hv ⊢
    exact .inl ⟨q, c, hv, rfl⟩
  · exact h1.touch ht (fun e => (h3 B e).2 rfl)
theorem POwn.snoc {w w6 : World} {v v6 x : Value} {ps : List RP} {r : Ru.Rule} {B0 B1 : Nat} (h : POwn B0 w v ps) (hB : B0 < B1) (hx : BRow w x r.boxes) (hn : r.boxes.length ≤ 140737488355328) (ho : BoxOwn x r.boxes B0 B1) (hv : ∀ k, v.ownBlock = some k → B0 < k ∧ k < B1) (hg : w.grownBy w6 v.ownBlock) (hat : v6.ownBlock = v.ownBlock ∨ v6.ownBlock = some w.heap.size) :
    POwn B0 w6 v6 (ps ++ [(r, x)]) := by
  have hx2 : r.boxes = [] ∨ ∀ k, x.ownBlock = some k → v.ownBlock ≠ some k ∧ k ≠ B0 := ho.imp id fun h k e => ⟨fun e2 => by have := h k e; have := hv k e2; omega, by have := h k e; omega⟩
  have key : ∀ (l : List Po.Box) (y : Value), BRow w y l → (l = [] ∨ ∀ k, y.ownBlock = some k → v.ownBlock ≠ some k ∧ k ≠ B0) → BRow w6 y l ∧ (l = [] ∨ ∀ k, y.ownBlock = some k → v6.ownBlock ≠ some k ∧ k ≠ B0) := by
    intro l y hy hne
    refine ⟨hy.grownOwn hg (hne.imp id fun h k e => (h k e).1), ?_⟩
    rcases hy with ⟨_, _, _, h0⟩ | hr
    · exact .inl h0
    · refine hne.imp id fun h k e => ⟨fun e6 => ?_, (h k e).2⟩
      rcases hat with ha | ha
      · exact (h k e).1 (ha ▸ e6)
      · rw [ha] at e6
        cases e6
        have := hr.own_lt e
        omega
  intro p hp
  rcases List.mem_append.1 hp with hp | hp
  · obtain ⟨h1, h2, h3⟩ := h p hp
    obtain ⟨k1, k2⟩ := key _ _ h1 h3
    exact ⟨k1, h2, k2⟩
  · rw [List.mem_singleton.1 hp]
    obtain ⟨k1, k2⟩ := key _ _ hx hx2
    exact ⟨k1, hn, k2⟩
theorem rrule_ok {a : List Po.Decl} {d : Po.Decl} {n b : Int} {r : Ru.Rule} (h : Ru.rrule a d n b = .ok r) (hb : b ≤ 32) : b + r.boxes.length ≤ 32 ∧ n < 32 := by
  unfold Ru.rrule at h
  repeat' split at h
  all_goals first
    | (cases h; done)
    | (cases h; refine ⟨?_, by omega⟩; first | (simp; omega) | (simp only; omega))
theorem BRow.setOther {w : World} {v : Value} {l : List Po.Box} {k : Nat} (h : BRow w v l) (hne : l = [] ∨ v.ownBlock ≠ some k) (o : Nat) (u : Value) : BRow (w.setCell ⟨k, o, none⟩ u) v l := by
  rcases hne with rfl | hne
  · obtain ⟨p, c, rfl⟩ := h.shape
    exact .inl ⟨p, c, rfl, rfl⟩
  · exact h.touch ((Touch.refl k w).setCell o u) hne
theorem box_sets7 {w : World} {v : Value} {l : List Po.Box} {k : Nat} (h : BRow w v l) (hne : l = [] ∨ v.ownBlock ≠ some k) (a0 a1 a2 a3 a4 a5 a6 : Value) : BRow (((((((w.setCell ⟨k, 0, none⟩ (a0)).setCell ⟨k, 1, none⟩ (a1)).setCell ⟨k, 2, none⟩ (a2)).setCell ⟨k, 3, none⟩ (a3)).setCell ⟨k, 4, none⟩ (a4)).setCell ⟨k, 5, none⟩ (a5)).setCell ⟨k, 6, none⟩ (a6)) v l :=
  ((((((h.setOther hne 0 a0).setOther hne 1 a1).setOther hne 2 a2).setOther hne 3 a3).setOther hne 4 a4).setOther hne 5 a5).setOther hne 6 a6
theorem box_sets3 {w : World} {v : Value} {l : List Po.Box} {k : Nat} (h : BRow w v l) (hne : l = [] ∨ v.ownBlock ≠ some k) (a0 a1 a2 : Value) : BRow (((w.setCell ⟨k, 0, none⟩ (a0)).setCell ⟨k, 1, none⟩ (a1)).setCell ⟨k, 2, none⟩ (a2)) v l :=
  ((h.setOther hne 0 a0).setOther hne 1 a1).setOther hne 2 a2
/-- what the document's Check returns -/
def RCheckPost (l : List Po.Decl) (w' : World) (e : Ending) : Prop :=
  match Ru.rcheckV l with
  | .ok rs => ∃ v, e = .returned (.tuple #[v, .agg #[.int .i64 0, .int .i64 0, .int .i64 0]]) ∧ RSl w' v rs ∧ rs.length ≤ 33
  | .error (er, x, y) => ∃ k, e = .returned (.tuple #[.slice (some ⟨k, 0, none⟩) 0 0, .agg #[.int .i64 er, .int .i64 x, .int .i64 y]]) ∧ k < w'.heap.size
theorem DRow.take {w : World} {g off cap : Nat} {ds : List Po.Decl} (h : DRow w g off cap ds) (i : Nat) : DRow w g off cap (ds.take i) :=
  ⟨by have := h.cap; rw [List.length_take]; omega, h.lt, fun j hj => by
    have hj2 : j < ds.length := by rw [List.length_take] at hj; omega
    obtain ⟨x, h1, h2⟩ := h.get j hj2
    rw [List.getElem_take]
    exact ⟨x, h1, h2⟩⟩


end Go.Proofs.Ytelphkhacadfaaa
