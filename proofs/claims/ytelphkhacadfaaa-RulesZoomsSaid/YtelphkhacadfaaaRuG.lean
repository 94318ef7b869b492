/- Rows of declarations in memory; the walk of policy.Right. -/
import Derived.Test.YtelphkhacadfaaaRuF
import Derived.Test.YtelphkhacadfaaaRuCheck
namespace Go.Proofs.Ytelphkhacadfaaa
open Go.RowKit Go.Sort

/-- a declaration whose texts and boxes are of a size that can be -/
structure DSmall (d : Po.Decl) : Prop where
  name : d.name.size ≤ 140737488355328
  role : d.role.name.size ≤ 140737488355328
  label : d.label.name.size ≤ 140737488355328
  place : d.place.name.size ≤ 140737488355328
  boxes : d.boxes.length * 32 ≤ 140737488355328
/-- a row of declarations in memory -/
structure DRow (w : World) (g off cap : Nat) (ds : List Po.Decl) : Prop where
  cap : ds.length ≤ cap
  lt : g < w.heap.size
  get : ∀ (i : Nat) (hi : i < ds.length), ∃ x, w.rangeAt g (off + i * 24) (declCells ds[i] x).toList ∧ BRow w x ds[i].boxes
theorem DRow.ext {w w' : World} {g off cap : Nat} {ds : List Po.Decl} (h : DRow w g off cap ds) (hb : Below w.heap.size w w') : DRow w' g off cap ds :=
  ⟨h.cap, Nat.lt_of_lt_of_le h.lt hb.size, fun i hi => by
    obtain ⟨x, h1, h2⟩ := h.get i hi
    exact ⟨x, fun j u hu => (hb.cell (p := ⟨g, off + i * 24 + j, none⟩) h.lt).trans (h1 j u hu), h2.ext hb⟩⟩
/-- a slice that reads as declarations -/
def DSl (w : World) (v : Value) (ds : List Po.Decl) : Prop := (v = .slice none 0 0 ∧ ds = []) ∨ ∃ g off cap, v = .slice (some ⟨g, off, none⟩) ds.length cap ∧ DRow w g off cap ds
theorem DSl.ext {w w' : World} {v : Value} {ds : List Po.Decl} (h : DSl w v ds) (hb : Below w.heap.size w w') : DSl w' v ds := h.imp id fun ⟨g, off, cap, hv, hr⟩ => ⟨g, off, cap, hv, hr.ext hb⟩
theorem DSl.shape {w : World} {v : Value} {ds : List Po.Decl} (h : DSl w v ds) : ∃ p c, v = .slice p ds.length c := by
  rcases h with ⟨rfl, rfl⟩ | ⟨g, off, cap, rfl, _⟩
  · exact ⟨_, _, rfl⟩
  · exact ⟨_, _, rfl⟩
theorem Decls.sl {w : World} {v : Value} {ds : List Po.Decl} {vs : List Value} (h : Decls w v ds vs) : DSl w v ds := by
  have hz : (ds.zip vs).length = ds.length := by rw [List.length_zip, h.len]; omega
  have hr : Row w v (ds.zip vs).length 24 ((ds.zip vs).flatMap fun p => (declCells p.1 p.2).toList) := by rw [hz]; exact h.row
  rcases srow_of (f := fun p : Po.Decl × Value => declCells p.1 p.2) (fun _ _ => rfl) hr with ⟨hv, h0⟩ | ⟨g, off, cap, hv, hs⟩
  · refine .inl ⟨hv, ?_⟩
    have : ds.length = 0 := by rw [← hz, h0]; rfl
    exact List.eq_nil_of_length_eq_zero this
  · rw [hz] at hv
    refine .inr ⟨g, off, cap, hv, by have := hs.cap; omega, hs.lt, fun i hi => ?_⟩
    have hi2 : i < vs.length := by rw [h.len]; exact hi
    have h1 := hs.get i (by omega)
    rw [List.getElem_zip] at h1
    exact ⟨vs[i], h1, (h.box i _ _ (List.getElem?_eq_getElem hi) (List.getElem?_eq_getElem hi2)).b⟩
/-- what the walk wants of declaration number i -/
structure DAt (w : World) (g o : Nat) (d : Po.Decl) (x : Value) : Prop where
  at_ : w.rangeAt g o (declCells d x).toList
  box : BRow w x d.boxes
  one : (declCells d x).all (·.oneCell') = true
theorem DRow.at {w w' : World} {g off cap : Nat} {ds : List Po.Decl} (h : DRow w g off cap ds) (hb : Below w.heap.size w w') {i : Nat} (hi : i < ds.length) : ∃ x, DAt w' g (off + i * 24) ds[i] x := by
  obtain ⟨x, h1, h2⟩ := (h.ext hb).get i hi
  exact ⟨x, h1, h2, declCells_one _ h2.one⟩

set_option maxRecDepth 100000 in
set_option maxHeartbeats 1000000 in
theorem pright_any {w : World} {v : Value} {l : List Po.Decl} (h : DSl w v l) (hn : l.length ≤ 140737488355328) (hs : ∀ d ∈ l, DSmall d) :
    Calls Try.prog 22 #[v] w fun e w' => e = .returned (.bool (l.all Ru.may)) ∧ Below w.heap.size w w' := by
  rcases h with ⟨rfl, rfl⟩ | ⟨g, off, cap, rfl, hr⟩
  · go_enter Try.func22, Try.ntmps22
    go_wp2_with fail
    go_loop [7] (fun u => u = .int .i64 0) (fun _ => 0)
    case atStart => rfl
    case round =>
      subst hrel
      go_wp2_with fail
      go_ret
      exact ⟨rfl, Below.refl _ _⟩
  · have hr' := hid hr
    have hs' := hid hs
    clear hr hs
    go_enter Try.func22, Try.ntmps22
    go_wp2_with fail
    go_loopw [7] (fun u wr => ∃ i : Nat, u = .int .i64 i ∧ i ≤ l.length ∧ Below w.heap.size w wr ∧ (l.take i).all Ru.may = true) (fun u _ => l.length - (intOf u).toNat)
    case atStart => exact ⟨0, rfl, Nat.zero_le _, Below.refl _ _, rfl⟩
    case round =>
      obtain ⟨i, rfl, hle, hQ, hall⟩ := hrel
      have hQ' := hid hQ
      have hall' := hid hall
      clear hQ hall
      by_cases hlt : i < l.length
      · obtain ⟨x, hs⟩ := hr'.out.at hQ'.out hlt
        have hx' := hid hs
        have hyes := hid (fun h => all_take hlt hall'.out h)
        have hno := hid (fun h => all_no (p := Ru.may) hlt h)
        have hsm := hs'.out _ (List.getElem_mem hlt)
        have hb := hid (may_any l[i] x (wr.alloc (.cells (declCells l[i] x) 60)) hsm.name hsm.role hsm.label hsm.place (hs.box.ext (balloc wr (.cells (declCells l[i] x) 60))) (by have := hsm.boxes; omega))
        clear hs hsm
        generalize l[i] = d at *
        go_wp2_with (first | (refine wpList_load_at rfl 60 (.tmp 9) rfl 10 rfl g (off + i * 24) (declCells d x) (hx'.out.at_) rfl Try.underlying60 rfl (by kernel_rfl) ?_) | (refine wpList_store_new rfl 60 (.tmp 4) (.tmp 10) rfl rfl wr 60 _ (declCells d x) rfl rfl rfl (by kernel_rfl) rfl (hx'.out.one) ?_) | (refine wpList_load_blk rfl 60 (.tmp 4) rfl 11 rfl wr.heap.size 60 (declCells d x) (Blk.new wr _ _) rfl Try.underlying60 rfl (by kernel_rfl) ?_))
        refine hb.out.mono ?_
        rintro e w1 ⟨rfl, hb1⟩
        have Q1 := hid (bthen hQ'.out (bthen (balloc wr _) hb1))
        generalize Ru.may d = rr at *
        cases rr with
        | true =>
          have hy := hid (hyes.out rfl)
          go_wp2_with fail
          go_roundw
          case rel => exact ⟨i + 1, by go_num, by omega, Q1.out, hy.out⟩
          case measure => simp [intOf]; omega
        | false =>
          have hy := hid (hno.out rfl)
          go_wp2_with fail
          go_ret
          exact ⟨ret_bool hy.out.symm, Q1.out⟩
      · obtain rfl : i = l.length := by omega
        have hf := hid (show l.all Ru.may = true by have h := hall'.out; rwa [List.take_of_length_le (Nat.le_refl _)] at h)
        go_wp2_with fail
        go_ret
        exact ⟨ret_bool hf.out.symm, hQ'.out⟩

end Go.Proofs.Ytelphkhacadfaaa
