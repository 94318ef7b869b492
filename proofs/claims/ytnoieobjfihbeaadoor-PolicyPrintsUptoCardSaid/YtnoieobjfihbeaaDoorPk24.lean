/-
  The walks of policy.first and policy.Print.
  Plain laws: what is read out of a text is small; what declarations come to may be. No program.
  What is read out of a text is small.
  Plain laws: how long a form is; the fixed calls of the laws' known. No program.
  Law 11: the walk of known.
  The walk of the document's own Place.
-/
import Derived.Test.YtnoieobjfihbeaaDoorPk22
import Derived.Test.YtnoieobjfihbeaaDoorPk15
import Derived.Test.YtnoieobjfihbeaaDoorPk23
import Derived.Test.YtnoieobjfihbeaaDoorPk12
import Derived.Test.YtnoieobjfihbeaaDoorPk02
import Derived.Test.YtnoieobjfihbeaaDoorPk01
import Derived.KernelRfl
import Derived.Test.YtnoieobjfihbeaaDoorPk07

namespace Go.Proofs.YtnoieobjfihbeaaDoor
open Go.RowKit Go.Sort

set_option maxRecDepth 100000 in
theorem first_1 (w : World) : Calls Tryd.prog 21 #[.int .i64 1] w fun e w' => e = .returned (.string ⟨(Pt.firstB 1).toArray⟩) ∧ w = w' := by
  have hix : ∀ w, Sem.run Tryd.prog (Instr.index 80 (.agg #[.string ⟨#[]⟩, .string ⟨#[114, 111, 108, 101]⟩, .string ⟨#[108, 97, 98, 101, 108]⟩, .string ⟨#[114, 101, 103, 105, 111, 110]⟩, .string ⟨#[97, 108, 108, 111, 119]⟩, .string ⟨#[99, 97, 112]⟩, .string ⟨#[99, 108, 111, 97, 107]⟩]) (.int .i64 1)) w = .ok (.string ⟨(Pt.firstB 1).toArray⟩) w := fun w => by kernel_rfl
  go_enter Tryd.func21, Tryd.ntmps21
  go_wp2
  go_ret
  exact ⟨rfl, rfl⟩
set_option maxRecDepth 100000 in
theorem first_2 (w : World) : Calls Tryd.prog 21 #[.int .i64 2] w fun e w' => e = .returned (.string ⟨(Pt.firstB 2).toArray⟩) ∧ w = w' := by
  have hix : ∀ w, Sem.run Tryd.prog (Instr.index 80 (.agg #[.string ⟨#[]⟩, .string ⟨#[114, 111, 108, 101]⟩, .string ⟨#[108, 97, 98, 101, 108]⟩, .string ⟨#[114, 101, 103, 105, 111, 110]⟩, .string ⟨#[97, 108, 108, 111, 119]⟩, .string ⟨#[99, 97, 112]⟩, .string ⟨#[99, 108, 111, 97, 107]⟩]) (.int .i64 2)) w = .ok (.string ⟨(Pt.firstB 2).toArray⟩) w := fun w => by kernel_rfl
  go_enter Tryd.func21, Tryd.ntmps21
  go_wp2
  go_ret
  exact ⟨rfl, rfl⟩
set_option maxRecDepth 100000 in
theorem first_3 (w : World) : Calls Tryd.prog 21 #[.int .i64 3] w fun e w' => e = .returned (.string ⟨(Pt.firstB 3).toArray⟩) ∧ w = w' := by
  have hix : ∀ w, Sem.run Tryd.prog (Instr.index 80 (.agg #[.string ⟨#[]⟩, .string ⟨#[114, 111, 108, 101]⟩, .string ⟨#[108, 97, 98, 101, 108]⟩, .string ⟨#[114, 101, 103, 105, 111, 110]⟩, .string ⟨#[97, 108, 108, 111, 119]⟩, .string ⟨#[99, 97, 112]⟩, .string ⟨#[99, 108, 111, 97, 107]⟩]) (.int .i64 3)) w = .ok (.string ⟨(Pt.firstB 3).toArray⟩) w := fun w => by kernel_rfl
  go_enter Tryd.func21, Tryd.ntmps21
  go_wp2
  go_ret
  exact ⟨rfl, rfl⟩
set_option maxRecDepth 100000 in
theorem first_4 (w : World) : Calls Tryd.prog 21 #[.int .i64 4] w fun e w' => e = .returned (.string ⟨(Pt.firstB 4).toArray⟩) ∧ w = w' := by
  have hix : ∀ w, Sem.run Tryd.prog (Instr.index 80 (.agg #[.string ⟨#[]⟩, .string ⟨#[114, 111, 108, 101]⟩, .string ⟨#[108, 97, 98, 101, 108]⟩, .string ⟨#[114, 101, 103, 105, 111, 110]⟩, .string ⟨#[97, 108, 108, 111, 119]⟩, .string ⟨#[99, 97, 112]⟩, .string ⟨#[99, 108, 111, 97, 107]⟩]) (.int .i64 4)) w = .ok (.string ⟨(Pt.firstB 4).toArray⟩) w := fun w => by kernel_rfl
  go_enter Tryd.func21, Tryd.ntmps21
  go_wp2
  go_ret
  exact ⟨rfl, rfl⟩
set_option maxRecDepth 100000 in
theorem first_5 (w : World) : Calls Tryd.prog 21 #[.int .i64 5] w fun e w' => e = .returned (.string ⟨(Pt.firstB 5).toArray⟩) ∧ w = w' := by
  have hix : ∀ w, Sem.run Tryd.prog (Instr.index 80 (.agg #[.string ⟨#[]⟩, .string ⟨#[114, 111, 108, 101]⟩, .string ⟨#[108, 97, 98, 101, 108]⟩, .string ⟨#[114, 101, 103, 105, 111, 110]⟩, .string ⟨#[97, 108, 108, 111, 119]⟩, .string ⟨#[99, 97, 112]⟩, .string ⟨#[99, 108, 111, 97, 107]⟩]) (.int .i64 5)) w = .ok (.string ⟨(Pt.firstB 5).toArray⟩) w := fun w => by kernel_rfl
  go_enter Tryd.func21, Tryd.ntmps21
  go_wp2
  go_ret
  exact ⟨rfl, rfl⟩
set_option maxRecDepth 100000 in
theorem first_6 (w : World) : Calls Tryd.prog 21 #[.int .i64 6] w fun e w' => e = .returned (.string ⟨(Pt.firstB 6).toArray⟩) ∧ w = w' := by
  have hix : ∀ w, Sem.run Tryd.prog (Instr.index 80 (.agg #[.string ⟨#[]⟩, .string ⟨#[114, 111, 108, 101]⟩, .string ⟨#[108, 97, 98, 101, 108]⟩, .string ⟨#[114, 101, 103, 105, 111, 110]⟩, .string ⟨#[97, 108, 108, 111, 119]⟩, .string ⟨#[99, 97, 112]⟩, .string ⟨#[99, 108, 111, 97, 107]⟩]) (.int .i64 6)) w = .ok (.string ⟨(Pt.firstB 6).toArray⟩) w := fun w => by kernel_rfl
  go_enter Tryd.func21, Tryd.ntmps21
  go_wp2
  go_ret
  exact ⟨rfl, rfl⟩
set_option maxRecDepth 100000 in
theorem first_any (k : Int) (h1 : 1 ≤ k) (h6 : k ≤ 6) (w : World) :
    Calls Tryd.prog 21 #[.int .i64 k] w fun e w' => e = .returned (.string ⟨(Pt.firstB k).toArray⟩) ∧ w = w' := by
  have hk : k = 1 ∨ k = 2 ∨ k = 3 ∨ k = 4 ∨ k = 5 ∨ k = 6 := by omega
  rcases hk with rfl | rfl | rfl | rfl | rfl | rfl
  · exact first_1 w
  · exact first_2 w
  · exact first_3 w
  · exact first_4 w
  · exact first_5 w
  · exact first_6 w

/-- what a declaration writes behind its first word, whatever its kind -/
theorem wrest_any {B b : Nat} {l : List UInt8} {w : World} (h : WB B b l w) (D : Po.Decl) (v : Value) (hm : Ru.may D = true) (hr : ∀ w', Below B w w' → BRow w' v D.boxes) (hn : D.boxes.length ≤ 140737488355328) (hlen : l.length + (Pt.restB D).length ≤ 140737488355328) :
    Calls Tryd.prog 22 #[.pointer (some ⟨b, 0, none⟩), .agg (declCells D v)] w fun e w' => e = .returned (.tuple #[]) ∧ WB B b (l ++ Pt.restB D) w' ∧ Wrote B b w w' := by
  obtain ⟨bp, bc, rfl⟩ := (hr w (Below.refl _ _)).shape
  unfold Pt.restB at *
  cases Pt.may_cases hm with
  | named hk h1 h2 h3 h4 h5 =>
    rw [if_pos hk] at hlen ⊢
    rcases hk with hk | hk
    · exact wrest_1 h D bp bc hk h2 hlen
    · exact wrest_2 h D bp bc hk h2 hlen
  | region hk h1 h2 hb h3 h4 h5 =>
    rw [if_neg (by omega), if_pos hk] at hlen ⊢
    exact wrest_3 h D bp bc hk hr hb hn hlen
  | rule hk h1 h2 h3 hrole hlo hhi hz hl hp =>
    rw [if_neg (by omega), if_neg (by omega), if_neg (by omega)] at hlen ⊢
    rcases hk with hk | hk
    · exact wrest_4 h D bp bc hk hrole hlo hhi hl (Pt.place_right hp) hz hlen
    · exact wrest_5 h D bp bc hk hrole hlo hhi hl (Pt.place_right hp) hz hlen
  | cloak hk h1 h2 h3 hrole h4 =>
    rw [if_neg (by omega), if_neg (by omega), if_pos hk] at hlen ⊢
    exact wrest_6 h D bp bc hk hrole hlen

theorem lines_take {l : List Po.Decl} {i : Nat} (h : i < l.length) : (l.take (i + 1)).flatMap Pt.lineB = (l.take i).flatMap Pt.lineB ++ Pt.lineB l[i] := by
  rw [(List.take_append_getElem h).symm, List.flatMap_append, List.flatMap_cons, List.flatMap_nil, List.append_nil]
theorem lines_le {l : List Po.Decl} {i : Nat} (h : i < l.length) : ((l.take i).flatMap Pt.lineB).length + (Pt.lineB l[i]).length ≤ (l.flatMap Pt.lineB).length := by
  have e : l.flatMap Pt.lineB = (l.take (i + 1)).flatMap Pt.lineB ++ (l.drop (i + 1)).flatMap Pt.lineB := by rw [← List.flatMap_append, List.take_append_drop]
  rw [e, lines_take h, List.length_append, List.length_append]
  omega
theorem line_parts (d : Po.Decl) : (Pt.lineB d).length = (Pt.firstB d.kind).length + (Pt.restB d).length + 2 := by unfold Pt.lineB; simp; omega
theorem lines_some {l : List Po.Decl} (h : 0 < l.length) : l.flatMap Pt.lineB ≠ [] := by
  cases l with
  | nil => simp at h
  | cons d l => simp [Pt.lineB]

set_option maxRecDepth 100000 in
set_option maxHeartbeats 4000000 in
theorem print_bad {w : World} {v : Value} {l : List Po.Decl} (h : DSl w v l) (hn : l.length ≤ 140737488355328) (hs : ∀ d ∈ l, DSmall d) (ha : l.all Ru.may = false) :
    Calls Tryd.prog 12 #[v] w fun e w' => e = .returned (.string ⟨(Pt.printB l).toArray⟩) ∧ Below w.heap.size w w' := by
  have e := hid (show Pt.printB l = [] by unfold Pt.printB; rw [ha]; rfl)
  have hp := hid (pright_any h hn hs)
  rw [ha] at hp
  clear h hs ha
  rw [e.out]
  go_enter Tryd.func12, Tryd.ntmps12
  go_wp2_with fail
  refine hp.out.mono ?_
  rintro en w1 ⟨rfl, hb1⟩
  have Q := hid hb1
  clear hb1 hp
  go_wp2_with fail
  go_ret
  exact ⟨rfl, Q.out⟩

set_option maxRecDepth 100000 in
set_option maxHeartbeats 4000000 in
theorem print_good {w : World} {v : Value} {l : List Po.Decl} (h : DSl w v l) (hn : l.length ≤ 140737488355328) (hs : ∀ d ∈ l, DSmall d) (ha : l.all Ru.may = true) (ht : TabU w) (hlen : (l.flatMap Pt.lineB).length ≤ 140737488355328) :
    Calls Tryd.prog 12 #[v] w fun e w' => e = .returned (.string ⟨(Pt.printB l).toArray⟩) ∧ Below w.heap.size w w' := by
  have e := hid (show Pt.printB l = l.flatMap Pt.lineB by unfold Pt.printB; rw [if_pos ha])
  have hp := hid (pright_any h hn hs)
  rw [ha] at hp
  have ha' := hid ha
  have hs' := hid hs
  have ht' := hid ht
  have hl' := hid hlen
  have hds := hid h
  obtain ⟨vp, vc, rfl⟩ := h.shape
  clear h hs ha ht hlen
  rw [e.out]
  go_enter Tryd.func12, Tryd.ntmps12
  go_wp2_with fail
  refine hp.out.mono ?_
  rintro en w1 ⟨rfl, hb1⟩
  have Q1 := hid hb1
  have N1 := hid (WB.new (tab_ext ht'.out hb1))
  have hBw := hb1.size
  have Z1 := hid (hb1.trans ((balloc w1 (.cells #[.pointer none, .slice none 0 0] 53)).mono hBw))
  have A1 := hid (Blk.new w1 #[.pointer none, .slice none 0 0] 53)
  clear hb1 hp
  go_wp2_with fail
  generalize w1.alloc (.cells #[.pointer none, .slice none 0 0] 53) = w2 at *
  generalize w1.heap.size = b at *
  clear Q1
  go_loopw [13] (fun u wr => ∃ i : Nat, u = .int .i64 i ∧ i ≤ l.length ∧ WB b b ((l.take i).flatMap Pt.lineB) wr ∧ Below w.heap.size w wr ∧ (i = 0 → Blk wr b #[.pointer none, .slice none 0 0] 53)) (fun u _ => l.length - (intOf u).toNat)
  case atStart => exact ⟨0, rfl, Nat.zero_le _, N1.out, Z1.out, fun _ => A1.out⟩
  case round =>
    obtain ⟨i, rfl, hle, hB, hQ, hA⟩ := hrel
    have B0 := hid hB
    have Q0 := hid hQ
    have A0 := hid hA
    clear hB hQ hA N1 Z1 A1
    by_cases hlt : i < l.length
    · rcases hds.out with ⟨_, h0⟩ | ⟨g, off, cap, hv, hr⟩
      · rw [h0] at hlt; simp at hlt
      cases hv
      have i0 : (0 : Int) ≤ i := by omega
      have i1 : (i : Int) < l.length := by omega
      obtain ⟨x, h1, h2⟩ := hr.get i hlt
      have hx := hid (show wr.rangeAt g (off + i * 24) (declCells l[i] x).toList from fun j u hu => (Q0.out.cell (p := ⟨g, off + i * 24 + j, none⟩) hr.lt).trans (h1 j u hu))
      have hbx := hid h2
      have hone := hid (declCells_one l[i] h2.one)
      have hsm := hs'.out _ (List.getElem_mem hlt)
      have hmay := hid (List.all_eq_true.1 ha'.out _ (List.getElem_mem hlt))
      have hkk := Ru.may_kind hmay.out
      have htk := hid (lines_take hlt)
      have hll := lines_le hlt
      have hl0 := hl'.out
      have hbn := hsm.boxes
      rw [line_parts] at hll
      have hL := hid (show ((l.take i).flatMap Pt.lineB).length + ((Pt.firstB l[i].kind).length + (Pt.restB l[i]).length + 2) ≤ 140737488355328 by omega)
      clear hsm h1 h2 hr hll hl0
      generalize l[i] = d at *
      generalize (l.take i).flatMap Pt.lineB = acc at *
      have z := balloc wr (.cells (declCells d x) 44)
      have B1 := hid (B0.out.ext z)
      have Q1 := hid (Q0.out.trans (z.mono Q0.out.size))
      have D1 := hid (Blk.new wr (declCells d x) 44)
      have hkb : wr.heap.size ≠ b := by have := B0.out.lt; omega
      have hbw := Q0.out.size
      clear z
      go_upto_region 7 with (first | (refine wpList_load_at rfl 44 (.tmp 15) rfl 16 rfl g (off + i * 24) (declCells d x) (hx.out) rfl Tryd.underlying44 rfl (by kernel_rfl) ?_) | (refine wpList_store_new rfl 44 (.tmp 5) (.tmp 16) rfl rfl wr 44 _ (declCells d x) rfl rfl rfl (by kernel_rfl) rfl (hone.out) ?_))
      clear hx hone
      generalize wr.alloc (.cells (declCells d x) 44) = wa at *
      generalize wr.heap.size = k at *
      have B2 := hid B1.out.drew
      have Q2 := hid Q1.out.drew
      have D2 := hid (Blk.drew D1.out)
      have S2 : wa.drew.cell? ⟨k, 0, none⟩ = some (.int .i64 d.kind) := D2.out.cell 0 rfl
      clear B1 Q1 D1 B0 Q0
      go_region_held3 (fun w' => w'.cell? ⟨k, 0, none⟩ = some (.int .i64 d.kind)) (first | with_reducible assumption | go_keep) (first
        | ((go_at_call 21
            with_reducible refine (first_any d.kind hkk.1 hkk.2 _).mono ?_
            rintro en w3 ⟨rfl, rfl⟩))
        | ((go_at_call 20
            with_reducible refine (bwrite_any B2.out ⟨(Pt.firstB d.kind).toArray⟩ (by have := hL.out; rw [txt_size]; omega)).mono ?_
            rintro en w4 ⟨rfl, h4, q4⟩
            rw [txt_bytes] at h4
            have B4 := hid h4
            have Q4 := hid (Q2.out.trans (q4.bel.mono hBw))
            have D4 := hid (D2.out.wrote q4 hkb (by decide))
            have S4 : w4.cell? ⟨k, 0, none⟩ = some (.int .i64 d.kind) := D4.out.cell 0 rfl
            clear h4 q4 S2 B2 Q2 D2)))
      clear S4
      go_wp2_with (first | (refine wpList_load_blk rfl 44 (.tmp 5) rfl 25 rfl k 44 (declCells d x) (D4.out) rfl Tryd.underlying44 rfl (by kernel_rfl) ?_))
      refine (wrest_any B4.out d x hmay.out (fun w' hw => hbx.out.ext (Q4.out.trans (hw.mono hBw))) (by omega) (by have := hL.out; rw [List.length_append]; omega)).mono ?_
      rintro en w5 ⟨rfl, h5, q5⟩
      have B5 := hid h5
      have Q5 := hid (Q4.out.trans (q5.bel.mono hBw))
      clear h5 q5 B4 Q4 D4
      go_wp2_with fail
      refine (bwrite_any B5.out ⟨#[59, 10]⟩ (by have := hL.out; simp only [List.length_append]; show _ + 2 ≤ _; omega)).mono ?_
      rintro en w6 ⟨rfl, h6, q6⟩
      have B6 := hid (show WB b b (acc ++ Pt.lineB d) w6 by
        have e : acc ++ Pt.lineB d = acc ++ Pt.firstB d.kind ++ Pt.restB d ++ (⟨#[59, 10]⟩ : ByteArray).data.toList := by unfold Pt.lineB; simp only [List.append_assoc]
        rw [e]; exact h6)
      have Q6 := hid (Q5.out.trans (q6.bel.mono hBw))
      clear h6 q6 B5 Q5
      go_wp2_with fail
      go_roundw
      case rel => exact ⟨i + 1, by go_num, by omega, by rw [htk.out]; exact B6.out, Q6.out, fun h => by omega⟩
      case measure => simp [intOf]; omega
    · obtain rfl : i = l.length := by omega
      have E := hid (show WB b b (l.flatMap Pt.lineB) wr by have h := B0.out; rwa [List.take_of_length_le (Nat.le_refl _)] at h)
      clear B0
      by_cases h0 : l.length = 0
      · have hA := hid (A0.out h0)
        have hl0 := hid (show l.flatMap Pt.lineB = [] by rw [List.eq_nil_of_length_eq_zero h0]; rfl)
        clear h0 A0
        go_wp2_with fail
        refine (bstring_nil (B := w.heap.size) hA.out).mono ?_
        rintro en w3 ⟨rfl, hb3⟩
        have Q3 := hid (Q0.out.trans hb3)
        clear hb3
        go_wp2_with fail
        go_ret
        exact ⟨by rw [hl0.out]; rfl, Q3.out⟩
      · have hne := hid (lines_some (l := l) (by omega))
        clear h0 A0
        go_wp2_with fail
        refine (bstring_some E.out hne.out).mono ?_
        rintro en w3 ⟨rfl, hb3⟩
        have Q3 := hid (Q0.out.trans (hb3.mono hBw))
        clear hb3
        go_wp2_with fail
        go_ret
        exact ⟨rfl, Q3.out⟩

theorem print_any {w : World} {v : Value} {l : List Po.Decl} (h : DSl w v l) (hn : l.length ≤ 140737488355328) (hs : ∀ d ∈ l, DSmall d) (ht : TabU w) (hlen : l.all Ru.may = true → (l.flatMap Pt.lineB).length ≤ 140737488355328) :
    Calls Tryd.prog 12 #[v] w fun e w' => e = .returned (.string ⟨(Pt.printB l).toArray⟩) ∧ Below w.heap.size w w' := by
  cases ha : l.all Ru.may with
  | true => exact print_good h hn hs ha ht (hlen ha)
  | false => exact print_bad h hn hs ha

end Go.Proofs.YtnoieobjfihbeaaDoor

namespace Go.Proofs.YtnoieobjfihbeaaDoor.Po
open Lx

variable {T : List Tok} {e : Nat × Nat}
theorem takeTok_small (hT : ∀ t ∈ T, t.text.length ≤ 512) (k : Nat) (st : St) : (txt (takeTok T k st).text).size ≤ 512 := by
  have h : (takeTok T k st).text.length ≤ 512 := by
    unfold takeTok
    split
    · cases h : T[st.at_]? with
      | none => simp [zeroTok]
      | some t => exact hT t (List.mem_of_getElem? h)
    · simp [zeroTok]
  simpa [txt, ByteArray.size] using h
theorem empty_small : (⟨#[]⟩ : ByteArray).size ≤ 512 := by decide
theorem whoV_small (hT : ∀ t ∈ T, t.text.length ≤ 512) (st : St) : (whoV T e st).name.size ≤ 512 := by
  unfold whoV
  split
  · exact empty_small
  · split
    · exact takeTok_small hT _ _
    · exact empty_small
theorem whereV_small (hT : ∀ t ∈ T, t.text.length ≤ 512) (st : St) : (whereV T e st).name.size ≤ 512 := by
  unfold whereV
  split
  · exact empty_small
  · exact takeTok_small hT _ _
theorem moreV_len (f : Nat) : ∀ st : St, (moreV T e f st).length ≤ f := by
  induction f with
  | zero => intro st; simp [moreV]
  | succ f ih =>
    intro st
    unfold moreV
    split
    · simp only [List.length_cons]; have := ih (boxS T e (on st)); omega
    · simp
/-- a declaration out of a text -/
structure Sm (d : Decl) : Prop where
  name : d.name.size ≤ 512
  role : d.role.name.size ≤ 512
  label : d.label.name.size ≤ 512
  place : d.place.name.size ≤ 512
  boxes : d.boxes.length ≤ 600
theorem ruleV_small (hT : ∀ t ∈ T, t.text.length ≤ 512) {D : Decl} (hn : D.name.size ≤ 512) (hb : D.boxes.length ≤ 600) (st : St) : Sm (ruleV T e D st) := by
  have h1 := whoV_small (e := e) hT (want T e wRole st)
  have h2 := whoV_small (e := e) hT (rs2 T e st)
  have h3 := whereV_small (e := e) hT (rs3 T e st)
  unfold ruleV
  generalize whoV T e (want T e wRole st) = a at *
  generalize whoV T e (rs2 T e st) = b at *
  generalize whereV T e (rs3 T e st) = c at *
  exact ⟨hn, h1, h2, h3, hb⟩
theorem declAt_small (st : St) (k : Int) : (declAt T e st k).name.size ≤ 512 ∧ (declAt T e st k).boxes.length ≤ 600 := ⟨empty_small, Nat.zero_le _⟩
theorem declV_small (hT : ∀ t ∈ T, t.text.length ≤ 512) (hn : T.length ≤ 512) (st : St) : Sm (declV T e st) := by
  unfold declV
  have hz : (⟨#[]⟩ : ByteArray).size ≤ 512 := empty_small
  split
  · exact ⟨takeTok_small hT _ _, hz, hz, hz, by simp [namedV, declAt, zeroDecl]⟩
  · split
    · exact ⟨takeTok_small hT _ _, hz, hz, hz, by simp [namedV, declAt, zeroDecl]⟩
    · split
      · refine ⟨takeTok_small hT _ _, hz, hz, hz, ?_⟩
        show (boxesV T e _).length ≤ 600
        unfold boxesV
        have := moreV_len (T := T) (e := e) (T.length + 1) (boxS T e (want T e [61] (takeSt T e 1 (on st))))
        simp only [List.length_cons]
        omega
      · split
        · exact ruleV_small hT (declAt_small _ _).1 (declAt_small _ _).2 _
        · split
          · exact ruleV_small hT (declAt_small _ _).1 (declAt_small _ _).2 _
          · split
            · exact ⟨hz, whoV_small hT _, hz, hz, by simp [cloakV, declAt, zeroDecl]⟩
            · exact ruleV_small hT (declAt_small _ _).1 (declAt_small _ _).2 _
theorem parseV_small (hT : ∀ t ∈ T, t.text.length ≤ 512) (hn : T.length ≤ 512) (f : Nat) : ∀ st : St, (parseV T e f st).length ≤ f ∧ ∀ d ∈ parseV T e f st, Sm d := by
  induction f with
  | zero => intro st; simp [parseV]
  | succ f ih =>
    intro st
    unfold parseV
    split
    · obtain ⟨h1, h2⟩ := ih (declS T e st)
      refine ⟨by simp only [List.length_cons]; omega, fun d hd => ?_⟩
      rcases List.mem_cons.1 hd with rfl | hd
      · exact declV_small hT hn st
      · exact h2 d hd
    · simp
theorem parse_small {L : Bytes} {ds : List Decl} (h : parse L = .ok ds) : ds.length ≤ 513 ∧ ∀ d ∈ ds, Sm d := by
  unfold parse at h
  cases hk : tokens L with
  | error f => rw [hk] at h; cases h
  | ok T =>
    rw [hk] at h
    simp only at h
    obtain ⟨b1, b2⟩ := tokens_bound hk
    split at h
    · simp only [Except.ok.injEq] at h
      subst h
      have := parseV_small (e := posOf L) b2 b1 (T.length + 1) st0
      generalize parseV T (posOf L) (T.length + 1) st0 = ds at *
      exact ⟨by omega, this.2⟩
    · cases h

end Go.Proofs.YtnoieobjfihbeaaDoor.Po
namespace Go.Proofs.YtnoieobjfihbeaaDoor.Ru
open Po (Box Who Decl)

/-! ### what a policy's rules are -/
/-- what stands ahead has been checked -/
structure Good (a : List Decl) : Prop where
  num : ∀ d ∈ a, d.kind = 1 ∨ d.kind = 2 → 0 ≤ d.n ∧ d.n ≤ 7
  reg : ∀ d ∈ a, d.kind = 3 → boxesR d.boxes = true
theorem declared_mem {a : List Decl} {k : Int} {nm : ByteArray} {d : Decl} (h : declared a k nm = some d) : d ∈ a ∧ d.kind = k := by
  unfold declared at h
  have h1 := List.find?_some h
  simp only [Bool.and_eq_true, beq_iff_eq] at h1
  exact ⟨List.mem_of_find?_eq_some h, h1.1⟩
theorem pow_small {n : Int} (h0 : 0 ≤ n) (h7 : n ≤ 7) : small (2 ^ n.toNat) 255 = true := by
  have : n = 0 ∨ n = 1 ∨ n = 2 ∨ n = 3 ∨ n = 4 ∨ n = 5 ∨ n = 6 ∨ n = 7 := by omega
  rcases this with rfl | rfl | rfl | rfl | rfl | rfl | rfl | rfl <;> decide
theorem rightW_n {w : Who} (h : rightW w = true) (ha : w.any = false) : 0 ≤ w.n := by
  unfold rightW at h
  rw [ha, if_neg (by decide)] at h
  split at h
  · unfold num at h; simp only [Bool.and_eq_true, decide_eq_true_eq] at h; exact h.1
  · simp only [Bool.and_eq_true, beq_iff_eq] at h; omega
theorem whoN_pos {a : List Decl} (hg : Good a) {k : Int} (hk : k = 1 ∨ k = 2) {w : Who} (hw : rightW w = true) (ha : w.any = false) : 0 ≤ whoN a k w := by
  unfold whoN
  split
  · exact rightW_n hw ha
  · split
    · rename_i d hd
      obtain ⟨h1, h2⟩ := declared_mem hd
      exact (hg.num d h1 (by omega)).1
    · exact Int.le_refl _
theorem setN_small {a : List Decl} (hg : Good a) {k : Int} (hk : k = 1 ∨ k = 2) {w : Who} (hw : rightW w = true) : small (setN a k w) 255 = true := by
  unfold setN
  split
  · decide
  · rename_i ha
    split
    · decide
    · exact pow_small (whoN_pos hg hk hw (by simpa using ha)) (by omega)
theorem whereB_good {a : List Decl} (hg : Good a) (w : Who) : boxesR (whereB a w) = true := by
  unfold whereB
  split
  · decide
  · split
    · rename_i d hd
      obtain ⟨h1, h2⟩ := declared_mem hd
      exact hg.reg d h1 h2
    · rfl
theorem may_role {d : Decl} (h : may d = true) (hk : 3 < d.kind) : rightW d.role = true := by
  have h6 := may_kind h
  unfold may at h
  rw [if_neg (by omega), if_neg (by omega)] at h
  by_cases h4 : d.kind = 4 ∨ d.kind = 5
  · rw [if_pos h4] at h; unfold ruleD at h; simp only [Bool.and_eq_true] at h; exact h.2.1.1.1
  · rw [if_neg h4, if_pos (by omega)] at h; simp only [Bool.and_eq_true] at h; exact h.1.2
theorem may_rule {d : Decl} (h : may d = true) (hk : d.kind = 4 ∨ d.kind = 5) : rightW d.label = true ∧ 0 ≤ d.lo ∧ 0 ≤ d.zoom ∧ placeW d.place = true := by
  unfold may at h
  rw [if_neg (by omega), if_neg (by omega), if_pos hk] at h
  unfold ruleD num at h
  simp only [Bool.and_eq_true, decide_eq_true_eq] at h
  exact ⟨h.2.1.2, h.2.1.1.2.1.1.1, h.2.1.1.2.2.1, h.2.2⟩
theorem may_n {d : Decl} (h : may d = true) (hk : d.kind = 1 ∨ d.kind = 2) : 0 ≤ d.n := by
  unfold may at h
  rw [if_pos hk] at h
  unfold num at h
  simp only [Bool.and_eq_true, decide_eq_true_eq] at h
  exact h.1.1.1.2.1
theorem rrule_good {a : List Decl} (hg : Good a) {d : Decl} (hm : may d = true) (hk : 3 < d.kind) {n b : Int} {x : Rule} (h : rrule a d n b = .ok x) : ruleR x = true := by
  have h6 := may_kind hm
  unfold rrule at h
  rw [rsum_eq, rsum_eq, rwhere_eq] at h
  have hr := setN_small hg (k := 1) (.inl rfl) (may_role hm hk)
  split at h
  · cases h
  · split at h
    · cases h
    · rename_i roles hroles
      split at hroles
      · simp only [Except.ok.injEq] at hroles
        subst hroles
        split at h
        · rename_i hk6
          simp only [Except.ok.injEq] at h
          subst h
          unfold ruleR
          rw [if_pos hk6, hr]
          rfl
        · rename_i hk6
          obtain ⟨hl, hlo, hz, _⟩ := may_rule hm (by omega)
          have hlb := setN_small hg (k := 2) (.inr rfl) hl
          split at h
          · cases h
          · rename_i ht
            split at h
            · cases h
            · rename_i labels hlabels
              split at hlabels
              · simp only [Except.ok.injEq] at hlabels
                subst hlabels
                split at h
                · cases h
                · rename_i bs hbs
                  split at hbs
                  · simp only [Except.ok.injEq] at hbs
                    subst hbs
                    split at h
                    · cases h
                    · split at h
                      · cases h
                      · simp only [Except.ok.injEq] at h
                        subst h
                        unfold ruleR
                        have hbb := whereB_good hg d.place
                        rw [if_neg hk6, if_pos (by show d.kind = 4 ∨ d.kind = 5; omega)]
                        simp only [hr, hlb, hbb, Bool.true_and, Bool.and_true]
                        unfold small
                        simp only [Bool.and_eq_true, decide_eq_true_eq]
                        omega
                  · cases hbs
              · cases hlabels
      · cases hroles
theorem rrun_good (l : List Decl) : ∀ (a : List Decl) (out : List Rule) (b : Int) (rs : List Rule), Good a → (∀ d ∈ l, may d = true) → rulesR out = true → rrun a l out b = .ok rs → rulesR rs = true ∧ rs.length = out.length + (l.filter fun d => decide (3 < d.kind)).length := by
  induction l with
  | nil =>
    intro a out b rs _ _ ho h
    unfold rrun at h
    simp only [Except.ok.injEq] at h
    subst h
    exact ⟨ho, by simp⟩
  | cons d l ih =>
    intro a out b rs hg hm ho h
    have hd := hm d List.mem_cons_self
    have hm' : ∀ d ∈ l, may d = true := fun x hx => hm x (List.mem_cons_of_mem _ hx)
    have hk := may_kind hd
    unfold rrun at h
    by_cases h3 : 3 < d.kind
    · rw [if_pos h3] at h
      cases hr : rrule a d out.length b with
      | error f => rw [hr] at h; cases h
      | ok x =>
        rw [hr] at h
        simp only at h
        have hx := rrule_good hg hd h3 hr
        have hg2 : Good (a ++ [d]) := ⟨fun y hy hk => by
          rcases List.mem_append.1 hy with hy | hy
          · exact hg.num y hy hk
          · rw [List.mem_singleton.1 hy] at hk; omega, fun y hy hk => by
          rcases List.mem_append.1 hy with hy | hy
          · exact hg.reg y hy hk
          · rw [List.mem_singleton.1 hy] at hk; omega⟩
        obtain ⟨h1, h2⟩ := ih _ _ _ rs hg2 hm' (by unfold rulesR at *; rw [List.all_append, ho]; simp [hx]) h
        refine ⟨h1, ?_⟩
        rw [h2, List.filter_cons_of_pos (by simpa using h3)]
        simp only [List.length_append, List.length_cons, List.length_nil]
        omega
    · rw [if_neg h3] at h
      split at h
      · cases h
      · split at h
        · cases h
        · rename_i hb
          rw [rbad_eq hd (by omega)] at hb
          have hg2 : Good (a ++ [d]) := ⟨fun y hy hk => by
            rcases List.mem_append.1 hy with hy | hy
            · exact hg.num y hy hk
            · rw [List.mem_singleton.1 hy] at hk ⊢
              rw [if_neg (by omega)] at hb
              exact ⟨may_n hd hk, by simpa using hb⟩, fun y hy hk => by
            rcases List.mem_append.1 hy with hy | hy
            · exact hg.reg y hy hk
            · rw [List.mem_singleton.1 hy] at hk ⊢
              rw [if_pos hk] at hb
              simpa using hb⟩
          obtain ⟨h1, h2⟩ := ih _ _ _ rs hg2 hm' ho h
          refine ⟨h1, ?_⟩
          rw [h2, List.filter_cons_of_neg (by simpa using h3)]
theorem check_good {l : List Decl} {rs : List Rule} (h : checkV l = .ok rs) : rulesR rs = true ∧ rs.length = (l.filter fun d => decide (3 < d.kind)).length := by
  rw [← rcheck_eq] at h
  unfold rcheckV at h
  have e : l.all rRight = l.all may := by congr 1; funext d; exact may_eq d
  rw [e] at h
  split at h
  · rename_i hm
    have := rrun_good l [] [] 0 rs ⟨by simp, by simp⟩ (fun d hd => List.all_eq_true.1 hm d hd) rfl h
    simpa using this
  · cases h

end Go.Proofs.YtnoieobjfihbeaaDoor.Ru

namespace Go.Proofs.YtnoieobjfihbeaaDoor
open Go.RowKit Go.Sort

theorem DSmall.of {d : Po.Decl} (h : Po.Sm d) : DSmall d :=
  ⟨by have := h.name; omega, by have := h.role; omega, by have := h.label; omega, by have := h.place; omega, by have := h.boxes; omega⟩

end Go.Proofs.YtnoieobjfihbeaaDoor

namespace Go.Proofs.YtnoieobjfihbeaaDoor.Pt
open Lx Po

theorem dec_len (k : Nat) : ∀ u : Nat, u < 10 ^ (k + 1) → (Go.Lib.decDigits u).length ≤ k + 1 := by
  induction k with
  | zero => intro u h; rw [Go.Lib.decDigits, dif_pos (by simpa using h)]; simp
  | succ k ih =>
    intro u h
    rw [Go.Lib.decDigits]
    split
    · simp
    · rw [List.length_append, List.length_singleton]
      have := ih (u / 10) (by rw [Nat.pow_succ] at h; omega)
      omega
theorem itoa_len {n : Int} (h : Ru.num n = true) : (Go.Lib.itoa n).length ≤ 5 := by
  unfold Ru.num at h
  simp only [Bool.and_eq_true, decide_eq_true_eq] at h
  unfold Go.Lib.itoa
  rw [if_neg (by omega)]
  exact dec_len 4 _ (by have := h.1; have := h.2; show n.toNat < 100000; omega)
theorem name_len {s : Bytes} (h : isName s = true) : s.length ≤ 16 := by
  cases s with
  | nil => simp
  | cons c s => unfold isName at h; simp only [Bool.and_eq_true, decide_eq_true_eq] at h; exact h.1.1.1
theorem who_len {all : Bytes} (ha : all.length ≤ 16) {w : Who} (h : Ru.rightW w = true) : (whoB all w).length ≤ 16 := by
  unfold whoB
  unfold Ru.rightW at h
  split
  · exact ha
  · rename_i hf
    rw [if_neg hf] at h
    split
    · rename_i h0
      rw [h0] at h
      have := itoa_len (show Ru.num w.n = true by simpa using h)
      omega
    · rename_i h0
      rw [if_neg (by simpa using h0)] at h
      simp only [Bool.and_eq_true] at h
      exact name_len h.2
theorem tiers_len {lo hi : Int} (h1 : Ru.num lo = true) (h2 : Ru.num hi = true) : (tiersB lo hi).length ≤ 12 := by
  have a := itoa_len h1
  have b := itoa_len h2
  unfold tiersB
  split
  · decide
  · split
    · omega
    · simp only [List.length_append, List.length_cons, List.length_nil]; omega
theorem box_len {b : Box} (h : Ru.boxN b = true) : (boxB b).length ≤ 24 := by
  unfold Ru.boxN at h
  simp only [Bool.and_eq_true] at h
  have a := itoa_len h.1.1.1
  have c := itoa_len h.1.1.2
  have d := itoa_len h.1.2
  have e := itoa_len h.2
  unfold boxB put
  simp only [List.flatMap_cons, List.flatMap_nil, List.length_append, List.length_cons, List.length_nil]
  omega
theorem boxes_len {l : List Box} (h : ∀ b ∈ l, Ru.boxN b = true) : (boxesB l).length ≤ 26 * l.length := by
  have key : ∀ l : List Box, (∀ b ∈ l, Ru.boxN b = true) → (l.flatMap plusB).length ≤ 26 * l.length := fun l => by
    induction l with
    | nil => intro _; simp
    | cons b l ih =>
      intro h
      have h1 := box_len (h b (by simp))
      have h2 := ih (fun x hx => h x (List.mem_cons_of_mem _ hx))
      rw [List.flatMap_cons, List.length_append, List.length_cons]
      have : (plusB b).length = 2 + (boxB b).length := by unfold plusB put; simp; omega
      omega
  cases l with
  | nil => simp [boxesB]
  | cons b l =>
    have h1 := box_len (h b (by simp))
    have h2 := key l (fun x hx => h x (List.mem_cons_of_mem _ hx))
    unfold boxesB
    rw [List.length_append, List.length_cons]
    omega
theorem line_len {d : Decl} (h : Ru.may d = true) : (lineB d).length ≤ 110 + 26 * d.boxes.length := by
  have hm := may_cases h
  have hf : (firstB d.kind).length ≤ 6 := by
    unfold firstB
    repeat' split
    all_goals decide
  have hp1 : ∀ a : Bytes, (put [a]).length = 1 + a.length := fun a => by unfold put; simp; omega
  have hp2 : ∀ a b : Bytes, (put [a, b]).length = 2 + a.length + b.length := fun a b => by unfold put; simp; omega
  have hp3 : ∀ a b c : Bytes, (put [a, b, c]).length = 3 + a.length + b.length + c.length := fun a b c => by unfold put; simp; omega
  unfold lineB
  rw [List.length_append, List.length_append]
  have : (restB d).length ≤ 100 + 26 * d.boxes.length := by
    unfold restB
    cases hm with
    | named h hn hi hb hr hz =>
      rw [if_pos h, hp3]
      have := name_len hn
      have := itoa_len hi
      simp only [List.length_cons, List.length_nil]
      omega
    | region h hn hi hb h0 hr hz =>
      rw [if_neg (by omega), if_pos h, List.length_append, hp2]
      have := name_len hn
      have := boxes_len hb
      simp only [List.length_cons, List.length_nil]
      omega
    | rule h hn hi hb hr h1 h2 h3 hl hp =>
      rw [if_neg (by omega), if_neg (by omega), if_neg (by omega)]
      simp only [List.length_append, hp1, hp2]
      have a1 := who_len (all := wAny) (by decide) hr
      have a2 := who_len (all := wAny) (by decide) hl
      have a3 := who_len (all := wAll) (by decide) (place_right hp)
      have a4 := tiers_len h1 h2
      have a5 := itoa_len h3
      have b1 : wRole.length = 4 := rfl
      have b2 : wTier.length = 4 := rfl
      have b3 : wLabel.length = 5 := rfl
      have b4 : wIn.length = 2 := rfl
      have b5 : wZoom.length = 4 := rfl
      omega
    | cloak h hn hi hb hr hz =>
      rw [if_neg (by omega), if_neg (by omega), if_pos h, List.length_append, hp1, hp1]
      have a1 := who_len (all := wAny) (by decide) hr
      have b1 : wRole.length = 4 := rfl
      omega
  simp only [List.length_cons, List.length_nil]
  omega
theorem lines_len {M : Nat} (l : List Decl) (h : ∀ d ∈ l, Ru.may d = true) (hb : ∀ d ∈ l, d.boxes.length ≤ M) : (l.flatMap lineB).length ≤ l.length * (110 + 26 * M) := by
  induction l with
  | nil => simp
  | cons d l ih =>
    have h1 := line_len (h d (by simp))
    have h2 := hb d (by simp)
    have h3 := ih (fun x hx => h x (List.mem_cons_of_mem _ hx)) (fun x hx => hb x (List.mem_cons_of_mem _ hx))
    have h4 : 26 * d.boxes.length ≤ 26 * M := Nat.mul_le_mul_left 26 h2
    rw [List.flatMap_cons, List.length_append, List.length_cons, Nat.add_mul]
    omega
/-- what is read out of a text has a form that is not too long -/
theorem parse_lines {L : Bytes} {ds : List Decl} (h : parse L = .ok ds) : (ds.flatMap lineB).length ≤ 140737488355328 := by
  obtain ⟨h1, h2⟩ := parse_small h
  have h3 := lines_len (M := 600) ds (parse_may h) (fun d hd => (h2 d hd).boxes)
  have : ds.length * (110 + 26 * 600) ≤ 513 * (110 + 26 * 600) := Nat.mul_le_mul_right _ h1
  omega

/-! ### known -/
def kText : ByteArray := ⟨#[99, 97, 112, 32, 114, 111, 108, 101, 32, 97, 110, 121, 32, 116, 105, 101, 114, 32, 48, 46, 46, 55, 32, 108, 97, 98, 101, 108, 32, 50, 32, 105, 110, 32, 97, 108, 108, 32, 122, 111, 111, 109, 32, 56, 32, 59]⟩
def kBad : ByteArray := ⟨#[114, 111, 108, 101, 32, 61, 32, 51, 59]⟩
def kForm : Bytes := [99, 97, 112, 32, 114, 111, 108, 101, 32, 97, 110, 121, 32, 116, 105, 101, 114, 32, 97, 110, 121, 32, 108, 97, 98, 101, 108, 32, 50, 32, 105, 110, 32, 97, 108, 108, 32, 122, 111, 111, 109, 32, 56, 59, 10]
def kDecls : List Decl := match parse kText.data.toList with | .ok ds => ds | .error _ => []
theorem kParse : parse kText.data.toList = .ok kDecls := by
  have h : (match parse kText.data.toList with | .ok _ => true | .error _ => false) = true := by decide +kernel
  unfold kDecls
  cases hp : parse kText.data.toList with
  | ok ds => rfl
  | error f => rw [hp] at h; cases h
theorem kParseBad : parse kBad.data.toList = .error (31, 1, 6) := by kernel_rfl
theorem kFields : kDecls.map (fun d => (d.kind, d.role.any, d.lo, d.hi, d.label.any, d.label.name.data.toList, d.label.n, d.place.any, d.zoom)) = [(5, true, 0, 7, false, [], 2, true, 8)] := by kernel_rfl
theorem kMay : kDecls.all Ru.may = true := by kernel_rfl
theorem itoa_digit (n : Nat) (h : n < 10) : Go.Lib.itoa (n : Int) = [UInt8.ofNat (48 + n)] := by
  unfold Go.Lib.itoa
  rw [if_neg (by omega), Go.Lib.decDigits, dif_pos (by omega)]
  rfl
theorem kPrint : printB kDecls = kForm := by
  unfold printB
  rw [if_pos kMay]
  have h := kFields
  generalize kDecls = l at h
  cases l with
  | nil => simp at h
  | cons d l =>
    cases l with
    | cons e l => simp at h
    | nil =>
      simp only [List.map_cons, List.map_nil, List.cons.injEq, Prod.mk.injEq, and_true] at h
      obtain ⟨h1, h2, h3, h4, h5, h6, h7, h8, h9⟩ := h
      have i2 := itoa_digit 2 (by omega)
      have i8 := itoa_digit 8 (by omega)
      simp only [List.flatMap_cons, List.flatMap_nil, List.append_nil]
      have e1 : whoB wAny d.role = wAny := by unfold whoB; rw [h2]; rfl
      have e2 : tiersB d.lo d.hi = wAny := by unfold tiersB; rw [h3, h4]; rfl
      have e3 : whoB wAny d.label = [50] := by unfold whoB; rw [h5, h6, h7]; exact i2
      have e4 : whoB wAll d.place = wAll := by unfold whoB; rw [h8]; rfl
      have e5 : Go.Lib.itoa d.zoom = [56] := by rw [h9]; exact i8
      unfold lineB restB
      rw [if_neg (by omega), if_neg (by omega), if_neg (by omega), h1, e1, e2, e3, e4, e5]
      rfl

end Go.Proofs.YtnoieobjfihbeaaDoor.Pt

namespace Go.Proofs.YtnoieobjfihbeaaDoor
open Go.RowKit Go.Sort

/-- what a text's declarations are, for who walks on -/
theorem read1 {L : Lx.Bytes} {ds : List Po.Decl} (h : Po.parse L = .ok ds) : ds.length ≤ 513 ∧ (∀ d ∈ ds, DSmall d) ∧ (ds.flatMap Pt.lineB).length ≤ 140737488355328 := by
  obtain ⟨h1, h2⟩ := Po.parse_small h
  exact ⟨h1, fun d hd => DSmall.of (h2 d hd), Pt.parse_lines h⟩
theorem printR_any {L : Lx.Bytes} {ds : List Po.Decl} (hp : Po.parse L = .ok ds) {w : World} {v : Value} (h : DSl w v ds) (ht : TabU w) :
    Calls Tryd.prog 12 #[v] w fun e w' => e = .returned (.string ⟨(Pt.printB ds).toArray⟩) ∧ Below w.heap.size w w' := by
  obtain ⟨h1, h2, h3⟩ := read1 hp
  exact print_any h (by omega) h2 ht (fun _ => h3)
set_option maxRecDepth 100000 in
set_option maxHeartbeats 4000000 in
theorem known11_any (w : World) (ht : TabU w) : Calls Tryd.prog 9 #[] w fun e w' => e = .returned (.bool true) ∧ Below w.heap.size w w' := by
  have hp1 := parse_any Pt.kText w (by decide)
  unfold ParsePost at hp1
  rw [Pt.kParse] at hp1
  have hp1' := hid hp1
  have hp2 : Hid (∀ w1 : World, Calls Tryd.prog 13 #[.string Pt.kBad] w1 fun e w' => e = .returned (.tuple #[.slice none 0 0, .agg #[.int .i64 31, .int .i64 1, .int .i64 6]]) ∧ Below w1.heap.size w1 w') := hid (fun w1 => by
    have h := parse_any Pt.kBad w1 (by decide)
    unfold ParsePost at h
    rw [Pt.kParseBad] at h
    exact h.mono fun e w' ⟨h1, h2⟩ => ⟨h1.1, h2⟩)
  have hpr : Hid (∀ (w1 : World) (v : Value), Below w.heap.size w w1 → DSl w1 v Pt.kDecls → Calls Tryd.prog 12 #[v] w1 fun e w' => e = .returned (.string ⟨#[99, 97, 112, 32, 114, 111, 108, 101, 32, 97, 110, 121, 32, 116, 105, 101, 114, 32, 97, 110, 121, 32, 108, 97, 98, 101, 108, 32, 50, 32, 105, 110, 32, 97, 108, 108, 32, 122, 111, 111, 109, 32, 56, 59, 10]⟩) ∧ Below w1.heap.size w1 w') := hid (fun w1 v hb hd => by
    have h := printR_any Pt.kParse hd (tab_ext ht hb)
    rw [Pt.kPrint] at h
    exact h)
  clear hp1 ht
  go_enter Tryd.func9, Tryd.ntmps9
  go_wp2_with fail
  refine hp1'.out.mono ?_
  rintro e w1 ⟨⟨v, vs, rfl, hds⟩, hb1⟩
  have z1 := balloc w1 (.cells #[.int .i64 0, .int .i64 0, .int .i64 0] 32)
  have D1 := hid (hds.sl.ext z1)
  have Q1 := hid (bthen hb1 z1)
  have B1 := hid (Blk.new w1 #[.int .i64 0, .int .i64 0, .int .i64 0] 32)
  obtain ⟨vp, vc, rfl⟩ := hds.sl.shape
  clear hds hb1 z1 hp1'
  go_wp2_with fail
  refine (hp2.out _).mono ?_
  rintro e w2 ⟨rfl, hb2⟩
  have z2 := balloc w2 (.cells #[.int .i64 31, .int .i64 1, .int .i64 6] 32)
  have D2 := hid ((D1.out.ext hb2).ext z2)
  have Q2 := hid (bthen (bthen Q1.out hb2) z2)
  obtain ⟨b0, b1, b2, bf, bz⟩ := ((B1.out.ext hb2).ext z2).three
  have C2 := hid (Blk.new w2 #[.int .i64 31, .int .i64 1, .int .i64 6] 32)
  clear hb2 z2 D1 Q1 B1
  go_wp2_with fail
  refine (hpr.out _ _ Q2.out D2.out).mono ?_
  rintro e w3 ⟨rfl, hb3⟩
  have Q3 := hid (bthen Q2.out hb3)
  obtain ⟨g0, g1, g2, gf, gz⟩ := (C2.out.ext hb3).three
  clear hb3 b0 b1 b2 bf bz Q2 D2 C2
  go_wp2_with fail
  go_ret
  exact ⟨rfl, Q3.out⟩

end Go.Proofs.YtnoieobjfihbeaaDoor

namespace Go.Proofs.YtnoieobjfihbeaaDoor
open Go.RowKit Go.Sort

set_option maxHeartbeats 1000000 in
theorem rplace_any (s : ByteArray) (a : Int) (w : World) (h0 : 0 ≤ a) (h1 : a ≤ s.size) (hs : s.size ≤ 140737488355328) :
    Calls Tryd.prog 15 #[.string s, .int .i64 a] w fun e w' =>
      e = .returned (.agg #[.int .i64 (Lx.posOf (s.data.toList.take a.toNat)).1, .int .i64 (Lx.posOf (s.data.toList.take a.toNat)).2]) ∧ Below w.heap.size w w' := by
  obtain ⟨a, rfl⟩ := Int.eq_ofNat_of_zero_le h0
  rw [Int.toNat_natCast]
  have ha : a ≤ s.size := by omega
  have hn2 := Nat.le_refl w.heap.size
  have hn1 : w.heap.size ≤ w.heap.size + 1 := by omega
  clear h0 h1
  go_enter Tryd.func15, Tryd.ntmps15
  go_wp2_with fail
  go_loopw [6] (fun u wr => ∃ k : Nat, k ≤ a ∧ u = .int .i64 k ∧ Blk wr w.heap.size #[.int .i64 0, .int .i64 0] 30 ∧ Blk wr (w.heap.size + 1) #[.int .i64 (Lx.posOf (s.data.toList.take k)).1, .int .i64 (Lx.posOf (s.data.toList.take k)).2] 30 ∧ Below w.heap.size w wr) (fun u _ => a - (intOf u).toNat)
  case atStart => exact ⟨0, Nat.zero_le _, rfl, (Blk.new w _ _).alloc _, Blk.newAt (by simp) _ _, (balloc w _).alloc (by simp) _⟩
  case round =>
    obtain ⟨k, hk, rfl, hB, hP, hQ⟩ := hrel
    have hB' := hid hB
    have hP' := hid hP
    have hQ' := hid hQ
    clear hB hP hQ
    by_cases hlt : k < a
    · have hlt2 : k < s.size := by omega
      have hp := Lx.posOf_le (s.data.toList.take k)
      rw [List.length_take, list_len] at hp
      have hq := hid (Lx.posOf_succ (L := s.data.toList) (i := k) (by simpa using hlt2))
      generalize hg : Lx.posOf (s.data.toList.take k) = p at *
      obtain ⟨line, col⟩ := p
      simp only at hp
      clear hg
      obtain ⟨c0, c1, cf, cz⟩ := hP'.out.two
      cases h10 : ((s[k].toNat : Int) == 10) with
      | true =>
        have e : s[k] = 10 := by rw [← u8_eq 10 10 rfl] at h10; simpa using h10
        go_wp2_with fail
        go_roundw
        case rel =>
          refine ⟨k + 1, by omega, by go_num, ?_, ?_, ?_⟩
          · simp only [Blk.setOther_iff (show w.heap.size ≠ w.heap.size + 1 by omega)]; exact hB'.out
          · rw [hq.out, list_get _ _ hlt2]
            simp only [Lx.adv, e, if_true]
            exact ((hP'.out.set 1 _).set 0 _).set 1 _
          · exact (by simp only [below_setNew_iff hn1]; exact hQ'.out)
        case measure => simp [intOf]; omega
      | false =>
        have e : ¬ s[k] = 10 := by rw [← u8_eq 10 10 rfl] at h10; simpa using h10
        go_wp2_with fail
        go_roundw
        case rel =>
          refine ⟨k + 1, by omega, by go_num, ?_, ?_, ?_⟩
          · simp only [Blk.setOther_iff (show w.heap.size ≠ w.heap.size + 1 by omega)]; exact hB'.out
          · rw [hq.out, list_get _ _ hlt2]
            simp only [Lx.adv, e, if_false]
            exact hP'.out.set 1 _
          · exact (by simp only [below_setNew_iff hn1]; exact hQ'.out)
        case measure => simp [intOf]; omega
    · obtain rfl : k = a := by omega
      obtain ⟨c0, c1, cf, cz⟩ := hP'.out.two
      obtain ⟨d0, d1, df, dz⟩ := hB'.out.two
      go_wp2_with fail
      exact bodyPost_ret (v := .agg #[.int .i64 (Lx.posOf (s.data.toList.take k)).1, .int .i64 (Lx.posOf (s.data.toList.take k)).2]) (by simp [results, Tryd.results15, go_sem, d0, d1]) rfl ⟨rfl, (by simp only [below_setNew_iff hn2]; exact hQ'.out)⟩

theorem rplace_nat (s : ByteArray) (a : Nat) (w : World) (h1 : a ≤ s.size) (hs : s.size ≤ 140737488355328) :
    Calls Tryd.prog 15 #[.string s, .int .i64 a] w fun e w' => e = .returned (.agg #[.int .i64 (Lx.posOf (s.data.toList.take a)).1, .int .i64 (Lx.posOf (s.data.toList.take a)).2]) ∧ Below w.heap.size w w' :=
  (rplace_any s a w (by omega) (by omega) hs).mono fun _ _ h => h

end Go.Proofs.YtnoieobjfihbeaaDoor
