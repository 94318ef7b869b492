/-
  The walk of grant: edges.
  The walk of grant: row.
  The walks of grant: the library's Equal over runs.
-/
import Derived.Test.YteddkgpnklfppaaGreatDoorPk09
import Derived.Maps.AppendAt
import Derived.Deep.AppendLies
import Derived.Laws.OwnMore

namespace Go.Proofs.YteddkgpnklfppaaGreatDoor
open Go.RowKit Go.Sort

/-- the function f tells two numbers of a box -/
structure Tells (f : FuncId) (of : Po.Box → Int × Int) : Prop where
  enter : ∀ (args : Array Value) (w : World), Sem.run Tryz.prog (callFunc f args) w = .ok (.enter f args) w
  call : ∀ (b : Po.Box) (w : World), Calls Tryz.prog f #[.agg (boxArr b)] w fun e w' => e = .returned (.tuple #[.int .i64 (of b).1, .int .i64 (of b).2]) ∧ Below w.heap.size w w'
  ok : ∀ b, Ru.boxR b = true → 0 ≤ (of b).1 ∧ (of b).1 ≤ 65535 ∧ 0 ≤ (of b).2 ∧ (of b).2 ≤ 65535
theorem tellsX : Tells 72 Gr.ofX where
  enter := fun _ _ => by kernel_rfl
  ok := fun b h => by have := Gr.boxR_le h; unfold Gr.ofX; simp only; omega
  call := fun b w => by
    obtain ⟨x0, y0, x1, y1⟩ := b
    have z := balloc w (.cells (boxArr ⟨x0, y0, x1, y1⟩) 27)
    obtain ⟨c0, c1, c2, c3, cf, cz⟩ := (show Blk (w.alloc (.cells (boxArr ⟨x0, y0, x1, y1⟩) 27)) w.heap.size #[.int .i64 x0, .int .i64 y0, .int .i64 x1, .int .i64 y1] 27 from Blk.new w _ _).four
    unfold boxArr Gr.ofX at *
    simp only at *
    go_enter Tryz.func72, Tryz.ntmps72
    go_wp2_with fail
    go_quiet (fail)
    go_wp2_with fail
    exact bodyPost_ret (v := .tuple #[.int .i64 x0, .int .i64 x1]) (by simp [results, Tryz.results72, go_sem]) rfl ⟨rfl, bdrewN z _⟩
theorem tellsY : Tells 73 Gr.ofY where
  enter := fun _ _ => by kernel_rfl
  ok := fun b h => by have := Gr.boxR_le h; unfold Gr.ofY; simp only; omega
  call := fun b w => by
    obtain ⟨x0, y0, x1, y1⟩ := b
    have z := balloc w (.cells (boxArr ⟨x0, y0, x1, y1⟩) 27)
    obtain ⟨c0, c1, c2, c3, cf, cz⟩ := (show Blk (w.alloc (.cells (boxArr ⟨x0, y0, x1, y1⟩) 27)) w.heap.size #[.int .i64 x0, .int .i64 y0, .int .i64 x1, .int .i64 y1] 27 from Blk.new w _ _).four
    unfold boxArr Gr.ofY at *
    simp only at *
    go_enter Tryz.func73, Tryz.ntmps73
    go_wp2_with fail
    go_quiet (fail)
    go_wp2_with fail
    exact bodyPost_ret (v := .tuple #[.int .i64 y0, .int .i64 y1]) (by simp [results, Tryz.results73, go_sem]) rfl ⟨rfl, bdrewN z _⟩

theorem Tryz.infoInt : (Tryz.prog.info? 3).map (fun i => (i.zero, i.size, i.bytes)) = some (some (.int .i64 0), 1, 8) := by kernel_rfl

/-- what a call asks of rules: few, with few boxes that may be -/
structure Few (l : List Ru.Rule) : Prop where
  len : l.length ≤ 33
  few : ∀ r ∈ l, r.boxes.length ≤ 40
  box : ∀ r ∈ l, ∀ b ∈ r.boxes, Ru.boxR b = true

def rawB (of : Po.Box → Int × Int) (bs : List Po.Box) : List Int := bs.flatMap fun b => [(of b).1, (of b).2 + 1]
theorem rawB_len (of : Po.Box → Int × Int) (bs : List Po.Box) : (rawB of bs).length = 2 * bs.length := by
  unfold rawB
  induction bs with
  | nil => rfl
  | cons b bs ih => simp only [List.flatMap_cons, List.length_append, List.length_cons, List.length_nil, ih]; omega
theorem rawB_snoc (of : Po.Box → Int × Int) {bs : List Po.Box} {j : Nat} (hj : j < bs.length) : rawB of (bs.take (j + 1)) = rawB of (bs.take j) ++ [(of bs[j]).1, (of bs[j]).2 + 1] := by
  unfold rawB
  rw [← List.take_append_getElem hj, List.flatMap_append]
  simp
theorem rawE_snoc (of : Po.Box → Int × Int) {l : List Ru.Rule} {i : Nat} (hi : i < l.length) : Gr.rawE of (l.take (i + 1)) = Gr.rawE of (l.take i) ++ rawB of l[i].boxes := by
  unfold Gr.rawE rawB
  rw [← List.take_append_getElem hi, List.flatMap_append]
  simp
theorem rawE_len {of : Po.Box → Int × Int} {l : List Ru.Rule} (h : ∀ r ∈ l, r.boxes.length ≤ 40) : (Gr.rawE of l).length ≤ 80 * l.length := by
  induction l with
  | nil => exact Nat.le_refl _
  | cons r l ih =>
    have h1 := h r List.mem_cons_self
    have h2 := ih (fun s hs => h s (List.mem_cons_of_mem _ hs))
    have h3 := rawB_len of r.boxes
    unfold Gr.rawE at *
    unfold rawB at h3
    rw [List.flatMap_cons, List.length_append, List.length_cons]
    omega
theorem Few.raw {l : List Ru.Rule} (h : Few l) (of : Po.Box → Int × Int) (i : Nat) : (Gr.rawE of (l.take i)).length ≤ 2640 := by
  have h1 := rawE_len (of := of) (l := l.take i) (fun r hr => h.few r (List.mem_of_mem_take hr))
  have h2 : (l.take i).length ≤ 33 := by rw [List.length_take]; have := h.len; omega
  omega

set_option maxRecDepth 100000 in
set_option maxHeartbeats 8000000 in
theorem edges_any {f : FuncId} {of : Po.Box → Int × Int} (hT : Tells f of) {w : World} {v : Value} {l : List Ru.Rule} (h : RSl w v l) (hF : Few l) :
    Calls Tryz.prog 71 #[v, .func (.func f) #[] #[]] w fun e w' => (∃ v', e = .returned v' ∧ Row w' v' (Gr.edges of l).length 1 (intsC (Gr.edges of l)) ∧ ∀ q, v'.ownBlock = some q → w.heap.size ≤ q) ∧ Below w.heap.size w w' := by
  obtain ⟨i0, hinf, hiz, hisz, hiby⟩ := info_parts Tryz.infoInt
  have hen := hT.enter
  have hT' := hid hT
  have hF' := hid hF
  have hbs := hid (Nat.le_refl w.heap.size)
  have hraw : Gr.rawE of l = Gr.rawE of (l.take l.length) := by rw [List.take_of_length_le (Nat.le_refl _)]
  have hrl := hF.raw of l.length
  rw [← hraw] at hrl
  clear hraw
  have hend : Hid (∀ (w1 : World) (u : Value), w1.ownsRow w.heap.size 3 1 u (Gr.rawE of l).length (intsC (Gr.rawE of l)) → Below w.heap.size w w1 →
      Calls Tryz.prog 108 #[u] w1 fun e w2 => e = .returned (.tuple #[]) ∧ Below w.heap.size w w2 ∧
        Calls Tryz.prog 109 #[u] w2 fun e w' => (∃ v', e = .returned v' ∧ Row w' v' (Gr.edges of l).length 1 (intsC (Gr.edges of l)) ∧ ∀ q, v'.ownBlock = some q → w.heap.size ≤ q) ∧ Below w.heap.size w w') := hid (fun w1 u ho hb => by
    refine (sortc_any ho (by omega)).mono fun e w2 ⟨he, hr, hb2⟩ => ⟨he, hb.trans (hb2 hb.size), ?_⟩
    have hlen : (Gr.rawE of l).length = ((Gr.rawE of l).mergeSort fun x y => decide (x ≤ y)).length := by simp
    rw [hlen] at hr
    refine (compactc_any hr (by rw [← hlen]; omega)).mono fun e w' ⟨⟨v', he', hr', hq'⟩, hb'⟩ => ⟨⟨v', he', hr', hq'⟩, (hb.trans (hb2 hb.size)).trans (hb' (hb.trans (hb2 hb.size)).size)⟩)
  clear hT hF hrl
  rcases h with ⟨rfl, rfl⟩ | ⟨g, off, cap, rfl, hr⟩
  · go_enter Tryz.func71, Tryz.ntmps71
    go_wp2_with fail
    go_loop [5, 14] (fun o u => o = .slice none 0 0 ∧ u = .int .i64 0) (fun _ _ => 0)
    case atStart => exact ⟨rfl, rfl⟩
    case round =>
      obtain ⟨rfl, rfl⟩ := hrel
      have h0 := hid (hend.out w (.slice none 0 0) (World.ownsRow_nil _ _ _ _) (Below.refl _ _))
      clear hend
      go_wp2_with fail
      refine h0.out.mono ?_
      rintro e w2 ⟨rfl, hb2, hc⟩
      have hc' := hid hc
      clear hc
      go_wp2_with fail
      refine hc'.out.mono ?_
      rintro e w3 ⟨⟨v', rfl, hr', hq'⟩, hb3⟩
      have F3 := hid hq'
      have R3 := hid hr'
      have Q3 := hid hb3
      clear hr' hb3 hq'
      go_wp2_with fail
      go_ret
      exact ⟨⟨_, rfl, R3.out, F3.out⟩, Q3.out⟩
  · have R0 := hid hr
    clear hr
    go_enter Tryz.func71, Tryz.ntmps71
    go_wp2_with fail
    go_loopw [5, 14] (fun o u wr => ∃ i : Nat, u = .int .i64 i ∧ i ≤ l.length ∧ wr.ownsRow w.heap.size 3 1 o (Gr.rawE of (l.take i)).length (intsC (Gr.rawE of (l.take i))) ∧ Below w.heap.size w wr) (fun _ u _ => l.length - (intOf u).toNat)
    case atStart => exact ⟨0, rfl, Nat.zero_le _, World.ownsRow_nil _ _ _ _, Below.refl _ _⟩
    case round =>
      obtain ⟨i, rfl, hle, hO, hQ⟩ := hrel
      have O0 := hid hO
      have Q0 := hid hQ
      clear hO hQ
      by_cases hlt : i < l.length
      · obtain ⟨z, hs⟩ := R0.out.at (Below.refl _ _) hlt
        have hat := hid (show wr.rangeAt g (off + i * 7) (ruleArr l[i] z).toList from fun j u hu => (Q0.out.cell (p := ⟨g, off + i * 7 + j, none⟩) R0.out.lt).trans (hs.at_ j u hu))
        have hone := hid hs.one
        have hfew := hid (hF'.out.few _ (List.getElem_mem hlt))
        have hbox := hid (hF'.out.box _ (List.getElem_mem hlt))
        have hsn := hid (rawE_snoc of hlt)
        have hln := hid (hF'.out.raw of i)
        obtain ⟨zp, zc, hzv⟩ := hs.box.shape
        have hXR : Hid (0 < l[i].boxes.length → ∃ g2 off2, zp = some ⟨g2, off2, none⟩ ∧ SRow w g2 off2 zc 4 boxArr l[i].boxes) := by
          refine hid (fun hpos => ?_)
          rcases brow_of hs.box with ⟨_, _, _, h0⟩ | ⟨g2, off2, cap2, hv, hr2⟩
          · rw [h0] at hpos; simp at hpos
          · rw [hzv] at hv; cases hv; exact ⟨g2, off2, rfl, hr2⟩
        clear hs
        generalize l[i] = r at *
        generalize Gr.rawE of (l.take i) = E at *
        subst hzv
        obtain ⟨kp, kc, hkv⟩ := row_shape (Row.of_owns O0.out)
        subst hkv
        have z1 := balloc wr (.cells (ruleArr r (.slice zp r.boxes.length zc)) 56)
        have O1 := hid (owns_ext O0.out z1)
        have Q1 := hid (Q0.out.trans (z1.mono Q0.out.size))
        have r5 := (Blk.new wr (ruleArr r (.slice zp r.boxes.length zc)) 56).cell 5 (v := .slice zp r.boxes.length zc) rfl
        clear z1
        go_upto_region 5 with (first | (refine wpList_load_at rfl 56 (.tmp 16) rfl 17 rfl g (off + i * 7) (ruleArr r (.slice zp r.boxes.length zc)) (hat.out) rfl Tryz.underlying56 rfl (by kernel_rfl) ?_) | (refine wpList_store_new rfl 56 (.tmp 7) (.tmp 17) rfl rfl wr 56 _ (ruleArr r (.slice zp r.boxes.length zc)) rfl rfl rfl (by kernel_rfl) rfl (hone.out) ?_))
        go_wp2_with fail
        clear r5 hat hone O0 Q0
        go_loopw [5, 21] (fun o u w2 => ∃ j : Nat, u = .int .i64 j ∧ j ≤ r.boxes.length ∧ w2.ownsRow w.heap.size 3 1 o (E ++ rawB of (r.boxes.take j)).length (intsC (E ++ rawB of (r.boxes.take j))) ∧ Below w.heap.size w w2) (fun _ u _ => r.boxes.length - (intOf u).toNat)
        case atStart => exact ⟨0, rfl, Nat.zero_le _, by rw [List.take_zero]; simpa [rawB] using O1.out, Q1.out⟩
        case round =>
          clear O1 Q1
          obtain ⟨j, rfl, hj, hO, hQ⟩ := hrel
          have O2 := hid hO
          have Q2 := hid hQ
          clear hO hQ
          by_cases hjl : j < r.boxes.length
          · obtain ⟨g2, off2, rfl, hg2⟩ := hXR.out (by omega)
            have hbx := hid ((hg2.ext Q2.out).get j hjl)
            obtain ⟨k0, k1, k2, k3⟩ := hT'.out.ok _ (hbox.out _ (List.getElem_mem hjl))
            have hsn2 := hid (rawB_snoc of hjl)
            have hcall := hid (hT'.out.call r.boxes[j])
            have hlen2 := hid (rawB_len of (r.boxes.take j))
            have hfj : (r.boxes.take j).length ≤ 40 := by rw [List.length_take]; have := hfew.out; omega
            generalize r.boxes[j] = b at *
            generalize rawB of (r.boxes.take j) = D at *
            have hLn := hid (show (E ++ D).length ≤ 3000 by rw [List.length_append]; have := hln.out; have := hlen2.out; omega)
            have hF2 := hid (show E ++ rawB of (r.boxes.take (j + 1)) = (E ++ D) ++ [(of b).1, (of b).2 + 1] by rw [hsn2.out, List.append_assoc])
            clear hsn2 hlen2
            generalize E ++ D = F at *
            obtain ⟨hp, hc, hhv⟩ := row_shape (Row.of_owns O2.out)
            subst hhv
            have z2 := balloc wr (.cells (boxArr b) 27)
            have O3 := hid (owns_ext O2.out z2)
            have Q3 := hid (Q2.out.trans (z2.mono Q2.out.size))
            clear z2
            go_upto_region 8 with (first | (refine wpList_load_at rfl 27 (.tmp 23) rfl 24 rfl g2 (off2 + j * 4) (boxArr b) (hbx.out) rfl Tryz.underlying27 rfl (by kernel_rfl) ?_) | (refine wpList_store_new rfl 27 (.tmp 9) (.tmp 24) rfl rfl wr 27 _ (boxArr b) rfl rfl rfl (by kernel_rfl) rfl (boxArr_one b) ?_))
            clear hbx O2 Q2
            go_wp2_with (first | (refine wpList_load_blk rfl 27 (.tmp 9) rfl 27 rfl wr.heap.size 27 (boxArr b) (Blk.new wr _ _) rfl Tryz.underlying27 rfl (by kernel_rfl) ?_))
            refine (hcall.out _).mono ?_
            rintro e w3 ⟨rfl, hb3⟩
            generalize (of b).1 = n1 at *
            generalize (of b).2 = n2 at *
            have O4 := hid (owns_ext O3.out hb3)
            have Q4 := hid (Q3.out.trans (hb3.mono Q3.out.size))
            clear hb3 O3 Q3 hcall
            have hal := hid (O4.out.alloc (.cells #[.int .i64 n1, .int .i64 (n2 + 1)] 3))
            have hc1 := hid (cells_new w3 [.int .i64 n1, .int .i64 (n2 + 1)] 3 (k := w3.heap.size) rfl)
            have hone2 : Hid (∀ u ∈ [Value.int .i64 n1, Value.int .i64 (n2 + 1)], u.oneCell' = true) := hid (fun u hu => by simp only [List.mem_cons, List.not_mem_nil, or_false] at hu; rcases hu with rfl | rfl <;> rfl)
            have hL := hLn.out
            have hcap : F.length + 2 ≤ maxLen := by unfold maxLen; omega
            have hq4 := Q4.out.size
            have hfw := hfew.out
            go_wp2_with (first | (at_builtin; refine Go.wpList_append_own_at _ rfl _ _ 141 rfl w.heap.size 3 i0 _ 1 8 Tryz.underlying141 hinf hiz hisz hiby rfl (by decide) _ _ _ rfl hal.out ⟨w3.heap.size, 0, none⟩ 2 2 [.int .i64 n1, .int .i64 (n2 + 1)] rfl rfl hc1.out hone2.out hcap (by omega) (by simp; omega) ?_; intro v6 w6 hown6 hgrow _ hat6))
            go_roundw
            case rel =>
              refine ⟨j + 1, by go_num, by omega, ?_, ?_⟩
              · have e : (E ++ rawB of (r.boxes.take (j + 1))).length = F.length + 2 := by rw [hF2.out]; simp
                have e2 : intsC (E ++ rawB of (r.boxes.take (j + 1))) = intsC F ++ [.int .i64 n1, .int .i64 (n2 + 1)] := by rw [hF2.out, intsC_app]; rfl
                rw [e, e2]
                exact hown6
              · exact (Q4.out.alloc hq4 _).grown hgrow (by rw [World.size_alloc]; omega) (fun k hk => by have := (hal.out.lt k hk).1; omega)
            case measure => simp [intOf]; omega
          · obtain rfl : j = r.boxes.length := by omega
            have O3 := hid (show wr.ownsRow w.heap.size 3 1 u5 (Gr.rawE of (l.take (i + 1))).length (intsC (Gr.rawE of (l.take (i + 1)))) by have h := O2.out; rw [List.take_of_length_le (Nat.le_refl _), ← hsn.out] at h; exact h)
            clear O2
            have hl33 := hF'.out.len
            go_wp2_with fail
            go_roundw
            case rel => exact ⟨i + 1, by go_num, by omega, O3.out, Q2.out⟩
            case measure => simp [intOf]; omega
      · obtain rfl : i = l.length := by omega
        have O1 := O0.out
        rw [List.take_of_length_le (Nat.le_refl _)] at O1
        have h0 := hid (hend.out wr u5 O1 Q0.out)
        obtain ⟨kp, kc, hkv⟩ := row_shape (Row.of_owns O1)
        subst hkv
        clear hend O1 O0 Q0
        go_wp2_with fail
        refine h0.out.mono ?_
        rintro e w2 ⟨rfl, hb2, hc⟩
        have hc' := hid hc
        clear hc
        go_wp2_with fail
        refine hc'.out.mono ?_
        rintro e w3 ⟨⟨v', rfl, hr', hq'⟩, hb3⟩
        have F3 := hid hq'
        have R3 := hid hr'
        have Q3 := hid hb3
        clear hr' hb3 hq'
        go_wp2_with fail
        go_ret
        exact ⟨⟨_, rfl, R3.out, F3.out⟩, Q3.out⟩

end Go.Proofs.YteddkgpnklfppaaGreatDoor

namespace Go.Proofs.YteddkgpnklfppaaGreatDoor
open Go.RowKit Go.Sort

def spanArr (s : Gr.Span) : Array Value := #[.int .i64 s.s0, .int .i64 s.s1, .int .i64 s.z]
def spansC (l : List Gr.Span) : List Value := l.flatMap fun s => (spanArr s).toList
theorem spansC_snoc (l : List Gr.Span) (s : Gr.Span) : spansC (l ++ [s]) = spansC l ++ (spanArr s).toList := by unfold spansC; simp
theorem spansC_len (l : List Gr.Span) : (spansC l).length = l.length * 3 := by
  unfold spansC
  induction l with
  | nil => rfl
  | cons s l ih =>
    rw [List.flatMap_cons, List.length_append, ih, List.length_cons]
    show 3 + l.length * 3 = _
    omega
theorem Tryz.infoSpan : (Tryz.prog.info? 113).map (fun i => (i.zero, i.size, i.bytes)) = some (some (.agg #[.int .i64 0, .int .i64 0, .int .i64 0]), 3, 24) := by kernel_rfl

theorem putS_zero {out : List Gr.Span} {a b z : Int} (h : z = 0) : Gr.putS out a b z = out := by unfold Gr.putS; rw [if_pos h]
theorem putS_nil {a b z : Int} (h : z ≠ 0) : Gr.putS [] a b z = [⟨a, b - 1, z⟩] := by unfold Gr.putS; rw [if_neg h]; rfl
theorem putS_on {o : List Gr.Span} {s : Gr.Span} {a b z : Int} (h : z ≠ 0) (h2 : s.z = z ∧ s.s1 + 1 = a) : Gr.putS (o ++ [s]) a b z = o ++ [⟨s.s0, b - 1, s.z⟩] := by
  unfold Gr.putS
  rw [if_neg h, List.getLast?_concat]
  simp only
  rw [if_pos h2, List.dropLast_concat]
theorem putS_new {o : List Gr.Span} {s : Gr.Span} {a b z : Int} (h : z ≠ 0) (h2 : ¬ (s.z = z ∧ s.s1 + 1 = a)) : Gr.putS (o ++ [s]) a b z = (o ++ [s]) ++ [⟨a, b - 1, z⟩] := by
  unfold Gr.putS
  rw [if_neg h, List.getLast?_concat]
  simp only
  rw [if_neg h2]
theorem putS_len (o : List Gr.Span) (a b z : Int) : (Gr.putS o a b z).length ≤ o.length + 1 := by
  by_cases hz : z = 0
  · rw [putS_zero hz]; omega
  · rcases List.eq_nil_or_concat o with rfl | ⟨o', s, rfl⟩
    · rw [putS_nil hz]; simp
    · rw [List.concat_eq_append]
      by_cases h2 : s.z = z ∧ s.s1 + 1 = a
      · rw [putS_on hz h2]; simp
      · rw [putS_new hz h2]; simp
theorem rowN_len (l : List Ru.Rule) (xs : List Int) (y : Int) : ∀ n, (Gr.rowN l xs y n).length ≤ n
  | 0 => Nat.le_refl _
  | n + 1 => by
    rw [Gr.rowN_succ]
    have := putS_len (Gr.rowN l xs y n) (xs.getD n 0) (xs.getD (n + 1) 0) (Gr.zoomG l (xs.getD n 0) y)
    have := rowN_len l xs y n
    omega
theorem putS_rng {o : List Gr.Span} {a b z : Int} (hb : 0 ≤ b ∧ b ≤ 65536) (h : ∀ s ∈ o, -1 ≤ s.s1 ∧ s.s1 ≤ 65535) : ∀ s ∈ Gr.putS o a b z, -1 ≤ s.s1 ∧ s.s1 ≤ 65535 := by
  intro s hs
  by_cases hz : z = 0
  · rw [putS_zero hz] at hs; exact h s hs
  · rcases List.eq_nil_or_concat o with rfl | ⟨o', u, rfl⟩
    · rw [putS_nil hz, List.mem_singleton] at hs
      subst hs
      simp only; omega
    · rw [List.concat_eq_append] at h hs
      by_cases h2 : u.z = z ∧ u.s1 + 1 = a
      · rw [putS_on hz h2] at hs
        rcases List.mem_append.1 hs with hs | hs
        · exact h s (List.mem_append.2 (.inl hs))
        · rw [List.mem_singleton] at hs
          subst hs
          simp only; omega
      · rw [putS_new hz h2] at hs
        rcases List.mem_append.1 hs with hs | hs
        · exact h s hs
        · rw [List.mem_singleton] at hs
          subst hs
          simp only; omega
theorem rowN_rng {l : List Ru.Rule} {xs : List Int} {y : Int} (hr : ∀ e ∈ xs, 0 ≤ e ∧ e ≤ 65536) : ∀ n, n = 0 ∨ n < xs.length → ∀ s ∈ Gr.rowN l xs y n, -1 ≤ s.s1 ∧ s.s1 ≤ 65535
  | 0, _ => fun s hs => by cases hs
  | n + 1, hn => by
    rw [Gr.rowN_succ]
    exact putS_rng (hr _ (Gr.getD_mem (by omega))) (rowN_rng hr n (by omega))
theorem span_at {o : List Gr.Span} {s : Gr.Span} {k : Nat} (hk : o.length = k) (r : Nat) : (spansC (o ++ [s]))[k * 3 + r]? = (spanArr s)[r]? := by
  rw [spansC_snoc, List.getElem?_append_right (by rw [spansC_len, hk]; omega), spansC_len, hk, Nat.add_sub_cancel_left, Array.getElem?_toList]
theorem span_set {o : List Gr.Span} {s : Gr.Span} {k : Nat} (hk : o.length = k) (u : Int) : (spansC (o ++ [s])).set (k * 3 + 1) (.int .i64 u) = spansC (o ++ [⟨s.s0, u, s.z⟩]) := by
  rw [spansC_snoc, spansC_snoc, List.set_append_right _ _ (by rw [spansC_len, hk]; omega), spansC_len, hk, Nat.add_sub_cancel_left]
  rfl
/-- where numbers lie -/
theorem ints_at {w : World} {v : Value} {xs : List Int} (h : Row w v xs.length 1 (intsC xs)) : ∃ p c, v = .slice p xs.length c ∧ (0 < xs.length → ∃ g off, p = some ⟨g, off, none⟩ ∧ g < w.heap.size ∧ ∀ i, i < xs.length → w.cell? ⟨g, off + i, none⟩ = some (.int .i64 (xs.getD i 0))) := by
  rcases h.2 with ⟨rfl, h0⟩ | ⟨g, off, cap, rfl, _, hlt, hc⟩
  · exact ⟨none, 0, by rw [h0], fun hp => by omega⟩
  · refine ⟨some ⟨g, off, none⟩, cap, rfl, fun _ => ⟨g, off, rfl, hlt, fun i hi => ?_⟩⟩
    refine hc i _ ?_
    unfold intsC
    rw [List.getElem?_map, List.getElem?_eq_getElem hi, List.getD_eq_getElem?_getD, List.getElem?_eq_getElem hi]
    rfl

set_option maxRecDepth 100000 in
set_option maxHeartbeats 8000000 in
theorem grow_any {w : World} {v xv : Value} {l : List Ru.Rule} {xs : List Int} (y : Int) (h : RSl w v l) (hl : l.length ≤ 33) (hx : Row w xv xs.length 1 (intsC xs)) (hn : xs.length ≤ 3000) (hr : ∀ e ∈ xs, 0 ≤ e ∧ e ≤ 65536) :
    Calls Tryz.prog 74 #[v, xv, .int .i64 y] w fun e w' => (∃ o, e = .returned o ∧ w'.ownsRow w.heap.size 113 3 o (Gr.row l xs y).length (spansC (Gr.row l xs y))) ∧ Below w.heap.size w w' := by
  obtain ⟨i0, hinf, hiz, hisz, hiby⟩ := info_parts Tryz.infoSpan
  obtain ⟨xp, xc, rfl, hxr⟩ := ints_at hx
  have hX := hid hxr
  have hR := hid hr
  have hzm : Hid (∀ (x : Int) (w1 : World), Below w.heap.size w w1 → Calls Tryz.prog 110 #[v, .agg #[.int .i64 x, .int .i64 y]] w1 fun e w' => e = .returned (.int .i64 (Gr.zoomG l x y)) ∧ Below w1.heap.size w1 w') := hid (fun x w1 hb => gzoom_any x y (h.ext hb) (by omega))
  have hnb : Hid (0 < w.heap.size + 1) := hid (Nat.succ_pos _)
  obtain ⟨vp, vc, hvv⟩ : ∃ p c, v = .slice p l.length c := by
    rcases h with ⟨rfl, rfl⟩ | ⟨g, off, cap, rfl, _⟩
    · exact ⟨_, _, rfl⟩
    · exact ⟨_, _, rfl⟩
  subst hvv
  clear h hl hx hxr hr
  go_enter Tryz.func74, Tryz.ntmps74
  go_wp2_with fail
  go_loopw [7, 8] (fun o u wr => ∃ i : Nat, u = .int .i64 i ∧ (i = 0 ∨ i < xs.length) ∧ wr.ownsRow w.heap.size 113 3 o (Gr.rowN l xs y i).length (spansC (Gr.rowN l xs y i)) ∧ Below w.heap.size w wr) (fun _ u _ => xs.length - (intOf u).toNat)
  case atStart => exact ⟨0, rfl, .inl rfl, World.ownsRow_nil _ _ _ _, Below.refl _ _⟩
  case round =>
    obtain ⟨i, rfl, hle, hO, hQ⟩ := hrel
    have O0 := hid hO
    have Q0 := hid hQ
    clear hO hQ
    have hin : i ≤ 3000 := by omega
    by_cases hlt : i + 1 < xs.length
    · obtain ⟨g, off, rfl, hglt, hcx⟩ := hX.out (by omega)
      have c1 := (Q0.out.cell (p := ⟨g, off + i, none⟩) hglt).trans (hcx i (by omega))
      have C2 := hid (hcx (i + 1) hlt)
      have C1 := hid (hcx i (by omega))
      have hra := hR.out _ (Gr.getD_mem (show i < xs.length by omega))
      have hrb := hR.out _ (Gr.getD_mem hlt)
      have hsucc := hid (Gr.rowN_succ l xs y i)
      have hlen := rowN_len l xs y i
      have hrng := hid (rowN_rng (l := l) (y := y) hR.out i hle)
      clear hcx hX
      generalize xs.getD i 0 = a at *
      generalize xs.getD (i + 1) 0 = b at *
      have hz := hid (hzm.out a wr Q0.out)
      generalize Gr.zoomG l a y = z at *
      generalize Gr.rowN l xs y i = out at *
      have i0' : (0 : Int) ≤ i := by omega
      have i1' : (i : Int) < xs.length := by omega
      have i2' : (i : Int) + 1 < xs.length := by omega
      obtain ⟨m, hm⟩ : ∃ m, out.length = m := ⟨_, rfl⟩
      rw [hm] at O0 hlen
      obtain ⟨op, oc, hov⟩ := row_shape (Row.of_owns O0.out)
      subst hov
      have hm' := hid hm
      clear hm
      go_wp2_with fail
      refine hz.out.mono ?_
      rintro e w1 ⟨rfl, hb1⟩
      have O1 := hid (owns_ext O0.out hb1)
      have Q1 := hid (Q0.out.trans (hb1.mono Q0.out.size))
      clear hb1 O0 Q0 c1 hz
      by_cases hz0 : z = 0
      · have hput := hid (putS_zero (out := out) (a := a) (b := b) hz0)
        rw [hput.out] at hsucc
        clear hput
        subst hz0
        go_wp2_with fail
        go_roundw
        case rel => exact ⟨i + 1, by go_num, .inr (by omega), by rw [hsucc.out, hm'.out]; exact O1.out, Q1.out⟩
        case measure => simp [intOf]; omega
      · have hzb : (z == (0 : Int)) = false := beq_eq_false_iff_ne.2 hz0
        rcases List.eq_nil_or_concat out with hnil | ⟨o, s, hcat⟩
        · subst hnil
          have hput := hid (putS_nil (a := a) (b := b) hz0)
          rw [hput.out] at hsucc
          obtain rfl : m = 0 := hm'.out.symm
          clear hput hz0
          go_wp2_with fail
          go_quiet (fail)
          go_upto_region 10 with (fail)
          have O2 := hid (show (w1.drewN nq).ownsRow _ _ _ _ _ _ from O1.out)
          have Q2 := hid (bdrewN Q1.out nq)
          generalize w1.drewN nq = w2 at *
          clear O1 Q1
          have d1 : w2.cell? ⟨g, off + i, none⟩ = some (.int .i64 a) := (Q2.out.cell (p := ⟨g, off + i, none⟩) hglt).trans C1.out
          have d2 : w2.cell? ⟨g, off + (i + 1), none⟩ = some (.int .i64 b) := (Q2.out.cell (p := ⟨g, off + (i + 1), none⟩) hglt).trans C2.out
          have p0 : IntKind.i64.wrap (i : Int) = i := IntWalk.i64_in _ (by omega)
          have p1 : IntKind.i64.wrap ((i : Int) + 1) = (i : Int) + 1 := IntWalk.i64_in _ (by omega)
          have p2 : (0 : Int) ≤ (i : Int) + 1 := by omega
          have p3 : ((i : Int) + 1).toNat = i + 1 := by omega
          have p5 : IntKind.i64.wrap (b - 1) = b - 1 := IntWalk.i64_in _ (by omega)
          have hal := hid ((World.ownsRow.drew O2.out).alloc (.cells #[.int .i64 a, .int .i64 (b - 1), .int .i64 z] 113))
          have hc1 := hid (cells_new w2.drew [.int .i64 a, .int .i64 (b - 1), .int .i64 z] 113 (k := w2.heap.size) rfl)
          have hone : Hid (∀ u ∈ [Value.int .i64 a, .int .i64 (b - 1), .int .i64 z], u.oneCell' = true) := hid (fun u hu => by simp only [List.mem_cons, List.not_mem_nil, or_false] at hu; rcases hu with rfl | rfl | rfl <;> rfl)
          have hbe := hid (Q2.out.drew.alloc Q2.out.drew.size (.cells #[.int .i64 a, .int .i64 (b - 1), .int .i64 z] 113))
          have hba := hid (show w.heap.size ≤ (w2.drew.alloc (.cells #[.int .i64 a, .int .i64 (b - 1), .int .i64 z] 113)).heap.size from hbe.out.size)
          have nlen : 0 + 1 ≤ maxLen := by unfold maxLen; omega
          have nby : (0 + 1) * 24 ≤ 140737488355328 := by omega
          clear Q2 O2
          go_region_law (
            (refine step_append_lies _ rfl _ _ 111 rfl w.heap.size 113 i0 _ 3 24 Tryz.underlying111 hinf hiz hisz hiby rfl (by decide) _ _ _ rfl hal.out ⟨w2.heap.size, 0, none⟩ 1 1 [.int .i64 a, .int .i64 (b - 1), .int .i64 z] rfl rfl hc1.out hone.out (by decide) nlen nby hba.out _ rfl ?_
             intro g5 cap5 w5 hown5 hgrow hat5 hlt5
             have O5 := hid hown5
             have Q5 := hid (hbe.out.grown hgrow hba.out (fun k hk => by have := (hal.out.lt k hk).1; omega))
             clear hown5 hgrow hat5 hlt5))
          all_goals
            go_wp2_with fail
            go_roundw
            case rel =>
              refine ⟨i + 1, by go_num, .inr (by omega), ?_, Q5.out⟩
              rw [hsucc.out]; exact O5.out
            case measure => simp [intOf]; omega
        · rw [List.concat_eq_append] at hcat
          subst hcat
          obtain ⟨k, hk⟩ : ∃ k, o.length = k := ⟨_, rfl⟩
          have hmk : m = k + 1 := by rw [← hm'.out]; simp [hk]
          subst hmk
          have hk' := hid hk
          obtain ⟨hs1, hs2⟩ := hrng.out s (by simp)
          clear hk hrng
          obtain ⟨g2, cap2, hv2, hg2⟩ := World.ownsRow.form O1.out (by omega)
          obtain ⟨rfl, rfl⟩ : op = some ⟨g2, 0, none⟩ ∧ oc = cap2 := by cases hv2; exact ⟨rfl, rfl⟩
          clear hv2
          have j0 : (0 : Int) ≤ k := by omega
          have j1 : (k : Int) < (k : Int) + 1 := by omega
          have q1 : w1.cell? ⟨g2, k * 3 + 1, none⟩ = some (.int .i64 s.s1) := (O1.out.cellAt _ (by omega)).trans (span_at hk'.out 1)
          have q2 : w1.cell? ⟨g2, k * 3 + 2, none⟩ = some (.int .i64 s.z) := (O1.out.cellAt _ (by omega)).trans (span_at hk'.out 2)
          have p6 : IntKind.i64.wrap (s.s1 + 1) = s.s1 + 1 := IntWalk.i64_in _ (by omega)
          have p7 : IntKind.i64.wrap (i : Int) = i := IntWalk.i64_in _ (by omega)
          have p8 : IntKind.i64.wrap (k : Int) = k := IntWalk.i64_in _ (by omega)
          have c1 : w1.cell? ⟨g, off + i, none⟩ = some (.int .i64 a) := (Q1.out.cell (p := ⟨g, off + i, none⟩) hglt).trans C1.out
          by_cases hsz : s.z = z
          · have b2 : (s.z == z) = true := beq_iff_eq.2 hsz
            by_cases hsa : s.s1 + 1 = a
            · have b3 : (s.s1 + 1 == a) = true := beq_iff_eq.2 hsa
              have hput := hid (putS_on (o := o) (b := b) hz0 ⟨hsz, hsa⟩)
              rw [hput.out] at hsucc
              clear hput hz0 hsz hsa
              go_wp2_with fail
              go_quiet (fail)
              have d2 : (w1.drewN nq).cell? ⟨g, off + (i + 1), none⟩ = some (.int .i64 b) := (Q1.out.cell (p := ⟨g, off + (i + 1), none⟩) hglt).trans C2.out
              have d1 : (w1.drewN nq).cell? ⟨g2, k * 3 + 1, none⟩ = some (.int .i64 s.s1) := q1
              have d3 : (w1.drewN nq).frozen? ⟨g2, k * 3 + 1, none⟩ = false := O1.out.frozenAt _
              have O2 := hid (World.ownsRow.stored (show (w1.drewN nq).ownsRow _ _ _ _ _ _ from O1.out) (k * 3 + 1) (.int .i64 (b - 1)))
              have hg2b := (O1.out.lt g2 rfl).1
              have Q2 := hid (bset (bdrewN Q1.out nq) hg2b (o := k * 3 + 1) (.int .i64 (b - 1)))
              rw [span_set hk'.out] at O2
              generalize w1.drewN nq = w2 at *
              clear O1 Q1 q1 q2 c1
              go_wp2_with fail
              go_roundw
              case rel =>
                refine ⟨i + 1, by go_num, .inr (by omega), ?_, Q2.out⟩
                have e : (o ++ [(⟨s.s0, b - 1, s.z⟩ : Gr.Span)]).length = k + 1 := by simp [hk'.out]
                rw [hsucc.out, e]
                exact O2.out.1
              case measure => simp [intOf]; omega
            · have b3 : (s.s1 + 1 == a) = false := beq_eq_false_iff_ne.2 hsa
              have hput := hid (putS_new (o := o) (s := s) (a := a) (b := b) hz0 (fun h => hsa h.2))
              rw [hput.out] at hsucc
              clear hput hz0 hsz hsa
              go_wp2_with fail
              go_quiet (fail)
              go_upto_region 10 with (fail)
              have O2 := hid (show (w1.drewN nq).ownsRow _ _ _ _ _ _ from O1.out)
              have Q2 := hid (bdrewN Q1.out nq)
              generalize w1.drewN nq = w2 at *
              clear O1 Q1 q1 q2 c1
              have d1 : w2.cell? ⟨g, off + i, none⟩ = some (.int .i64 a) := (Q2.out.cell (p := ⟨g, off + i, none⟩) hglt).trans C1.out
              have d2 : w2.cell? ⟨g, off + (i + 1), none⟩ = some (.int .i64 b) := (Q2.out.cell (p := ⟨g, off + (i + 1), none⟩) hglt).trans C2.out
              have p0 : IntKind.i64.wrap (i : Int) = i := IntWalk.i64_in _ (by omega)
              have p1 : IntKind.i64.wrap ((i : Int) + 1) = (i : Int) + 1 := IntWalk.i64_in _ (by omega)
              have p2 : (0 : Int) ≤ (i : Int) + 1 := by omega
              have p3 : ((i : Int) + 1).toNat = i + 1 := by omega
              have p5 : IntKind.i64.wrap (b - 1) = b - 1 := IntWalk.i64_in _ (by omega)
              have hal := hid ((World.ownsRow.drew O2.out).alloc (.cells #[.int .i64 a, .int .i64 (b - 1), .int .i64 z] 113))
              have hc1 := hid (cells_new w2.drew [.int .i64 a, .int .i64 (b - 1), .int .i64 z] 113 (k := w2.heap.size) rfl)
              have hone : Hid (∀ u ∈ [Value.int .i64 a, .int .i64 (b - 1), .int .i64 z], u.oneCell' = true) := hid (fun u hu => by simp only [List.mem_cons, List.not_mem_nil, or_false] at hu; rcases hu with rfl | rfl | rfl <;> rfl)
              have hbe := hid (Q2.out.drew.alloc Q2.out.drew.size (.cells #[.int .i64 a, .int .i64 (b - 1), .int .i64 z] 113))
              have hba := hid (show w.heap.size ≤ (w2.drew.alloc (.cells #[.int .i64 a, .int .i64 (b - 1), .int .i64 z] 113)).heap.size from hbe.out.size)
              have nlen : (k + 1) + 1 ≤ maxLen := by unfold maxLen; omega
              have nby : ((k + 1) + 1) * 24 ≤ 140737488355328 := by omega
              clear Q2 O2
              go_region_law (
                (refine step_append_lies _ rfl _ _ 111 rfl w.heap.size 113 i0 _ 3 24 Tryz.underlying111 hinf hiz hisz hiby rfl (by decide) _ _ _ rfl hal.out ⟨w2.heap.size, 0, none⟩ 1 1 [.int .i64 a, .int .i64 (b - 1), .int .i64 z] rfl rfl hc1.out hone.out (by decide) nlen nby hba.out _ rfl ?_
                 intro g5 cap5 w5 hown5 hgrow hat5 hlt5
                 have O5 := hid hown5
                 have Q5 := hid (hbe.out.grown hgrow hba.out (fun k hk => by have := (hal.out.lt k hk).1; omega))
                 clear hown5 hgrow hat5 hlt5))
              all_goals
                go_wp2_with fail
                go_roundw
                case rel =>
                  refine ⟨i + 1, by go_num, .inr (by omega), ?_, Q5.out⟩
                  have e : (o ++ [s] ++ [(⟨a, b - 1, z⟩ : Gr.Span)]).length = k + 1 + 1 := by simp [hk'.out]
                  rw [hsucc.out, e, spansC_snoc]
                  exact O5.out
                case measure => simp [intOf]; omega
          · have b2 : (s.z == z) = false := beq_eq_false_iff_ne.2 hsz
            have hput := hid (putS_new (o := o) (s := s) (a := a) (b := b) hz0 (fun h => hsz h.1))
            rw [hput.out] at hsucc
            clear hput hz0 hsz
            go_wp2_with fail
            go_quiet (fail)
            go_upto_region 10 with (fail)
            have O2 := hid (show (w1.drewN nq).ownsRow _ _ _ _ _ _ from O1.out)
            have Q2 := hid (bdrewN Q1.out nq)
            generalize w1.drewN nq = w2 at *
            clear O1 Q1 q1 q2 c1
            have d1 : w2.cell? ⟨g, off + i, none⟩ = some (.int .i64 a) := (Q2.out.cell (p := ⟨g, off + i, none⟩) hglt).trans C1.out
            have d2 : w2.cell? ⟨g, off + (i + 1), none⟩ = some (.int .i64 b) := (Q2.out.cell (p := ⟨g, off + (i + 1), none⟩) hglt).trans C2.out
            have p0 : IntKind.i64.wrap (i : Int) = i := IntWalk.i64_in _ (by omega)
            have p1 : IntKind.i64.wrap ((i : Int) + 1) = (i : Int) + 1 := IntWalk.i64_in _ (by omega)
            have p2 : (0 : Int) ≤ (i : Int) + 1 := by omega
            have p3 : ((i : Int) + 1).toNat = i + 1 := by omega
            have p5 : IntKind.i64.wrap (b - 1) = b - 1 := IntWalk.i64_in _ (by omega)
            have hal := hid ((World.ownsRow.drew O2.out).alloc (.cells #[.int .i64 a, .int .i64 (b - 1), .int .i64 z] 113))
            have hc1 := hid (cells_new w2.drew [.int .i64 a, .int .i64 (b - 1), .int .i64 z] 113 (k := w2.heap.size) rfl)
            have hone : Hid (∀ u ∈ [Value.int .i64 a, .int .i64 (b - 1), .int .i64 z], u.oneCell' = true) := hid (fun u hu => by simp only [List.mem_cons, List.not_mem_nil, or_false] at hu; rcases hu with rfl | rfl | rfl <;> rfl)
            have hbe := hid (Q2.out.drew.alloc Q2.out.drew.size (.cells #[.int .i64 a, .int .i64 (b - 1), .int .i64 z] 113))
            have hba := hid (show w.heap.size ≤ (w2.drew.alloc (.cells #[.int .i64 a, .int .i64 (b - 1), .int .i64 z] 113)).heap.size from hbe.out.size)
            have nlen : (k + 1) + 1 ≤ maxLen := by unfold maxLen; omega
            have nby : ((k + 1) + 1) * 24 ≤ 140737488355328 := by omega
            clear Q2 O2
            go_region_law (
              (refine step_append_lies _ rfl _ _ 111 rfl w.heap.size 113 i0 _ 3 24 Tryz.underlying111 hinf hiz hisz hiby rfl (by decide) _ _ _ rfl hal.out ⟨w2.heap.size, 0, none⟩ 1 1 [.int .i64 a, .int .i64 (b - 1), .int .i64 z] rfl rfl hc1.out hone.out (by decide) nlen nby hba.out _ rfl ?_
               intro g5 cap5 w5 hown5 hgrow hat5 hlt5
               have O5 := hid hown5
               have Q5 := hid (hbe.out.grown hgrow hba.out (fun k hk => by have := (hal.out.lt k hk).1; omega))
               clear hown5 hgrow hat5 hlt5))
            all_goals
              go_wp2_with fail
              go_roundw
              case rel =>
                refine ⟨i + 1, by go_num, .inr (by omega), ?_, Q5.out⟩
                have e : (o ++ [s] ++ [(⟨a, b - 1, z⟩ : Gr.Span)]).length = k + 1 + 1 := by simp [hk'.out]
                rw [hsucc.out, e, spansC_snoc]
                exact O5.out
              case measure => simp [intOf]; omega
    · have hfin := hid (show Gr.rowN l xs y i = Gr.row l xs y by
        unfold Gr.row
        rcases hle with rfl | hle
        · rw [show xs.length - 1 = 0 by omega]
        · rw [show xs.length - 1 = i by omega])
      have i2' : ¬ ((i : Int) + 1 < xs.length) := by omega
      obtain ⟨op, oc, hov⟩ := row_shape (Row.of_owns O0.out)
      subst hov
      go_wp2_with fail
      go_ret
      rw [← hfin.out]
      exact ⟨⟨_, rfl, O0.out⟩, Q0.out⟩

end Go.Proofs.YteddkgpnklfppaaGreatDoor

namespace Go.Proofs.YteddkgpnklfppaaGreatDoor
open Go.RowKit Go.Sort

theorem spanArr_one (s : Gr.Span) : (spanArr s).all (·.oneCell') = true := by unfold spanArr; rw [← Array.all_toList]; rfl
theorem span_at3 {w : World} {g o : Nat} {s : Gr.Span} (h : w.rangeAt g o (spanArr s).toList) : w.cell? ⟨g, o, none⟩ = some (.int .i64 s.s0) ∧ w.cell? ⟨g, o + 1, none⟩ = some (.int .i64 s.s1) ∧ w.cell? ⟨g, o + 1 + 1, none⟩ = some (.int .i64 s.z) :=
  ⟨h 0 _ rfl, h 1 _ rfl, h 2 _ rfl⟩
theorem span_cases (s t : Gr.Span) : s = t ∨ (s ≠ t ∧ ((s.s0 == t.s0) = false ∨ ((s.s0 == t.s0) = true ∧ (s.s1 == t.s1) = false) ∨ ((s.s0 == t.s0) = true ∧ (s.s1 == t.s1) = true ∧ (s.z == t.z) = false))) := by
  by_cases h : s = t
  · exact .inl h
  · refine .inr ⟨h, ?_⟩
    by_cases h0 : s.s0 = t.s0
    · by_cases h1 : s.s1 = t.s1
      · by_cases h2 : s.z = t.z
        · obtain ⟨a, b, c⟩ := s
          obtain ⟨a', b', c'⟩ := t
          simp only at h0 h1 h2
          exact absurd (by rw [h0, h1, h2]) h
        · exact .inr (.inr ⟨beq_iff_eq.2 h0, beq_iff_eq.2 h1, beq_eq_false_iff_ne.2 h2⟩)
      · exact .inr (.inl ⟨beq_iff_eq.2 h0, beq_eq_false_iff_ne.2 h1⟩)
    · exact .inl (beq_eq_false_iff_ne.2 h0)
theorem spans_srow {w : World} {v : Value} {l : List Gr.Span} (h : Row w v l.length 3 (spansC l)) : (v = .slice none 0 0 ∧ l = []) ∨ ∃ g off cap, v = .slice (some ⟨g, off, none⟩) l.length cap ∧ SRow w g off cap 3 spanArr l :=
  srow_of (f := spanArr) (fun _ _ => rfl) h

set_option maxRecDepth 100000 in
set_option maxHeartbeats 4000000 in
theorem eqspan_any {w : World} {va vb : Value} {a b : List Gr.Span} (ha : Row w va a.length 3 (spansC a)) (hb : Row w vb b.length 3 (spansC b)) (hn : a.length ≤ 100000) (hm : b.length ≤ 100000) :
    Calls Tryz.prog 75 #[va, vb] w fun e w' => e = .returned (.bool (decide (a = b))) ∧ Below w.heap.size w w' := by
  obtain ⟨pa, ca, hva⟩ := row_shape ha
  obtain ⟨pb, cb, hvb⟩ := row_shape hb
  by_cases hlen : a.length = b.length
  · by_cases h0 : b.length = 0
    · have e := hid (show decide (a = b) = true by rw [List.eq_nil_of_length_eq_zero h0, List.eq_nil_of_length_eq_zero (hlen.trans h0)]; rfl)
      subst hva hvb
      rw [hlen, h0]
      clear ha hb hlen h0
      go_enter Tryz.func75, Tryz.ntmps75
      go_wp2_with fail
      go_loop [13] (fun u => u = .int .i64 0) (fun _ => 0)
      case atStart => rfl
      case round =>
        subst hrel
        go_wp2_with fail
        go_ret
        exact ⟨ret_bool e.out.symm, Below.refl _ _⟩
    · rcases spans_srow ha with ⟨_, rfl⟩ | ⟨g1, o1, k1, h1, r1⟩
      · exact absurd hlen.symm h0
      rcases spans_srow hb with ⟨_, rfl⟩ | ⟨g2, o2, k2, h2, r2⟩
      · exact absurd rfl h0
      rw [h1, h2, hlen]
      have r1' := hid r1
      have r2' := hid r2
      have hl' := hid hlen
      clear ha hb h0 hva hvb h1 h2 r1 r2
      go_enter Tryz.func75, Tryz.ntmps75
      go_wp2_with fail
      go_loopw [13] (fun u wr => ∃ i : Nat, u = .int .i64 i ∧ i ≤ b.length ∧ Below w.heap.size w wr ∧ a.take i = b.take i) (fun u _ => b.length - (intOf u).toNat)
      case atStart => exact ⟨0, rfl, Nat.zero_le _, Below.refl _ _, rfl⟩
      case round =>
        obtain ⟨i, rfl, hle, hQ, hT⟩ := hrel
        have Q0 := hid hQ
        have T0 := hid hT
        by_cases hlt : i < b.length
        · have hlta : i < a.length := by omega
          obtain ⟨x0, x1, x2⟩ := span_at3 ((r1'.out.ext hQ).get i hlta)
          obtain ⟨y0, y1, y2⟩ := span_at3 ((r2'.out.ext hQ).get i hlt)
          have hg1 := Nat.lt_of_lt_of_le r1'.out.lt hQ.size
          have hg2 := Nat.lt_of_lt_of_le r2'.out.lt hQ.size
          have hyes := hid (fun h : a[i] = b[i] => show a.take (i + 1) = b.take (i + 1) by rw [← List.take_append_getElem hlta, ← List.take_append_getElem hlt, T0.out, h])
          have hno := hid (fun h : a[i] ≠ b[i] => show decide (a = b) = false from decide_eq_false (fun e => h (by subst e; rfl)))
          clear hQ hT
          generalize a[i] = s at *
          generalize b[i] = t at *
          have t1 : (0 : Int) ≤ i := by omega
          have t2 : (i : Int) < b.length := by omega
          rcases span_cases s t with he | ⟨hne, hc⟩
          · have hy := hid (hyes.out he)
            subst he
            clear hyes hno
            obtain ⟨a0, a1, a2⟩ := s
            simp only at x0 x1 x2 y0 y1 y2
            go_wp2_with fail
            go_quiet (fail)
            go_wp2_with fail
            go_roundw
            case rel => exact ⟨i + 1, by go_num, by omega, bdrewN Q0.out nq, hy.out⟩
            case measure => simp [intOf]; omega
          · have hn' := hid (hno.out hne)
            clear hyes hno hne
            obtain ⟨a0, a1, a2⟩ := s
            obtain ⟨b0, b1, b2⟩ := t
            simp only at x0 x1 x2 y0 y1 y2 hc
            rcases hc with h1 | ⟨h1, h2⟩ | ⟨h1, h2, h3⟩
            all_goals
              go_wp2_with fail
              go_quiet (fail)
              go_wp2_with fail
              go_ret
              exact ⟨ret_bool hn'.out.symm, bdrewN Q0.out nq⟩
        · obtain rfl : i = b.length := by omega
          have e := hid (show decide (a = b) = true from decide_eq_true (by have h := T0.out; rwa [List.take_of_length_le (Nat.le_refl _), List.take_of_length_le (by omega)] at h))
          clear hQ hT
          go_wp2_with fail
          go_ret
          exact ⟨ret_bool e.out.symm, Q0.out⟩
  · have e := hid (show decide (a = b) = false from decide_eq_false (fun e => hlen (by rw [e])))
    have hb1 : ((a.length : Int) != (b.length : Int)) = true := by rw [bne_iff_ne]; omega
    subst hva hvb
    clear ha hb hlen
    go_enter Tryz.func75, Tryz.ntmps75
    go_wp2_with fail
    go_ret
    exact ⟨ret_bool e.out.symm, Below.refl _ _⟩

end Go.Proofs.YteddkgpnklfppaaGreatDoor
