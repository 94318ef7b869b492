/-
  The walk of grant's table: Of.
  The walks of grant: the library's Clone over patches and over boxes; Patches.
  The walk of grant's New.
  Plain laws of the lexer, more: what is lexed again; places; names. No program.
-/
import Derived.Test.YteddkgpnklfppaaGreatDoorPk20
import Derived.Lib.SliceRun
import Derived.Test.YteddkgpnklfppaaGreatDoorPk13

namespace Go.Proofs.YteddkgpnklfppaaGreatDoor
open Go.RowKit Go.Sort Go.Maps

/-- a rectangle's zoom as the table tells it -/
def ofT (rs : List Ru.Rule) (a b c : Int) (r : Po.Box) : Int := if Ru.numbers3 a b c = true ∧ Ru.boxR r = true then Gr.ofP (Gr.patches rs a b c) r else 0
theorem meet_boxR {r b : Po.Box} (hr : Ru.boxR r = true) (hm : Gr.meets b r = true) : Ru.boxR (Gr.meet b r) = true := by
  have h1 := Gr.boxR_le hr
  unfold Gr.meets at hm
  simp only [Bool.and_eq_true, decide_eq_true_eq] at hm
  have h2 := Gr.boxR_le hm.1.1.1.1.1
  apply Gr.boxR_of
  unfold Gr.meet
  simp only
  omega
theorem patches_boxR (rs : List Ru.Rule) (a b c : Int) : ∀ q ∈ Gr.patches rs a b c, Ru.boxR q.box = true := by
  obtain ⟨y0, h, _⟩ := Gr.bands_ok (Gr.mine_fine rs a b c)
  exact fun q hq => (h.rng q hq).2.1
theorem ofStep_yes {r : Po.Box} {p : Int × Int} {q : Gr.Patch} (h : Gr.meets q.box r = true) : Gr.ofStep r p q = ((p.1 - Gr.area (Gr.meet q.box r)) % 18446744073709551616, min p.2 q.z) := by unfold Gr.ofStep; rw [if_pos h]
theorem ofStep_no {r : Po.Box} {p : Int × Int} {q : Gr.Patch} (h : Gr.meets q.box r = false) : Gr.ofStep r p q = p := by unfold Gr.ofStep; rw [h]; rfl
theorem u64_mod (n : Int) : IntKind.u64.wrap n = n % 18446744073709551616 := by rw [IntKind.wrap_u64]

set_option maxRecDepth 100000 in
set_option maxHeartbeats 16000000 in
theorem tof_any {w : World} {lo tb mb : Nat} {rs : List Ru.Rule} {n : Nat} (hT : Tab w lo tb mb rs n) (hn : n ≤ 1000) (a b c : Int) (r : Po.Box) :
    Calls Tryz.prog 10 #[.pointer (some ⟨tb, 0, none⟩), .int .i64 a, .int .i64 b, .int .i64 c, .agg (boxArr r)] w (ZoomPost w lo tb mb rs n (ofT rs a b c r)) := by
  have z := balloc w (.cells (boxArr r) 27)
  have T1 := hid (hT.ext z)
  have Q1 := hid (Touch.of_below (b := mb) z)
  have P1 := hid (Blk.new w (boxArr r) 27)
  have hmd := hid (made_any (hT.ext z))
  have hpb : w.heap.size ≠ mb := by have := hT.lt; omega
  have hbox : Hid (Sem.run Tryz.prog (Instr.box 27 (.agg (boxArr r))) w = .ok (.pointer (some ⟨w.heap.size, 0, none⟩)) (w.alloc (.cells (boxArr r) 27))) := hid (by unfold boxArr; kernel_rfl)
  have hrt : Hid (∀ w, Calls Tryz.prog 23 #[.agg (boxArr r)] w fun e w' => e = .returned (.bool (Ru.boxR r)) ∧ Below w.heap.size w w') := hid (boxright_any r)
  unfold ZoomPost
  cases hk : Ru.numbers3 a b c with
  | false =>
    have e := hid (show ofT rs a b c r = 0 by unfold ofT; rw [if_neg (by rw [hk]; simp)])
    have hk' := hid hk
    have hbx := hbox.out
    clear hT z hk
    go_enter Tryz.func10, Tryz.ntmps10
    go_wp2_with fail
    refine hmd.out.mono ?_
    rintro e w1 ⟨rfl, rfl⟩
    go_wp2_with fail
    refine (gright_any _ _ _ _).mono ?_
    rintro e w2 ⟨rfl, rfl⟩
    rw [hk'.out]
    go_wp2_with fail
    go_ret
    exact ⟨ret_int e.out.symm, T1.out.mono (Nat.le_succ n), Q1.out⟩
  | true =>
    cases hbr : Ru.boxR r with
    | false =>
      have e := hid (show ofT rs a b c r = 0 by unfold ofT; rw [if_neg (by rw [hbr]; simp)])
      rw [hbr] at hrt
      have hk' := hid hk
      have hbx := hbox.out
      clear hT z hk hbr
      go_enter Tryz.func10, Tryz.ntmps10
      go_wp2_with fail
      refine hmd.out.mono ?_
      rintro e w1 ⟨rfl, rfl⟩
      go_wp2_with fail
      refine (gright_any _ _ _ _).mono ?_
      rintro e w2 ⟨rfl, rfl⟩
      rw [hk'.out]
      go_wp2_with (first | (refine wpList_load_blkG rfl 27 (.tmp 9) rfl 28 rfl w.heap.size 27 (boxArr r) (P1.out) rfl Tryz.underlying27 rfl (by kernel_rfl) ?_))
      refine (hrt.out _).mono ?_
      rintro e w3 ⟨rfl, hb3⟩
      have T3 := hid (T1.out.ext hb3)
      have Q3 := hid (Q1.out.below hb3)
      clear hb3
      go_wp2_with fail
      go_ret
      exact ⟨ret_int e.out.symm, T3.out.mono (Nat.le_succ n), Q3.out⟩
    | true =>
      have e := hid (show ofT rs a b c r = Gr.ofP (Gr.patches rs a b c) r by unfold ofT; rw [if_pos ⟨hk, hbr⟩])
      rw [hbr] at hrt
      have hbr' := hid hbr
      have har : Hid (∀ w, Calls Tryz.prog 26 #[.agg (boxArr r)] w fun e w' => e = .returned (.int .u64 (Gr.area r)) ∧ Below w.heap.size w w') := hid (fun w => garea_any hbr w)
      have hk' := hid hk
      have hpt := hid (fun w1 (h1 : Tab w1 lo tb mb rs n) => patches_any h1 hn hk)
      have hpl := patches_len hT.few a b c
      have hpr := hid (patches_boxR rs a b c)
      have hbx := hbox.out
      unfold PatchPost at hpt
      clear hT z hk hbr
      go_enter Tryz.func10, Tryz.ntmps10
      go_wp2_with fail
      refine hmd.out.mono ?_
      rintro e w1 ⟨rfl, rfl⟩
      go_wp2_with fail
      refine (gright_any _ _ _ _).mono ?_
      rintro e w2 ⟨rfl, rfl⟩
      rw [hk'.out]
      go_wp2_with (first | (refine wpList_load_blkG rfl 27 (.tmp 9) rfl 28 rfl w.heap.size 27 (boxArr r) (P1.out) rfl Tryz.underlying27 rfl (by kernel_rfl) ?_))
      refine (hrt.out _).mono ?_
      rintro e w3 ⟨rfl, hb3⟩
      have T3 := hid (T1.out.ext hb3)
      have Q3 := hid (Q1.out.below hb3)
      have P3 := hid (P1.out.ext hb3)
      clear hb3 hbx T1 Q1 P1 hmd
      have hpb2 := hid hpb
      clear hpb
      generalize w.heap.size = pb at *
      go_wp2_with (first | (refine wpList_load_blk rfl 27 (.tmp 9) rfl 32 rfl pb 27 (boxArr r) (P3.out) rfl Tryz.underlying27 rfl (by kernel_rfl) ?_))
      refine (har.out _).mono ?_
      rintro e w4 ⟨rfl, hb4⟩
      have T4 := hid (T3.out.ext hb4)
      have Q4 := hid (Q3.out.below hb4)
      have P4 := hid (P3.out.ext hb4)
      have hp4 := hid (hpt.out w4 T4.out)
      clear hb4 T3 Q3 P3 hpt har hrt
      go_wp2_with fail
      refine hp4.out.mono ?_
      rintro e w5 ⟨⟨v, rfl, hv, hr⟩, hT5, ht5⟩
      have T5 := hid hT5
      have Q5 := hid (Q4.out.trans ht5)
      have P5 := hid (P4.out.touch ht5 hpb2.out)
      have R5 := hid (patch_srow hr)
      obtain ⟨vp, vc, hvv⟩ := row_shape hr
      subst hvv
      clear hv hr hT5 ht5 T4 Q4 P4 hp4
      generalize Gr.patches rs a b c = ps at *
      have hPR : Hid (0 < ps.length → ∃ g off, vp = some ⟨g, off, none⟩ ∧ SRow w5 g off vc 5 patchArr ps) := by
        refine hid (fun hpos => ?_)
        rcases R5.out with ⟨_, rfl⟩ | ⟨g, off, cap, hv, hr⟩
        · simp at hpos
        · cases hv; exact ⟨g, off, rfl, hr⟩
      clear R5
      go_wp2_with fail
      go_loopw [11, 12, 40] (fun u1 u2 u wr => ∃ (i : Nat) (L m : Int), u1 = .int .u64 L ∧ u2 = .int .i64 m ∧ u = .int .i64 i ∧ i ≤ ps.length ∧ Below w5.heap.size w5 wr ∧ (ps.take i).foldl (Gr.ofStep r) (Gr.area r, 16) = (L, m)) (fun _ _ u _ => ps.length - (intOf u).toNat)
      case atStart => exact ⟨0, Gr.area r, 16, rfl, rfl, rfl, Nat.zero_le _, Below.refl _ _, rfl⟩
      case round =>
        obtain ⟨i, L, m, rfl, rfl, rfl, hle, hQ, hfd⟩ := hrel
        have Q6 := hid hQ
        have F6 := hid hfd
        have P6 := hid (P5.out.ext hQ)
        clear hQ hfd
        by_cases hlt : i < ps.length
        · obtain ⟨g, off, rfl, hg⟩ := hPR.out (by omega)
          have hat := hid ((hg.ext Q6.out).get i hlt)
          have hqr := hid (hpr.out _ (List.getElem_mem hlt))
          have hfold := hid (foldl_take hlt F6.out)
          clear hg
          generalize ps[i] = q at *
          have hone := hid (patchArr_one q)
          have z6 := balloc wr (.cells (patchArr q) 63)
          have B7 := hid (Blk.new wr (patchArr q) 63)
          have P7 := hid (P6.out.ext z6)
          have Q7 := hid (bthen Q6.out z6)
          have hmt : Hid (∀ w, Calls Tryz.prog 27 #[.agg (boxArr q.box), .agg (boxArr r)] w fun e w' => e = .returned (if Gr.meets q.box r then .tuple #[.agg (boxArr (Gr.meet q.box r)), .bool true] else .tuple #[.agg #[.int .i64 0, .int .i64 0, .int .i64 0, .int .i64 0], .bool false]) ∧ Below w.heap.size w w') := hid (fun w => gmeet_any hqr.out hbr'.out w)
          clear z6 P6 Q6 F6
          go_upto_region 7 with (first | (refine wpList_load_at rfl 63 (.tmp 42) rfl 43 rfl g (off + i * 5) (patchArr q) (hat.out) rfl Tryz.underlying63 rfl (by kernel_rfl) ?_) | (refine wpList_store_new rfl 63 (.tmp 14) (.tmp 43) rfl rfl wr 63 _ (patchArr q) rfl rfl rfl (by kernel_rfl) rfl (hone.out) ?_))
          generalize wr.alloc (.cells (patchArr q) 63) = wa at *
          generalize wr.heap.size = k at *
          clear hat hone
          cases hm : Gr.meets q.box r with
          | false =>
            rw [hm] at hmt
            simp only [Bool.false_eq_true, if_false] at hmt
            have hst := hid (ofStep_no (p := (L, m)) hm)
            rw [hst.out] at hfold
            clear hm hst
            go_wp2_with (first | (refine wpList_load_at rfl 27 (.tmp 45) rfl 46 rfl k (0) (boxArr q.box) (patch_box B7.out) rfl Tryz.underlying27 rfl (by kernel_rfl) ?_) | (refine wpList_load_blk rfl 27 (.tmp 9) rfl 47 rfl pb 27 (boxArr r) (P7.out) rfl Tryz.underlying27 rfl (by kernel_rfl) ?_))
            refine (hmt.out _).mono ?_
            rintro e7 w7 ⟨rfl, hb7⟩
            have z8 := balloc w7 (.cells #[.int .i64 0, .int .i64 0, .int .i64 0, .int .i64 0] 27)
            have Q8 := hid (bthen (bthen Q7.out hb7) z8)
            clear hb7 z8 hmt Q7 B7 P7
            go_wp2_with fail
            go_roundw
            case rel => exact ⟨i + 1, L, m, rfl, rfl, by go_num, by omega, Q8.out, hfold.out⟩
            case measure => simp [intOf]; omega
          | true =>
            rw [hm] at hmt
            simp only [if_true] at hmt
            have hst := hid (ofStep_yes (p := (L, m)) hm)
            have har2 : Hid (∀ w, Calls Tryz.prog 26 #[.agg (boxArr (Gr.meet q.box r))] w fun e w' => e = .returned (.int .u64 (Gr.area (Gr.meet q.box r))) ∧ Below w.heap.size w w') := hid (fun w => garea_any (meet_boxR hbr'.out hm) w)
            rw [hst.out] at hfold
            clear hm hst
            generalize Gr.meet q.box r = mt at *
            go_wp2_with (first | (refine wpList_load_at rfl 27 (.tmp 45) rfl 46 rfl k (0) (boxArr q.box) (patch_box B7.out) rfl Tryz.underlying27 rfl (by kernel_rfl) ?_) | (refine wpList_load_blk rfl 27 (.tmp 9) rfl 47 rfl pb 27 (boxArr r) (P7.out) rfl Tryz.underlying27 rfl (by kernel_rfl) ?_))
            refine (hmt.out _).mono ?_
            rintro e7 w7 ⟨rfl, hb7⟩
            have z8 := balloc w7 (.cells (boxArr mt) 27)
            have Q8 := hid (bthen (bthen Q7.out hb7) z8)
            have B8 := hid ((B7.out.ext hb7).ext z8)
            have M8 := hid (Blk.new w7 (boxArr mt) 27)
            clear hb7 z8 hmt Q7 B7 P7
            go_upto_region 8 with (first | (refine wpList_store_new rfl 27 (.tmp 15) (.tmp 49) rfl rfl w7 27 _ (boxArr mt) rfl rfl rfl (by kernel_rfl) rfl (boxArr_one mt) ?_))
            generalize w7.alloc (.cells (boxArr mt) 27) = w8 at *
            generalize w7.heap.size = k8 at *
            go_wp2_with (first | (refine wpList_load_blk rfl 27 (.tmp 15) rfl 53 rfl k8 27 (boxArr mt) (M8.out) rfl Tryz.underlying27 rfl (by kernel_rfl) ?_))
            refine (har2.out _).mono ?_
            rintro e9 w9 ⟨rfl, hb9⟩
            have Q9 := hid (bthen Q8.out hb9)
            have q4 := (B8.out.ext hb9).cell 4 (v := .int .i64 q.z) rfl
            clear hb9 Q8 B8 M8 har2
            go_wp2_with fail
            all_goals
              go_roundw
              case rel => exact ⟨i + 1, _, _, rfl, rfl, by go_num, by omega, Q9.out, by rw [hfold.out]; ext <;> simp only [u64_mod] <;> first | done | rfl | omega⟩
              case measure => simp [intOf]; omega
        · obtain rfl : i = ps.length := by omega
          have hz := hid (show Gr.ofP ps r = if L > 0 then 0 else m by
            have h := F6.out
            rw [List.take_of_length_le (Nat.le_refl _)] at h
            unfold Gr.ofP Gr.ofG
            rw [h])
          have TT := hid (T5.out.ext Q6.out)
          have QQ := hid (Q5.out.below Q6.out)
          clear P6 Q6 F6
          by_cases hL : L > 0
          · rw [if_pos hL] at hz
            go_wp2_with fail
            go_ret
            exact ⟨ret_int (by rw [e.out, hz.out]), TT.out, QQ.out⟩
          · rw [if_neg hL] at hz
            go_wp2_with fail
            go_ret
            exact ⟨ret_int (by rw [e.out, hz.out]), TT.out, QQ.out⟩

end Go.Proofs.YteddkgpnklfppaaGreatDoor

namespace Go.Proofs.YteddkgpnklfppaaGreatDoor
open Go.RowKit Go.Sort Go.Maps

theorem gbsrc {w : World} {x : Value} {l : List Po.Box} (h : BRow w x l) : (x = .slice none 0 0 ∧ l = []) ∨ (∃ c, x = .slice none 0 c ∧ l = []) ∨ ∃ a c, x = .slice (some a) l.length c ∧ ∀ j u, (boxesCells l)[j]? = some u → w.cell? (a.add j) = some u := by
  rcases h with ⟨p, c, rfl, rfl⟩ | h
  · cases p with
    | none => exact .inr (.inl ⟨c, rfl, rfl⟩)
    | some a => exact .inr (.inr ⟨a, c, rfl, fun j u hj => by simp [boxesCells] at hj⟩)
  · rcases h.2 with ⟨rfl, h0⟩ | ⟨g, off, cap, rfl, _, _, hc⟩
    · exact .inl ⟨rfl, List.eq_nil_of_length_eq_zero h0⟩
    · exact .inr (.inr ⟨⟨g, off, none⟩, cap, rfl, fun j u hj => by rw [addr_add]; exact hc j u hj⟩)
theorem patchesC_one (l : List Gr.Patch) : ∀ u ∈ patchesC l, u.oneCell' = true := by
  intro u hu
  unfold patchesC at hu
  obtain ⟨q, _, hq⟩ := List.mem_flatMap.1 hu
  exact (Array.all_eq_true_iff_forall_mem.1 (patchArr_one q)) u (by simpa using hq)
theorem patchesC_len (l : List Gr.Patch) : (patchesC l).length = l.length * 5 := by
  unfold patchesC
  induction l with
  | nil => rfl
  | cons q l ih =>
    rw [List.flatMap_cons, List.length_append, ih, List.length_cons]
    show 5 + l.length * 5 = _
    omega
set_option maxRecDepth 100000 in
set_option maxHeartbeats 4000000 in
theorem clonep_any {w : World} {v : Value} {l : List Gr.Patch} (h : Row w v l.length 5 (patchesC l)) (hn : l.length ≤ 7000000) :
    Calls Tryz.prog 36 #[v] w fun e w' => (∃ v', e = .returned v' ∧ Row w' v' l.length 5 (patchesC l) ∧ ∀ q, v'.ownBlock = some q → w.heap.size ≤ q) ∧ Below w.heap.size w w' := by
  obtain ⟨i0, hinf, hiz, hisz, hiby⟩ := info_parts Tryz.infoPatch
  have q49 : ∀ (w : World) (a : Option Addr) (n c n' c' : Nat), (binOp .eql 49 (.slice a n c) (.slice none n' c')).run Tryz.prog w = .ok (.bool a.isNone) w := fun w a n c n' c' => Lib.run_eql_slice_nil w _ _ a n c n' c' Tryz.underlying49
  rcases h.2 with ⟨rfl, h0⟩ | ⟨g, off, cap, rfl, _, hlt, hc⟩
  · have hnil := List.eq_nil_of_length_eq_zero h0
    subst hnil
    clear h
    go_enter Tryz.func36, Tryz.ntmps36
    go_wp2_with fail
    go_ret
    exact ⟨⟨_, rfl, Row.nil _ 5, fun q hq => by simp [Value.ownBlock] at hq⟩, Below.refl _ _⟩
  · have z := balloc w (.cells #[] 63)
    have hnews := hid ((h.ext z).news)
    have hown := hid (World.ownsRow_made (base := w.heap.size) (size := 5) (e := 63) w #[] 0 (Nat.le_refl _) (Nat.zero_le _) rfl)
    have Q1 := hid z
    have hl5 := patchesC_len l
    clear h z hc
    go_enter Tryz.func36, Tryz.ntmps36
    go_wp2_with (first | (at_builtin; refine Go.wpList_append_own_at _ rfl _ _ 49 rfl w.heap.size 63 i0 _ 5 40 Tryz.underlying49 hinf hiz hisz hiby rfl (by decide) _ _ _ rfl hown.out ⟨g, off, none⟩ l.length cap (patchesC l) rfl hl5 hnews.out (patchesC_one l) (by unfold maxLen; omega) (by omega) (by simp) ?_; intro v6 w6 hown6 hgrow _ hat6; rw [Nat.zero_add, List.nil_append] at hown6; have O6 := hid hown6; have F6 := hid (fun q hq => (hown6.lt q hq).1); have Q6 := hid (Q1.out.grown hgrow (by simp) (fun k hk => by have := (hown.out.lt k hk).1; omega)); clear hown6 hgrow hat6))
    go_ret
    exact ⟨⟨_, rfl, Row.of_owns O6.out, F6.out⟩, Q6.out⟩

set_option maxRecDepth 100000 in
set_option maxHeartbeats 4000000 in
theorem cloneb_any {w : World} {v : Value} {l : List Po.Box} (h : BRow w v l) (hn : l.length ≤ 7000000) :
    Calls Tryz.prog 17 #[v] w fun e w' => (∃ v', e = .returned v' ∧ BRow w' v' l ∧ ∀ q, v'.ownBlock = some q → w.heap.size ≤ q) ∧ Below w.heap.size w w' := by
  obtain ⟨i0, hinf, hiz, hisz, hiby⟩ := info_parts Tryz.infoRect
  have q49 : ∀ (w : World) (a : Option Addr) (n c n' c' : Nat), (binOp .eql 54 (.slice a n c) (.slice none n' c')).run Tryz.prog w = .ok (.bool a.isNone) w := fun w a n c n' c' => Lib.run_eql_slice_nil w _ _ a n c n' c' Tryz.underlying54
  rcases gbsrc h with ⟨rfl, h0⟩ | ⟨c, rfl, h0⟩ | ⟨a, c, rfl, hc⟩
  · subst h0
    clear h
    go_enter Tryz.func17, Tryz.ntmps17
    go_wp2_with fail
    go_ret
    exact ⟨⟨_, rfl, .inl ⟨none, 0, rfl, rfl⟩, fun q hq => by simp [Value.ownBlock] at hq⟩, Below.refl _ _⟩
  · subst h0
    clear h
    go_enter Tryz.func17, Tryz.ntmps17
    go_wp2_with fail
    go_ret
    exact ⟨⟨_, rfl, .inl ⟨none, 0, rfl, rfl⟩, fun q hq => by simp [Value.ownBlock] at hq⟩, Below.refl _ _⟩
  · have z := balloc w (.cells #[] 27)
    have hnews : Hid (∀ j u, (boxesCells l)[j]? = some u → (w.alloc (.cells #[] 27)).cell? (a.add j) = some u) := hid (fun j u hj => Lib.cell?_alloc_some _ (hc j u hj))
    have hown := hid (World.ownsRow_made (base := w.heap.size) (size := 4) (e := 27) w #[] 0 (Nat.le_refl _) (Nat.zero_le _) rfl)
    have Q1 := hid z
    have hl5 := boxesCells_len l
    clear h z hc
    go_enter Tryz.func17, Tryz.ntmps17
    go_wp2_with (first | (at_builtin; refine Go.wpList_append_own_at _ rfl _ _ 54 rfl w.heap.size 27 i0 _ 4 32 Tryz.underlying54 hinf hiz hisz hiby rfl (by decide) _ _ _ rfl hown.out a l.length c (boxesCells l) rfl hl5 hnews.out (boxesCells_one l) (by unfold maxLen; omega) (by omega) (by simp) ?_; intro v6 w6 hown6 hgrow _ hat6; rw [Nat.zero_add, List.nil_append] at hown6; have O6 := hid hown6; have F6 := hid (fun q hq => (hown6.lt q hq).1); have Q6 := hid (Q1.out.grown hgrow (by simp) (fun k hk => by have := (hown.out.lt k hk).1; omega)); clear hown6 hgrow hat6))
    go_ret
    exact ⟨⟨_, rfl, .inr (Row.of_owns O6.out), F6.out⟩, Q6.out⟩

/-- the patches as the table hands them back -/
def patchesT (rs : List Ru.Rule) (a b c : Int) : List Gr.Patch := if Ru.numbers3 a b c = true then Gr.patches rs a b c else []
set_option maxRecDepth 100000 in
set_option maxHeartbeats 8000000 in
theorem tpatches_any {w : World} {lo tb mb : Nat} {rs : List Ru.Rule} {n : Nat} (hT : Tab w lo tb mb rs n) (hn : n ≤ 1000) (a b c : Int) :
    Calls Tryz.prog 14 #[.pointer (some ⟨tb, 0, none⟩), .int .i64 a, .int .i64 b, .int .i64 c] w fun e w' => (∃ v, e = .returned v ∧ Row w' v (patchesT rs a b c).length 5 (patchesC (patchesT rs a b c)) ∧ ∀ q, v.ownBlock = some q → w.heap.size ≤ q) ∧ Tab w' lo tb mb rs (n + 1) ∧ Touch mb w w' := by
  have hmd := hid (made_any hT)
  cases hk : Ru.numbers3 a b c with
  | false =>
    have e := hid (show patchesT rs a b c = [] by unfold patchesT; rw [hk]; rfl)
    have T1 := hid hT
    have hk' := hid hk
    clear hT hk
    go_enter Tryz.func14, Tryz.ntmps14
    go_wp2_with fail
    refine hmd.out.mono ?_
    rintro e w1 ⟨rfl, rfl⟩
    go_wp2_with fail
    refine (gright_any _ _ _ _).mono ?_
    rintro e w2 ⟨rfl, rfl⟩
    rw [hk'.out]
    go_wp2_with fail
    go_ret
    rw [e.out]
    exact ⟨⟨_, rfl, Row.nil _ 5, fun q hq => by simp [Value.ownBlock] at hq⟩, T1.out.mono (Nat.le_succ n), Touch.refl _ _⟩
  | true =>
    have e := hid (show patchesT rs a b c = Gr.patches rs a b c by unfold patchesT; rw [if_pos hk])
    have hpt := hid (patches_any hT hn hk)
    have hpl := patches_len hT.few a b c
    have hk' := hid hk
    unfold PatchPost at hpt
    rw [e.out]
    have hmb := hT.lt
    clear hT hk e
    generalize Gr.patches rs a b c = ps at *
    go_enter Tryz.func14, Tryz.ntmps14
    go_wp2_with fail
    refine hmd.out.mono ?_
    rintro e w1 ⟨rfl, rfl⟩
    go_wp2_with fail
    refine (gright_any _ _ _ _).mono ?_
    rintro e w2 ⟨rfl, rfl⟩
    rw [hk'.out]
    go_wp2_with fail
    refine hpt.out.mono ?_
    rintro e w3 ⟨⟨v, rfl, hv, hr⟩, hT3, ht3⟩
    have T3 := hid hT3
    have Q3 := hid ht3
    have hcl := hid (clonep_any hr hpl)
    have hm3 := hT3.lt
    obtain ⟨vp, vc, hvv⟩ := row_shape hr
    subst hvv
    clear hv hr hT3 ht3 hmd hpt
    go_wp2_with fail
    refine hcl.out.mono ?_
    rintro e w4 ⟨⟨v4, rfl, hr4, hq4⟩, hb4⟩
    have T4 := hid (T3.out.ext hb4)
    have Q4 := hid (Q3.out.below hb4)
    have R4 := hid hr4
    have F4 := hid (fun q (hq : v4.ownBlock = some q) => (show w.heap.size ≤ q by have := hq4 q hq; have := Q3.out.size; omega))
    clear hr4 hb4 hq4 hcl
    go_wp2_with fail
    go_ret
    exact ⟨⟨_, rfl, R4.out, F4.out⟩, T4.out, Q4.out⟩

end Go.Proofs.YteddkgpnklfppaaGreatDoor

namespace Go.Proofs.YteddkgpnklfppaaGreatDoor
open Go.RowKit Go.Sort Go.Maps

theorem Touch.setCells {b : Nat} {a : World} : ∀ (vs : List Value) (o : Nat) (w : World), Touch b a w → Touch b a (w.setCells b o vs)
  | [], _, _, h => h
  | v :: r, o, _w, h => Touch.setCells r (o + 1) _ (h.setCell o v)
/-- the first rules of a row are laid: each with boxes of its own, behind block ob -/
structure OwnN (w : World) (ob n i : Nat) (rs : List Ru.Rule) : Prop where
  lt : ob < w.heap.size
  there : w.there ob 0 (n * 7)
  get : ∀ (j : Nat) (hj : j < rs.length), j < i → ∃ x, w.rangeAt ob (j * 7) (ruleArr rs[j] x).toList ∧ BRow w x rs[j].boxes ∧ ∀ q, x.ownBlock = some q → ob < q
theorem there_ext {w w' : World} {b o n : Nat} (h : w.there b o n) (hlt : b < w.heap.size) (hb : Below w.heap.size w w') : w'.there b o n := fun j hj => by
  rw [hb.cell (p := ⟨b, o + j, none⟩) hlt, hb.frozen (p := ⟨b, o + j, none⟩) hlt]
  exact h j hj
theorem OwnN.ext {w w' : World} {ob n i : Nat} {rs : List Ru.Rule} (h : OwnN w ob n i rs) (hb : Below w.heap.size w w') : OwnN w' ob n i rs :=
  ⟨Nat.lt_of_lt_of_le h.lt hb.size, there_ext h.there h.lt hb, fun j hj hi => by
    obtain ⟨x, h1, h2, h3⟩ := h.get j hj hi
    exact ⟨x, fun k u hu => (hb.cell (p := ⟨ob, j * 7 + k, none⟩) h.lt).trans (h1 k u hu), h2.ext hb, h3⟩⟩
theorem BRow.touch {w w' : World} {v : Value} {l : List Po.Box} {b : Nat} (h : BRow w v l) (ht : Touch b w w') (hn : v.ownBlock ≠ some b) : BRow w' v l := h.imp id (fun r => r.touch ht hn)
theorem OwnN.put {w : World} {ob n i : Nat} {rs : List Ru.Rule} (h : OwnN w ob n i rs) (hi : i < rs.length) (hin : i < n) {x : Value} (hx : BRow w x rs[i].boxes) (hq : ∀ q, x.ownBlock = some q → ob < q) : OwnN (w.setCells ob (i * 7) (ruleArr rs[i] x).toList) ob n (i + 1) rs := by
  have ht : Touch ob w (w.setCells ob (i * 7) (ruleArr rs[i] x).toList) := Touch.setCells _ _ _ (Touch.refl _ _)
  have hth : w.there ob (i * 7) 7 := fun j hj => by
    have := h.there (i * 7 + j) (by omega)
    rw [Nat.zero_add] at this
    exact this
  refine ⟨Nat.lt_of_lt_of_le h.lt ht.size, World.there_setCells h.there _ _ _, fun j hj hji => ?_⟩
  by_cases e : j = i
  · subst e
    exact ⟨x, World.rangeAt_setCells_same w ob (j * 7) _ hth, hx.touch ht (fun e => by have := hq _ e; omega), hq⟩
  · obtain ⟨y, h1, h2, h3⟩ := h.get j hj (by omega)
    exact ⟨y, World.rangeAt_setCells_apart h1 _ _ _ (.inr (.inl (by show j * 7 + 7 ≤ i * 7; omega))), h2.touch ht (fun e => by have := h3 _ e; omega), h3⟩
theorem OwnN.sl {w w' : World} {ob : Nat} {rs : List Ru.Rule} (h : OwnN w ob rs.length rs.length rs) (hb : ∀ r ∈ rs, r.boxes.length ≤ 140737488355328) (hs : w.heap.size ≤ w'.heap.size) (hk : ∀ k, ob ≤ k → k < w.heap.size → w'.heap[k]? = w.heap[k]?) : RSl w' (.slice (some ⟨ob, 0, none⟩) rs.length rs.length) rs :=
  .inr ⟨ob, 0, rs.length, rfl, Nat.le_refl _, Nat.lt_of_lt_of_le h.lt hs, fun i hi => by
    obtain ⟨x, h1, h2, h3⟩ := h.get i hi hi
    refine ⟨x, fun j u hu => ?_, ?_, hb _ (List.getElem_mem hi)⟩
    · rw [Nat.zero_add]
      exact (World.cell?_of_block (w := w) (a := ⟨ob, i * 7 + j, none⟩) (hk ob (Nat.le_refl _) h.lt)).trans (h1 j u hu)
    · refine h2.imp id (fun r => ?_)
      refine ⟨r.1, ?_⟩
      rcases r.2 with h4 | ⟨g, off, cap, hv, hn, hg, hc⟩
      · exact .inl h4
      · have hgo := h3 g (by rw [hv]; rfl)
        exact .inr ⟨g, off, cap, hv, hn, Nat.lt_of_lt_of_le hg hs, fun j u hj => (World.cell?_of_block (w := w) (a := ⟨g, off + j, none⟩) (hk g (by omega) hg)).trans (hc j u hj)⟩⟩
theorem made_there {w : World} {base : Nat} {e : TypeId} {g n cap : Nat} {xs : List Value} (h : w.ownsRow base e 7 (.slice (some ⟨g, 0, none⟩) n cap) n xs) : w.there g 0 (n * 7) := fun j hj => by
  rw [Nat.zero_add]
  refine ⟨?_, h.frozenAt j⟩
  rw [h.cellAt j hj, List.getElem?_eq_getElem (by rw [h.1]; exact hj)]
  rfl

set_option maxRecDepth 100000 in
set_option maxHeartbeats 8000000 in
theorem new_any {w : World} {v : Value} {rs : List Ru.Rule} (h : RSl w v rs) (hl : rs.length ≤ 32) (hF : Few rs) (hok : Ru.rulesR rs = true) :
    Calls Tryz.prog 6 #[v] w fun e w' => (∃ tb mb, e = .returned (.tuple #[.pointer (some ⟨tb, 0, none⟩), .int .i64 0]) ∧ Tab w' w.heap.size tb mb rs 0) ∧ Below w.heap.size w w' := by
  obtain ⟨i0, hinf, hiz, hisz, hiby⟩ := info_parts Tryz.infoRule
  have hrt := hid (rright_any h (by omega))
  rw [hok] at hrt
  have R0 := hid h
  have F0 := hid hF
  have hmm := @run_makeMap Tryz.prog
  obtain ⟨vp, vc, hvv⟩ : ∃ p c, v = .slice p rs.length c := by
    rcases h with ⟨rfl, rfl⟩ | ⟨g, off, cap, rfl, _⟩
    · exact ⟨_, _, rfl⟩
    · exact ⟨_, _, rfl⟩
  subst hvv
  have hPR : Hid (0 < rs.length → ∃ g off, vp = some ⟨g, off, none⟩ ∧ RRow w g off vc rs) := by
    refine hid (fun hpos => ?_)
    rcases R0.out with ⟨_, rfl⟩ | ⟨g, off, cap, hv, hr⟩
    · simp at hpos
    · cases hv; exact ⟨g, off, rfl, hr⟩
  clear h hF hok
  go_enter Tryz.func6, Tryz.ntmps6
  go_wp2_with fail
  refine hrt.out.mono ?_
  rintro e w1 ⟨rfl, hb1⟩
  have Q1 := hid hb1
  have hby : i0.bytes * rs.length ≤ 281474976710656 := by rw [hiby]; omega
  have hs1 := hb1.size
  clear hb1 hrt
  go_wp2_with (first | (refine wpList_make_full _ rfl _ _ 28 rfl w1.heap.size 56 i0 _ 7 Tryz.underlying28 hinf hiz hisz .i64 .i64 rs.length rs.length rs.length rfl rfl rfl rfl hby (by unfold maxLen; omega) (Nat.le_refl _) ?_; intro w2 hown2 hgrow2; have O2 := hid hown2; have G2 := hid hgrow2; clear hown2 hgrow2))
  have N2 := hid (show OwnN w2 w1.heap.size rs.length 0 rs from ⟨(O2.out.lt _ rfl).2, made_there O2.out, fun j hj hi => absurd hi (Nat.not_lt_zero _)⟩)
  have Q2 := hid (show Below w1.heap.size w1 w2 from below_of_grown G2.out)
  clear O2 G2
  obtain ⟨ob, hob⟩ : ∃ ob, ob = w1.heap.size := ⟨_, rfl⟩
  rw [← hob] at N2 Q2 ⊢
  have hob' := hid hob
  clear hob
  go_wp2_with fail
  go_loopw [20] (fun u wr => ∃ i : Nat, u = .int .i64 i ∧ i ≤ rs.length ∧ OwnN wr ob rs.length i rs ∧ Below ob w1 wr) (fun u _ => rs.length - (intOf u).toNat)
  case atStart => exact ⟨0, rfl, Nat.zero_le _, N2.out, Q2.out⟩
  case round =>
    clear N2 Q2
    obtain ⟨i, rfl, hle, hN, hQ⟩ := hrel
    have N3 := hid hN
    have Q3 := hid hQ
    have QW := hid (Q1.out.trans (hQ.mono (by rw [hob'.out]; exact hs1)))
    have hlt3 := hN.lt
    clear hN hQ
    by_cases hlt : i < rs.length
    · obtain ⟨g, off, rfl, hg⟩ := hPR.out (by omega)
      obtain ⟨z, hs⟩ := hg.at QW.out hlt
      have hat := hid hs.at_
      have hone := hid hs.one
      have hbx := hid hs.box
      have hfw := hid (F0.out.few _ (List.getElem_mem hlt))
      obtain ⟨zp, zc, hzv⟩ := hs.box.shape
      have hput := hid (fun (w' : World) (x : Value) (h1 : OwnN w' ob rs.length i rs) h2 h3 => h1.put (x := x) hlt hlt h2 h3)
      clear hs hg
      generalize rs[i] = r at *
      subst hzv
      have z4 := balloc wr (.cells (ruleArr r (.slice zp r.boxes.length zc)) 56)
      have B4 := hid (Blk.new wr (ruleArr r (.slice zp r.boxes.length zc)) 56)
      have Z4 := hid z4
      have hcl := hid (cloneb_any (hbx.out.ext z4) (by have := hfw.out; omega))
      have hsz4 : (wr.alloc (.cells (ruleArr r (.slice zp r.boxes.length zc)) 56)).heap.size = wr.heap.size + 1 := World.size_alloc _ _
      have r5 := B4.out.cell 5 (v := .slice zp r.boxes.length zc) rfl
      clear z4
      go_upto_region 9 with (first | (refine wpList_load_at rfl 56 (.tmp 23) rfl 24 rfl g (off + i * 7) (ruleArr r (.slice zp r.boxes.length zc)) (hat.out) rfl Tryz.underlying56 rfl (by kernel_rfl) ?_) | (refine wpList_store_new rfl 56 (.tmp 6) (.tmp 24) rfl rfl wr 56 _ (ruleArr r (.slice zp r.boxes.length zc)) rfl rfl rfl (by kernel_rfl) rfl (hone.out) ?_))
      generalize wr.alloc (.cells (ruleArr r (.slice zp r.boxes.length zc)) 56) = wa at *
      clear hat hone
      go_wp2_with fail
      refine hcl.out.mono ?_
      rintro e w5 ⟨⟨x', rfl, hx, hxq⟩, hb5⟩
      have B5 := hid (B4.out.ext hb5)
      have Z5 := hid (Z4.out.trans (hb5.mono (by omega)))
      have X5 := hid hx
      have F5 := hid (fun q hq => (show wr.heap.size < q by have := hxq q hq; omega))
      obtain ⟨xp, xc, hxv⟩ := hx.shape
      subst hxv
      have c5 := B5.out.cell 5 (v := .slice zp r.boxes.length zc) rfl
      have f5 := B5.out.free 5
      have B6 := hid (show Blk (w5.setCell ⟨wr.heap.size, 5, none⟩ (.slice xp r.boxes.length xc)) wr.heap.size (ruleArr r (.slice xp r.boxes.length xc)) 56 from B5.out.set 5 _)
      have X6 := hid (X5.out.touch ((Touch.refl wr.heap.size w5).setCell 5 (.slice xp r.boxes.length xc)) (fun e => by have := F5.out _ e; omega))
      have Z6 := hid (bset Z5.out (Nat.le_refl _) (o := 5) (.slice xp r.boxes.length xc))
      have N6 := hid (N3.out.ext Z6.out)
      have P6 := hid (hput.out _ (.slice xp r.boxes.length xc) N6.out X6.out (fun q hq => by have := F5.out q hq; omega))
      have Q6 := hid (((Q3.out.trans (Z6.out.mono (by have := hlt3; omega)))))
      have hth := hid (show (w5.setCell ⟨wr.heap.size, 5, none⟩ (.slice xp r.boxes.length xc)).there ob (i * 7) 7 from fun j hj => by
        have := N6.out.there (i * 7 + j) (by omega)
        rw [Nat.zero_add] at this
        exact this)
      have T6 := hid (Touch.setCells (b := ob) (ruleArr r (.slice xp r.boxes.length xc)).toList (i * 7) _ (Touch.refl ob (w5.setCell ⟨wr.heap.size, 5, none⟩ (.slice xp r.boxes.length xc))))
      have hone6 := hid (ruleArr_one r (v := .slice xp r.boxes.length xc) rfl)
      clear hx hxq hb5 r5 hcl hput N3 X5 B5 Z5 X6
      go_upto_region 10 with (fail)
      generalize w5.setCell ⟨wr.heap.size, 5, none⟩ (.slice xp r.boxes.length xc) = w6 at *
      generalize wr.heap.size = k at *
      clear c5 f5
      have hst := run_storeCells_cells (P := Tryz.prog) ob (i * 7) (ruleArr r (.slice xp r.boxes.length xc)).toList 0 w6 (fun j hj => by have h7 : j < 7 := hj; simpa using (hth.out j h7).1) (fun j hj => by have h7 : j < 7 := hj; simpa using (hth.out j h7).2) (fun v hv => (Array.all_eq_true_iff_forall_mem.1 hone6.out) v (by simpa using hv))
      simp only [Nat.add_zero] at hst
      have hst' := hid hst
      clear hst
      go_wp2_with (first | (refine wpList_load_blk rfl 56 (.tmp 6) rfl 31 rfl k 56 (ruleArr r (.slice xp r.boxes.length xc)) (B6.out) rfl Tryz.underlying56 rfl (by kernel_rfl) ?_))
      rw [hst'.out]
      go_wp2_with fail
      go_roundw
      case rel => exact ⟨i + 1, by go_num, by omega, P6.out, (Q6.out.trans (T6.out.to_below (by have := Q6.out.size; have := hob'.out; omega) (Nat.le_refl _)))⟩
      case measure => simp [intOf]; omega
    · obtain rfl : i = rs.length := by omega
      have S3 := hid (fun (w' : World) h1 h2 => N3.out.sl (w' := w') (fun r hr => by have := F0.out.few r hr; omega) h1 h2)
      have hsl := hid (N3.out.sl (w' := wr) (fun r hr => by have := F0.out.few r hr; omega) (Nat.le_refl _) (fun _ _ _ => rfl))
      have z4 := balloc wr (.map #[] 0)
      have z5 := balloc (wr.alloc (.map #[] 0)) (.cells #[.slice (some ⟨ob, 0, none⟩) rs.length rs.length, .map (some wr.heap.size)] 60)
      have Z5 := hid (bthen z4 z5)
      have K5 := hid ((KMap.made wr Tryz.prog 108).ext z5)
      have B5 := hid (Blk.newAt (w := wr.alloc (.map #[] 0)) (k := wr.heap.size + 1) (by simp) #[.slice (some ⟨ob, 0, none⟩) rs.length rs.length, .map (some wr.heap.size)] 60)
      have hw := QW.out.size
      clear N3 Q3 z4 z5 hPR
      go_wp2_with fail
      refine bodyPost_ret (v := .tuple #[.pointer (some ⟨wr.heap.size + 1, 0, none⟩), .int .i64 0]) (by simp [results, Tryz.results6, go_sem]) rfl ?_
      refine ⟨⟨wr.heap.size + 1, wr.heap.size, rfl, ⟨by omega, ⟨by omega, hw⟩, F0.out, ⟨_, B5.out, fun w' ht => S3.out w' (Nat.le_trans Z5.out.size ht.size) (fun k hk1 hk2 => (ht.block k (by have := hob'.out; omega) (Nat.lt_of_lt_of_le hk2 Z5.out.size) (by omega)).trans (Z5.out.block k hk2))⟩, fun _ => none, K5.out, fun a b c v _ hv => by cases hv⟩⟩, ?_⟩
      exact QW.out.trans (Z5.out.mono hw)

end Go.Proofs.YteddkgpnklfppaaGreatDoor

namespace Go.Proofs.YteddkgpnklfppaaGreatDoor.Lx

/-! ### without places -/
abbrev T3 := Nat × Bytes × Nat
def strip (t : Tok) : T3 := (t.kind, t.text, t.n)
def lexL : Nat → Bytes → Except Nat (List T3)
  | 0, _ => .ok []
  | f + 1, l =>
    if l.length ≤ skipN false l then .ok []
    else match tok (l.drop (skipN false l)) with
      | .error e => .error e
      | .ok (k, t, n) => (lexL f (l.drop (skipN false l + t.length))).map ((k, t, n) :: ·)

theorem lexL_toks (L : Bytes) : ∀ (f i : Nat), lexL f (L.drop i) = match toks L f i with | .error (e, _, _) => .error e | .ok ts => .ok (ts.map strip) := by
  intro f
  induction f with
  | zero => intro i; rfl
  | succ f ih =>
    intro i
    simp only [lexL, toks]
    have e1 : ((L.drop i).length ≤ skipN false (L.drop i)) ↔ (L.length ≤ i + skipN false (L.drop i)) := by rw [List.length_drop]; omega
    by_cases h : L.length ≤ i + skipN false (L.drop i)
    · rw [if_pos h, if_pos (e1.2 h)]; rfl
    · rw [if_neg h, if_neg (fun x => h (e1.1 x)), List.drop_drop]
      cases ht : tok (L.drop (i + skipN false (L.drop i))) with
      | error e => rfl
      | ok x =>
        obtain ⟨k, t, n⟩ := x
        simp only
        rw [List.drop_drop, ← Nat.add_assoc, ih]
        cases hr : toks L f (i + skipN false (L.drop i) + t.length) with
        | error x => rfl
        | ok us => rfl

/-- a token that is read as it is, whatever stands behind that is no byte of a name -/
def Plain (t : T3) : Prop := 0 < t.2.1.length ∧ ∀ rest, hdIs inner rest = false → tok (t.2.1 ++ rest) = .ok t ∧ skipN false (t.2.1 ++ rest) = 0

theorem takeWhile_app {p : UInt8 → Bool} {l rest : Bytes} (h : l.all p = true) (hr : hdIs p rest = false) : (l ++ rest).takeWhile p = l := by
  induction l with
  | nil =>
    cases rest with
    | nil => rfl
    | cons c r => simp only [hdIs] at hr; simp [hr]
  | cons c l ih =>
    simp only [List.all_cons, Bool.and_eq_true] at h
    rw [List.cons_append, List.takeWhile_cons_of_pos h.1, ih h.2]
theorem all_takeWhile (p : UInt8 → Bool) (l : Bytes) : (l.takeWhile p).all p = true := by
  induction l with
  | nil => rfl
  | cons c l ih =>
    by_cases h : p c = true
    · rw [List.takeWhile_cons_of_pos h]; simp [h, ih]
    · rw [List.takeWhile_cons_of_neg h]; rfl
theorem not_skip_letter {c : UInt8} (h : letter c = true) : (c == 35) = false ∧ blank c = false := by
  unfold letter at h
  simp only [Bool.and_eq_true, decide_eq_true_eq] at h
  have h1 : 97 ≤ c.toNat := h.1
  constructor
  · rw [beq_eq_false_iff_ne]; intro e; subst e; exact absurd h1 (by decide)
  · unfold blank; rw [Bool.or_eq_false_iff, beq_eq_false_iff_ne, beq_eq_false_iff_ne]
    exact ⟨fun e => by subst e; exact absurd h1 (by decide), fun e => by subst e; exact absurd h1 (by decide)⟩
theorem not_skip_digit {c : UInt8} (h : digit c = true) : (c == 35) = false ∧ blank c = false := by
  unfold digit at h
  simp only [Bool.and_eq_true, decide_eq_true_eq] at h
  have h1 : 48 ≤ c.toNat := h.1
  constructor
  · rw [beq_eq_false_iff_ne]; intro e; subst e; exact absurd h1 (by decide)
  · unfold blank; rw [Bool.or_eq_false_iff, beq_eq_false_iff_ne, beq_eq_false_iff_ne]
    exact ⟨fun e => by subst e; exact absurd h1 (by decide), fun e => by subst e; exact absurd h1 (by decide)⟩
theorem skipN_head {c : UInt8} {l : Bytes} (h : (c == 35) = false ∧ blank c = false) : skipN false (c :: l) = 0 := by simp [skipN, h.1, h.2]
theorem hd_digit {l : Bytes} (h : hdIs inner l = false) : hdIs digit l = false := by
  cases l with
  | nil => rfl
  | cons c l =>
    simp only [hdIs, inner, Bool.or_eq_false_iff] at h ⊢
    exact h.1.2
theorem tok_cons (c : UInt8) (l : Bytes) : tok (c :: l) = 
    if letter c then
      if 16 < ((c :: l).takeWhile inner).length then .error 2 else .ok (if isWord ((c :: l).takeWhile inner) then 2 else 1, (c :: l).takeWhile inner, 0)
    else if digit c then
      match number ((c :: l).takeWhile digit) with
      | none => .error 10
      | some n => .ok (3, (c :: l).takeWhile digit, n)
    else if c = 61 ∨ c = 43 ∨ c = 59 then .ok (4, [c], 0)
    else if c = 46 ∧ l.head? = some 46 then .ok (4, [46, 46], 0)
    else .error 30 := rfl

theorem plain_of_tok {l : Bytes} {k n : Nat} {t : Bytes} (h : tok l = .ok (k, t, n)) : Plain (k, t, n) := by
  refine ⟨tok_pos h, ?_⟩
  intro rest hr
  simp only
  cases l with
  | nil => simp [tok] at h
  | cons c l =>
    rw [tok_cons] at h
    by_cases hl : letter c = true
    · rw [if_pos hl] at h
      split at h
      · cases h
      · rename_i h16
        have h2 := Except.ok.inj h
        simp only [Prod.mk.injEq] at h2
        obtain ⟨h3, h4, h5⟩ := h2
        have hall : t.all inner = true := by rw [← h4]; exact all_takeWhile _ _
        have ht : t = c :: (l.takeWhile inner) := by rw [← h4, List.takeWhile_cons_of_pos (by simp [inner, hl])]
        have htw := takeWhile_app hall hr
        have e : t ++ rest = c :: (l.takeWhile inner ++ rest) := by rw [ht]; rfl
        constructor
        · rw [e, tok_cons, if_pos hl, ← e, htw, ← h4, if_neg h16, h3, h5]
        · rw [e]; exact skipN_head (not_skip_letter hl)
    · rw [if_neg hl] at h
      by_cases hg : digit c = true
      · rw [if_pos hg] at h
        split at h
        · cases h
        · rename_i m hm
          have h2 := Except.ok.inj h
          simp only [Prod.mk.injEq] at h2
          obtain ⟨h3, h4, h5⟩ := h2
          have hall : t.all digit = true := by rw [← h4]; exact all_takeWhile _ _
          have ht : t = c :: (l.takeWhile digit) := by rw [← h4, List.takeWhile_cons_of_pos hg]
          have htw := takeWhile_app hall (hd_digit hr)
          have e : t ++ rest = c :: (l.takeWhile digit ++ rest) := by rw [ht]; rfl
          constructor
          · rw [e, tok_cons, if_neg hl, if_pos hg, ← e, htw, ← h4, hm, h3, h5]
          · rw [e]; exact skipN_head (not_skip_digit hg)
      · rw [if_neg hg] at h
        by_cases hm : c = 61 ∨ c = 43 ∨ c = 59
        · rw [if_pos hm] at h
          have h2 := Except.ok.inj h
          simp only [Prod.mk.injEq] at h2
          obtain ⟨h3, h4, h5⟩ := h2
          have e : t ++ rest = c :: rest := by rw [← h4]; rfl
          constructor
          · rw [e, tok_cons, if_neg hl, if_neg hg, if_pos hm, h3, h4, h5]
          · rw [e]; rcases hm with rfl | rfl | rfl <;> rfl
        · rw [if_neg hm] at h
          split at h
          · rename_i hd
            have h2 := Except.ok.inj h
            simp only [Prod.mk.injEq] at h2
            obtain ⟨h3, h4, h5⟩ := h2
            have e : t ++ rest = 46 :: 46 :: rest := by rw [← h4]; rfl
            constructor
            · rw [e, tok_cons, if_neg (by decide), if_neg (by decide), if_neg (by decide), if_pos ⟨rfl, rfl⟩, h3, h4, h5]
            · rw [e]; rfl
          · cases h

theorem plain_toks (L : Bytes) : ∀ (f i : Nat) (ts : List Tok), toks L f i = .ok ts → ∀ t ∈ ts, Plain (strip t) := by
  intro f
  induction f with
  | zero =>
    intro i ts h
    simp only [toks, Except.ok.injEq] at h
    subst h
    simp
  | succ f ih =>
    intro i ts h
    simp only [toks] at h
    split at h
    · simp only [Except.ok.injEq] at h
      subst h
      simp
    · cases ht : tok (L.drop (i + skipN false (L.drop i))) with
      | error e => rw [ht] at h; cases h
      | ok x =>
        obtain ⟨k, t, n⟩ := x
        rw [ht] at h
        simp only at h
        cases hr : toks L f (i + skipN false (L.drop i) + t.length) with
        | error e => rw [hr] at h; cases h
        | ok us =>
          rw [hr] at h
          simp only [Except.map, Except.ok.injEq] at h
          subst h
          intro u hu
          rcases List.mem_cons.1 hu with rfl | hu
          · exact plain_of_tok ht
          · exact ih _ us hr u hu

/-- what may stand between -/
structure Sep (sep : Bytes) : Prop where
  skip : ∀ x, skipN false (sep ++ x) = sep.length + skipN false x
  head : ∀ x, hdIs inner (sep ++ x) = false
/-- what may stand behind all -/
structure Tail (z : Bytes) : Prop where
  skip : skipN false z = z.length
  head : hdIs inner z = false

theorem lexL_one {f : Nat} {t : T3} {rest : Bytes} (h : Plain t) (hr : hdIs inner rest = false) : lexL (f + 1) (t.2.1 ++ rest) = (lexL f rest).map (t :: ·) := by
  obtain ⟨h1, h2⟩ := h
  obtain ⟨h3, h4⟩ := h2 rest hr
  obtain ⟨k, t, n⟩ := t
  simp only at *
  simp only [lexL]
  rw [h4, if_neg (by rw [List.length_append]; omega), List.drop_zero, h3]
  simp only [Nat.zero_add, List.drop_left]
theorem lexL_sep {f : Nat} {sep x : Bytes} (h : Sep sep) : lexL f (sep ++ x) = lexL f x := by
  cases f with
  | zero => rfl
  | succ f =>
    simp only [lexL]
    rw [h.skip, List.length_append]
    by_cases hx : x.length ≤ skipN false x
    · rw [if_pos (by omega), if_pos hx]
    · rw [if_neg (by omega), if_neg hx]
      have e : ∀ m, (sep ++ x).drop (sep.length + m) = x.drop m := fun m => by rw [← List.drop_drop, List.drop_left]
      rw [e]
      cases tok (x.drop (skipN false x)) with
      | error e => rfl
      | ok y =>
        obtain ⟨k, t, n⟩ := y
        simp only
        rw [Nat.add_assoc, e]
theorem lexL_tail {f : Nat} {z : Bytes} (h : Tail z) : lexL f z = .ok [] := by
  cases f with
  | zero => rfl
  | succ f => simp only [lexL]; rw [if_pos (by rw [h.skip]; omega)]
theorem head_rest {sep z : Bytes} (hs : Sep sep) (hz : Tail z) (us : List T3) : hdIs inner ((us.flatMap fun u => sep ++ u.2.1) ++ z) = false := by
  cases us with
  | nil => simpa using hz.head
  | cons u us => simp only [List.flatMap_cons, List.append_assoc]; exact hs.head _
theorem relex_rest {sep z : Bytes} (hs : Sep sep) (hz : Tail z) : ∀ (us : List T3) (f : Nat), us.length ≤ f → (∀ u ∈ us, Plain u) → lexL f ((us.flatMap fun u => sep ++ u.2.1) ++ z) = .ok us := by
  intro us
  induction us with
  | nil => intro f _ _; simpa using lexL_tail hz
  | cons u us ih =>
    intro f hf hp
    simp only [List.length_cons] at hf
    obtain ⟨f, rfl⟩ : ∃ g, f = g + 1 := ⟨f - 1, by omega⟩
    simp only [List.flatMap_cons, List.append_assoc]
    rw [lexL_sep hs, lexL_one (hp u List.mem_cons_self) (head_rest hs hz us), ih f (by omega) (fun v hv => hp v (List.mem_cons_of_mem _ hv))]
    rfl
theorem relex {sep z : Bytes} (hs : Sep sep) (hz : Tail z) {u : T3} {us : List T3} {f : Nat} (hf : us.length < f) (hp : ∀ v ∈ u :: us, Plain v) :
    lexL f (u.2.1 ++ ((us.flatMap fun v => sep ++ v.2.1) ++ z)) = .ok (u :: us) := by
  obtain ⟨f, rfl⟩ : ∃ g, f = g + 1 := ⟨f - 1, by omega⟩
  rw [lexL_one (hp u List.mem_cons_self) (head_rest hs hz us), relex_rest hs hz us f (by omega) (fun v hv => hp v (List.mem_cons_of_mem _ hv))]
  rfl

end Go.Proofs.YteddkgpnklfppaaGreatDoor.Lx
