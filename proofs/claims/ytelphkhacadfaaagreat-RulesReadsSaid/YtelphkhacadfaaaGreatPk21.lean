/-
  Region 13 of the document's own Check, where a rule comes of it.
-/
import Derived.Test.YtelphkhacadfaaaGreatPk19

namespace Go.Proofs.YtelphkhacadfaaaGreat
open Go.RowKit Go.Sort

set_option maxRecDepth 100000 in
set_option maxHeartbeats 16000000 in
theorem check_13o {w w3 : World} {l : List Po.Decl} {d : Po.Decl} {ps : List RP} {i g off n0 vc db xc rc : Nat} {xp rp : Option Addr} {bx : Int} {r : Ru.Rule} {K : Act → World → Prop} {Q' : Exit → Act → World → Prop} {s1 s2 s3 s6 s9 s10 s11 s12 s13 s14 s15 s16 s17 s18 s19 s20 s21 s22 s23 s24 s25 s26 s27 s28 s29 s30 s31 s32 s33 s34 s35 s36 s37 s38 s39 s40 s41 s42 s43 s44 s45 s46 s47 s48 s49 s50 s51 s52 s53 s54 s55 s56 s57 s58 s59 s60 s61 s62 s63 s64 s65 s66 s67 s68 s69 s70 s71 s72 s73 s74 s75 s76 s77 s78 s79 s80 s81 s82 s83 s84 s85 s86 s87 s88 s89 s90 s91 s92 s93 s94 s95 s96 s97 s98 s99 s100 s101 s102 s103 s104 s105 s106 s107 s108 s109 s110 s111 s112 s113 s114 : Value}
    (hdb' : w.heap.size < db) (_hdb3 : db < w3.heap.size) (t1 : (0 : Int) ≤ i) (t2 : (i : Int) ≤ vc) (hb0 : 0 ≤ bx) (hb32 : bx ≤ 32) (dpre : Hid (DSl w (.slice (some ⟨g, off, none⟩) i vc) (l.take i))) (hti : Hid ((l.take i).length ≤ 140737488355328)) (hst : Hid (∀ d ∈ l.take i, DSmall d)) (Q3 : Hid (Below w.heap.size w w3)) (X3 : Hid (Blk w3 db (declCells d (.slice xp d.boxes.length xc)) 39)) (hrr' : Hid (Ru.rrule (l.take i) d ps.length bx = .ok r))
    (hfin : Hid (∀ a' wx, (∃ u9 u10 u42 u43 u44 u45 u46 u47 u48 u49 u50 u51 u52 : Value, (∃ b9 b10 xv, u9 = .pointer (some ⟨b9, 0, none⟩) ∧ u10 = .pointer (some ⟨b10, 0, none⟩) ∧ w3.heap.size ≤ b9 ∧ w3.heap.size ≤ b10 ∧ Blk wx b9 (ruleArr r xv) 52 ∧ Blk wx b10 #[.int .i64 0, .int .i64 0, .int .i64 0] 27 ∧ BRow wx xv r.boxes ∧ BoxOwn xv r.boxes w.heap.size w3.heap.size ∧ Below w3.heap.size w3 wx) ∧ a' = ⟨((.slice (some ⟨g, off, none⟩) n0 vc :: s1 :: s2 :: s3 :: .slice rp ps.length rc :: .int .i64 bx :: s6 :: .int .i64 i :: .pointer (some ⟨db, 0, none⟩) :: u9 :: u10 :: s11 :: s12 :: s13 :: s14 :: s15 :: s16 :: s17 :: s18 :: s19 :: s20 :: s21 :: s22 :: s23 :: s24 :: s25 :: s26 :: s27 :: s28 :: s29 :: s30 :: s31 :: s32 :: s33 :: s34 :: s35 :: s36 :: s37 :: s38 :: s39 :: s40 :: s41 :: u42 :: u43 :: u44 :: u45 :: u46 :: u47 :: u48 :: u49 :: u50 :: u51 :: u52 :: s53 :: s54 :: s55 :: s56 :: s57 :: s58 :: s59 :: s60 :: s61 :: s62 :: s63 :: s64 :: s65 :: s66 :: s67 :: s68 :: s69 :: s70 :: s71 :: s72 :: s73 :: s74 :: s75 :: s76 :: s77 :: s78 :: s79 :: s80 :: s81 :: s82 :: s83 :: s84 :: s85 :: s86 :: s87 :: s88 :: s89 :: s90 :: s91 :: s92 :: s93 :: s94 :: s95 :: s96 :: s97 :: s98 :: s99 :: s100 :: s101 :: s102 :: s103 :: s104 :: s105 :: s106 :: s107 :: s108 :: s109 :: s110 :: s111 :: s112 :: s113 :: s114 :: []) : List Value).toArray, []⟩) → K a' wx)) :
    Code.wp Tryz.prog check13 (Exit.then K Q') ⟨((.slice (some ⟨g, off, none⟩) n0 vc :: s1 :: s2 :: s3 :: .slice rp ps.length rc :: .int .i64 bx :: s6 :: .int .i64 i :: .pointer (some ⟨db, 0, none⟩) :: s9 :: s10 :: s11 :: s12 :: s13 :: s14 :: s15 :: s16 :: s17 :: s18 :: s19 :: s20 :: s21 :: s22 :: s23 :: s24 :: s25 :: s26 :: s27 :: s28 :: s29 :: s30 :: s31 :: s32 :: s33 :: s34 :: s35 :: s36 :: s37 :: s38 :: s39 :: s40 :: s41 :: s42 :: s43 :: s44 :: s45 :: s46 :: s47 :: s48 :: s49 :: s50 :: s51 :: s52 :: s53 :: s54 :: s55 :: s56 :: s57 :: s58 :: s59 :: s60 :: s61 :: s62 :: s63 :: s64 :: s65 :: s66 :: s67 :: s68 :: s69 :: s70 :: s71 :: s72 :: s73 :: s74 :: s75 :: s76 :: s77 :: s78 :: s79 :: s80 :: s81 :: s82 :: s83 :: s84 :: s85 :: s86 :: s87 :: s88 :: s89 :: s90 :: s91 :: s92 :: s93 :: s94 :: s95 :: s96 :: s97 :: s98 :: s99 :: s100 :: s101 :: s102 :: s103 :: s104 :: s105 :: s106 :: s107 :: s108 :: s109 :: s110 :: s111 :: s112 :: s113 :: s114 :: []) : List Value).toArray, []⟩ w3 := by
  have X := hid (Blk.drew X3.out)
  have bel := hid (show Below w3.heap.size w3 w3.drew from (Below.refl _ w3).drew)
  have hdbX := X.out.lt
  clear X3
  conv => arg 2; whnf
  refine wp_region_noPanic ?_
  refine wp_region_held_drew (S := (fun w' => w'.rangeAt db 0 (declCells d (.slice xp d.boxes.length xc)).toList)) (by kernel_rfl) (X.out.rng) (fun hHeld => ?_)
  generalize w3.drew = W0 at *
  refine wpAnyH_take (i := 0) (oi := _) (v := .slice (some ⟨g, off, none⟩) n0 vc) rfl (by kernel_rfl) (by kernel_rfl) (by kernel_rfl) (fun _ _ _ h => h) (Or.inl ⟨by rfl, fun w hSw => by go_simp⟩) (by assumption) ?_
  try simp only [Array.reduceGetElem, Act.put, List.setIfInBounds_toArray, List.set_cons_zero, List.set_cons_succ]
  refine wpAnyH_take (i := 1) (oi := _) (v := .int .i64 i) rfl (by kernel_rfl) (by kernel_rfl) (by kernel_rfl) (fun _ _ _ h => h) (Or.inl ⟨by rfl, fun w hSw => by go_simp⟩) (by assumption) ?_
  try simp only [Array.reduceGetElem, Act.put, List.setIfInBounds_toArray, List.set_cons_zero, List.set_cons_succ]
  refine wpAnyH_take (i := 2) (oi := _) (v := .slice (some ⟨g, off, none⟩) i vc) rfl (by kernel_rfl) (by kernel_rfl) (by kernel_rfl) (fun _ _ _ h => h) (Or.inl ⟨by rfl, fun w hSw => by go_simp⟩) (by assumption) ?_
  try simp only [Array.reduceGetElem, Act.put, List.setIfInBounds_toArray, List.set_cons_zero, List.set_cons_succ]
  refine wpAnyH_take (i := 3) (oi := _) (v := .agg (declCells d (.slice xp d.boxes.length xc))) rfl (by kernel_rfl) (by kernel_rfl) (by kernel_rfl) (fun _ _ _ h => h) (yieldsIf_load_mid (by rfl) 39 (.tmp 8) rfl db 0 rfl (declCells d (.slice xp d.boxes.length xc)).toList _ (fun _ h => h) Tryz.underlying39 rfl (by kernel_rfl)) (by assumption) ?_
  try simp only [Array.reduceGetElem, Act.put, List.setIfInBounds_toArray, List.set_cons_zero, List.set_cons_succ]
  refine wpAnyH_take (i := 4) (oi := _) (v := .slice rp ps.length rc) rfl (by kernel_rfl) (by kernel_rfl) (by kernel_rfl) (fun _ _ _ h => h) (Or.inl ⟨by rfl, fun w hSw => by go_simp⟩) (by assumption) ?_
  try simp only [Array.reduceGetElem, Act.put, List.setIfInBounds_toArray, List.set_cons_zero, List.set_cons_succ]
  refine wpAnyH_take (i := 5) (oi := _) (v := .int .i64 ps.length) rfl (by kernel_rfl) (by kernel_rfl) (by kernel_rfl) (fun _ _ _ h => h) (Or.inl ⟨by rfl, fun w hSw => by go_simp⟩) (by assumption) ?_
  try simp only [Array.reduceGetElem, Act.put, List.setIfInBounds_toArray, List.set_cons_zero, List.set_cons_succ]
  refine wpAnyH_take (i := 6) (oi := _) (v := .int .i64 bx) rfl (by kernel_rfl) (by kernel_rfl) (by kernel_rfl) (fun _ _ _ h => h) (Or.inl ⟨by rfl, fun w hSw => by go_simp⟩) (by assumption) ?_
  try simp only [Array.reduceGetElem, Act.put, List.setIfInBounds_toArray, List.set_cons_zero, List.set_cons_succ]
  refine wpAnyH_ready (rs := [7, 11, 12]) (by kernel_rfl) (by simp) ?_
  refine AllReadyH.cons (o := _) rfl (fun K hK => ?_) ?_
  · dsimp only [Array.reduceGetElem] at hK ⊢
    go_simp
    refine (rlrule_any (w0 := w) (w := W0) d (.slice xp d.boxes.length xc) ps.length bx dpre.out (bthen Q3.out bel.out) hti.out hst.out ⟨hb0, by omega⟩).mono ?_
    rintro en V1 ⟨hp, hb⟩
    unfold RulePost at hp
    rw [hrr'.out] at hp
    obtain ⟨xv, rfl, hbx', hxo⟩ := hp
    obtain ⟨vp5, vc5, rfl⟩ := hbx'.shape
    have hbx := hid hbx'
    clear hbx'
    have hxo2 := hid (show BoxOwn (.slice vp5 r.boxes.length vc5) r.boxes w.heap.size w3.heap.size from hxo.imp id fun h k e => (h k e).imp id fun h2 => Nat.le_trans bel.out.size h2)
    clear hxo
    have X' := hid (X.out.ext hb)
    have bel' := hid (bthen bel.out hb)
    clear X
    have X := X'
    clear X'
    clear bel hb
    have bel := bel'
    clear bel'
    go_wp2_with fail
    refine hK.out _ _ ?_ (fun hHeld => ?_)
    · exact X.out.rng
    clear hK K
    try simp only [Array.reduceGetElem, Act.put, List.setIfInBounds_toArray, List.set_cons_zero, List.set_cons_succ]
    refine wpAnyH_take (i := 8) (oi := _) (v := .tuple #[.agg (ruleArr r (.slice vp5 r.boxes.length vc5)), .agg #[.int .i64 0, .int .i64 0, .int .i64 0]]) rfl (by kernel_rfl) (by kernel_rfl) (by kernel_rfl) (fun _ _ _ h => h) (Or.inl ⟨by rfl, fun w hSw => by go_simp⟩) (by assumption) ?_
    try simp only [Array.reduceGetElem, Act.put, List.setIfInBounds_toArray, List.set_cons_zero, List.set_cons_succ]
    refine wpAnyH_take (i := 9) (oi := _) (v := .agg (ruleArr r (.slice vp5 r.boxes.length vc5))) rfl (by kernel_rfl) (by kernel_rfl) (by kernel_rfl) (fun _ _ _ h => h) (Or.inl ⟨by rfl, fun w hSw => by go_simp⟩) (by assumption) ?_
    try simp only [Array.reduceGetElem, Act.put, List.setIfInBounds_toArray, List.set_cons_zero, List.set_cons_succ]
    refine wpAnyH_take (i := 10) (oi := _) (v := .agg #[.int .i64 0, .int .i64 0, .int .i64 0]) rfl (by kernel_rfl) (by kernel_rfl) (by kernel_rfl) (fun _ _ _ h => h) (Or.inl ⟨by rfl, fun w hSw => by go_simp⟩) (by assumption) ?_
    try simp only [Array.reduceGetElem, Act.put, List.setIfInBounds_toArray, List.set_cons_zero, List.set_cons_succ]
    refine wpAnyH_ready (rs := [11, 12]) (by kernel_rfl) (by simp) ?_
    refine AllReadyH.cons (o := _) rfl (fun K hK => ?_) ?_
    · dsimp only [Array.reduceGetElem] at hK ⊢
      go_simp
      have zz := balloc V1 (.cells #[.int .i64 0, .int .i64 0, .int .i64 0, .int .i64 0, .int .i64 0, .slice none 0 0, .int .i64 0] 52)
      have X' := hid (X.out.ext zz)
      have bel' := hid (bthen bel.out zz)
      have hbx' := hid (hbx.out.ext zz)
      have nbA := hid (show r.boxes = [] ∨ (Value.slice vp5 r.boxes.length vc5).ownBlock ≠ some V1.heap.size from by
        rcases hbx.out with ⟨_, _, _, h0⟩ | hr
        · exact .inl h0
        · exact .inr (fun e => by have := hr.own_lt e; omega))
      clear hbx
      have hbx := hbx'
      clear hbx'
      have A := hid (Blk.new V1 #[.int .i64 0, .int .i64 0, .int .i64 0, .int .i64 0, .int .i64 0, .slice none 0 0, .int .i64 0] 52)
      have ltA_X := X.out.lt
      have geA := bel.out.size
      clear zz
      clear X
      have X := X'
      clear X'
      clear bel
      have bel := bel'
      clear bel'
      generalize V1.alloc (.cells #[.int .i64 0, .int .i64 0, .int .i64 0, .int .i64 0, .int .i64 0, .slice none 0 0, .int .i64 0] 52) = W2 at *
      generalize V1.heap.size = pa at *
      refine hK.out _ _ ?_ (fun hHeld => ?_)
      · exact X.out.rng
      clear hK K
      try simp only [Array.reduceGetElem, Act.put, List.setIfInBounds_toArray, List.set_cons_zero, List.set_cons_succ]
      refine wpAnyH_ready (rs := [12]) (by kernel_rfl) (by simp) ?_
      refine AllReadyH.cons (o := _) rfl (fun K hK => ?_) ?_
      · dsimp only [Array.reduceGetElem] at hK ⊢
        go_simp
        have zz := balloc W2 (.cells #[.int .i64 0, .int .i64 0, .int .i64 0] 27)
        have X' := hid (X.out.ext zz)
        have A' := hid (A.out.ext zz)
        have bel' := hid (bthen bel.out zz)
        have hbx' := hid (hbx.out.ext zz)
        have nbF := hid (show r.boxes = [] ∨ (Value.slice vp5 r.boxes.length vc5).ownBlock ≠ some W2.heap.size from by
          rcases hbx.out with ⟨_, _, _, h0⟩ | hr
          · exact .inl h0
          · exact .inr (fun e => by have := hr.own_lt e; omega))
        clear hbx
        have hbx := hbx'
        clear hbx'
        have F := hid (Blk.new W2 #[.int .i64 0, .int .i64 0, .int .i64 0] 27)
        have ltF_X := X.out.lt
        have ltF_A := A.out.lt
        have geF := bel.out.size
        clear zz
        clear X
        have X := X'
        clear X'
        clear A
        have A := A'
        clear A'
        clear bel
        have bel := bel'
        clear bel'
        generalize W2.alloc (.cells #[.int .i64 0, .int .i64 0, .int .i64 0] 27) = W3 at *
        generalize W2.heap.size = pf at *
        refine hK.out _ _ ?_ (fun hHeld => ?_)
        · exact X.out.rng
        clear hK K
        try simp only [Array.reduceGetElem, Act.put, List.setIfInBounds_toArray, List.set_cons_zero, List.set_cons_succ]
        refine wpAnyH_ready (rs := [13]) (by kernel_rfl) (by simp) ?_
        refine AllReadyH.cons (o := _) rfl (fun K hK => ?_) ?_
        · dsimp only [Array.reduceGetElem] at hK ⊢
          rw [if_pos (by rfl)]
          refine wp_store_row 52 (.tmp 9) (.tmp 51) rfl pa ((ruleArr r (.slice vp5 r.boxes.length vc5))) rfl rfl 52 _ A.out (by kernel_rfl) rfl (ruleArr_one r rfl) ?_
          have X' := hid (X.out.setRowOther (k := pa) (cs' := (ruleArr r (.slice vp5 r.boxes.length vc5))) (by omega))
          have A' := hid (A.out.setRow ((ruleArr r (.slice vp5 r.boxes.length vc5))))
          have F' := hid (F.out.setRowOther (k := pa) (cs' := (ruleArr r (.slice vp5 r.boxes.length vc5))) (by omega))
          have bel' := hid (below_setRow bel.out geA ((ruleArr r (.slice vp5 r.boxes.length vc5))))
          have hbx' := hid (hbx.out.setRowOther nbA.out ((ruleArr r (.slice vp5 r.boxes.length vc5))))
          clear hbx
          have hbx := hbx'
          clear hbx'
          clear X
          have X := X'
          clear X'
          clear A
          have A := A'
          clear A'
          clear F
          have F := F'
          clear F'
          clear bel
          have bel := bel'
          clear bel'
          generalize W3.setRow pa ((ruleArr r (.slice vp5 r.boxes.length vc5))) = W4 at *
          refine hK.out _ _ ?_ (fun hHeld => ?_)
          · exact X.out.rng
          clear hK K
          try simp only [Act.put]
          refine wpAnyH_ready (rs := [14]) (by kernel_rfl) (by simp) ?_
          refine AllReadyH.cons (o := _) rfl (fun K hK => ?_) ?_
          · dsimp only [Array.reduceGetElem] at hK ⊢
            rw [if_pos (by rfl)]
            refine wp_store_row 27 (.tmp 10) (.tmp 52) rfl pf (#[.int .i64 0, .int .i64 0, .int .i64 0]) rfl rfl 27 _ F.out (by kernel_rfl) rfl (by simp [Value.oneCell']) ?_
            have X' := hid (X.out.setRowOther (k := pf) (cs' := #[.int .i64 0, .int .i64 0, .int .i64 0]) (by omega))
            have A' := hid (A.out.setRowOther (k := pf) (cs' := #[.int .i64 0, .int .i64 0, .int .i64 0]) (by omega))
            have F' := hid (F.out.setRow (#[.int .i64 0, .int .i64 0, .int .i64 0]))
            have bel' := hid (below_setRow bel.out geF (#[.int .i64 0, .int .i64 0, .int .i64 0]))
            have hbx' := hid (hbx.out.setRowOther nbF.out (#[.int .i64 0, .int .i64 0, .int .i64 0]))
            clear hbx
            have hbx := hbx'
            clear hbx'
            clear X
            have X := X'
            clear X'
            clear A
            have A := A'
            clear A'
            clear F
            have F := F'
            clear F'
            clear bel
            have bel := bel'
            clear bel'
            generalize W4.setRow pf (#[.int .i64 0, .int .i64 0, .int .i64 0]) = W5 at *
            refine hK.out _ _ ?_ (fun hHeld => ?_)
            · exact X.out.rng
            clear hK K
            try simp only [Act.put]
            refine wpAnyH_done (by kernel_rfl) ?_ _
            refine NoPanic.normal ?_
            refine hfin.out _ _ ?_
            (repeat apply Exists.intro)
            refine ⟨?rel, rfl⟩
            case rel => exact ⟨pa, pf, _, rfl, rfl, geA, geF, A.out, F.out, hbx.out, hxo2.out, bel.out⟩
          exact AllReadyH.nil
        exact AllReadyH.nil
      exact AllReadyH.nil
    refine AllReadyH.cons (o := _) rfl (fun K hK => ?_) ?_
    · dsimp only [Array.reduceGetElem] at hK ⊢
      go_simp
      have zz := balloc V1 (.cells #[.int .i64 0, .int .i64 0, .int .i64 0] 27)
      have X' := hid (X.out.ext zz)
      have bel' := hid (bthen bel.out zz)
      have hbx' := hid (hbx.out.ext zz)
      have nbF := hid (show r.boxes = [] ∨ (Value.slice vp5 r.boxes.length vc5).ownBlock ≠ some V1.heap.size from by
        rcases hbx.out with ⟨_, _, _, h0⟩ | hr
        · exact .inl h0
        · exact .inr (fun e => by have := hr.own_lt e; omega))
      clear hbx
      have hbx := hbx'
      clear hbx'
      have F := hid (Blk.new V1 #[.int .i64 0, .int .i64 0, .int .i64 0] 27)
      have ltF_X := X.out.lt
      have geF := bel.out.size
      clear zz
      clear X
      have X := X'
      clear X'
      clear bel
      have bel := bel'
      clear bel'
      generalize V1.alloc (.cells #[.int .i64 0, .int .i64 0, .int .i64 0] 27) = W2 at *
      generalize V1.heap.size = pf at *
      refine hK.out _ _ ?_ (fun hHeld => ?_)
      · exact X.out.rng
      clear hK K
      try simp only [Array.reduceGetElem, Act.put, List.setIfInBounds_toArray, List.set_cons_zero, List.set_cons_succ]
      refine wpAnyH_ready (rs := [11]) (by kernel_rfl) (by simp) ?_
      refine AllReadyH.cons (o := _) rfl (fun K hK => ?_) ?_
      · dsimp only [Array.reduceGetElem] at hK ⊢
        go_simp
        have zz := balloc W2 (.cells #[.int .i64 0, .int .i64 0, .int .i64 0, .int .i64 0, .int .i64 0, .slice none 0 0, .int .i64 0] 52)
        have X' := hid (X.out.ext zz)
        have F' := hid (F.out.ext zz)
        have bel' := hid (bthen bel.out zz)
        have hbx' := hid (hbx.out.ext zz)
        have nbA := hid (show r.boxes = [] ∨ (Value.slice vp5 r.boxes.length vc5).ownBlock ≠ some W2.heap.size from by
          rcases hbx.out with ⟨_, _, _, h0⟩ | hr
          · exact .inl h0
          · exact .inr (fun e => by have := hr.own_lt e; omega))
        clear hbx
        have hbx := hbx'
        clear hbx'
        have A := hid (Blk.new W2 #[.int .i64 0, .int .i64 0, .int .i64 0, .int .i64 0, .int .i64 0, .slice none 0 0, .int .i64 0] 52)
        have ltA_X := X.out.lt
        have ltA_F := F.out.lt
        have geA := bel.out.size
        clear zz
        clear X
        have X := X'
        clear X'
        clear F
        have F := F'
        clear F'
        clear bel
        have bel := bel'
        clear bel'
        generalize W2.alloc (.cells #[.int .i64 0, .int .i64 0, .int .i64 0, .int .i64 0, .int .i64 0, .slice none 0 0, .int .i64 0] 52) = W3 at *
        generalize W2.heap.size = pa at *
        refine hK.out _ _ ?_ (fun hHeld => ?_)
        · exact X.out.rng
        clear hK K
        try simp only [Array.reduceGetElem, Act.put, List.setIfInBounds_toArray, List.set_cons_zero, List.set_cons_succ]
        refine wpAnyH_ready (rs := [13]) (by kernel_rfl) (by simp) ?_
        refine AllReadyH.cons (o := _) rfl (fun K hK => ?_) ?_
        · dsimp only [Array.reduceGetElem] at hK ⊢
          rw [if_pos (by rfl)]
          refine wp_store_row 52 (.tmp 9) (.tmp 51) rfl pa ((ruleArr r (.slice vp5 r.boxes.length vc5))) rfl rfl 52 _ A.out (by kernel_rfl) rfl (ruleArr_one r rfl) ?_
          have X' := hid (X.out.setRowOther (k := pa) (cs' := (ruleArr r (.slice vp5 r.boxes.length vc5))) (by omega))
          have F' := hid (F.out.setRowOther (k := pa) (cs' := (ruleArr r (.slice vp5 r.boxes.length vc5))) (by omega))
          have A' := hid (A.out.setRow ((ruleArr r (.slice vp5 r.boxes.length vc5))))
          have bel' := hid (below_setRow bel.out geA ((ruleArr r (.slice vp5 r.boxes.length vc5))))
          have hbx' := hid (hbx.out.setRowOther nbA.out ((ruleArr r (.slice vp5 r.boxes.length vc5))))
          clear hbx
          have hbx := hbx'
          clear hbx'
          clear X
          have X := X'
          clear X'
          clear F
          have F := F'
          clear F'
          clear A
          have A := A'
          clear A'
          clear bel
          have bel := bel'
          clear bel'
          generalize W3.setRow pa ((ruleArr r (.slice vp5 r.boxes.length vc5))) = W4 at *
          refine hK.out _ _ ?_ (fun hHeld => ?_)
          · exact X.out.rng
          clear hK K
          try simp only [Act.put]
          refine wpAnyH_ready (rs := [14]) (by kernel_rfl) (by simp) ?_
          refine AllReadyH.cons (o := _) rfl (fun K hK => ?_) ?_
          · dsimp only [Array.reduceGetElem] at hK ⊢
            rw [if_pos (by rfl)]
            refine wp_store_row 27 (.tmp 10) (.tmp 52) rfl pf (#[.int .i64 0, .int .i64 0, .int .i64 0]) rfl rfl 27 _ F.out (by kernel_rfl) rfl (by simp [Value.oneCell']) ?_
            have X' := hid (X.out.setRowOther (k := pf) (cs' := #[.int .i64 0, .int .i64 0, .int .i64 0]) (by omega))
            have F' := hid (F.out.setRow (#[.int .i64 0, .int .i64 0, .int .i64 0]))
            have A' := hid (A.out.setRowOther (k := pf) (cs' := #[.int .i64 0, .int .i64 0, .int .i64 0]) (by omega))
            have bel' := hid (below_setRow bel.out geF (#[.int .i64 0, .int .i64 0, .int .i64 0]))
            have hbx' := hid (hbx.out.setRowOther nbF.out (#[.int .i64 0, .int .i64 0, .int .i64 0]))
            clear hbx
            have hbx := hbx'
            clear hbx'
            clear X
            have X := X'
            clear X'
            clear F
            have F := F'
            clear F'
            clear A
            have A := A'
            clear A'
            clear bel
            have bel := bel'
            clear bel'
            generalize W4.setRow pf (#[.int .i64 0, .int .i64 0, .int .i64 0]) = W5 at *
            refine hK.out _ _ ?_ (fun hHeld => ?_)
            · exact X.out.rng
            clear hK K
            try simp only [Act.put]
            refine wpAnyH_done (by kernel_rfl) ?_ _
            refine NoPanic.normal ?_
            refine hfin.out _ _ ?_
            (repeat apply Exists.intro)
            refine ⟨?rel, rfl⟩
            case rel => exact ⟨pa, pf, _, rfl, rfl, geA, geF, A.out, F.out, hbx.out, hxo2.out, bel.out⟩
          exact AllReadyH.nil
        exact AllReadyH.nil
      exact AllReadyH.nil
    exact AllReadyH.nil
  refine AllReadyH.cons (o := _) rfl (fun K hK => ?_) ?_
  · dsimp only [Array.reduceGetElem] at hK ⊢
    go_simp
    have zz := balloc W0 (.cells #[.int .i64 0, .int .i64 0, .int .i64 0, .int .i64 0, .int .i64 0, .slice none 0 0, .int .i64 0] 52)
    have X' := hid (X.out.ext zz)
    have bel' := hid (bthen bel.out zz)
    have A := hid (Blk.new W0 #[.int .i64 0, .int .i64 0, .int .i64 0, .int .i64 0, .int .i64 0, .slice none 0 0, .int .i64 0] 52)
    have ltA_X := X.out.lt
    have geA := bel.out.size
    clear zz
    clear X
    have X := X'
    clear X'
    clear bel
    have bel := bel'
    clear bel'
    generalize W0.alloc (.cells #[.int .i64 0, .int .i64 0, .int .i64 0, .int .i64 0, .int .i64 0, .slice none 0 0, .int .i64 0] 52) = W1 at *
    generalize W0.heap.size = pa at *
    refine hK.out _ _ ?_ (fun hHeld => ?_)
    · exact X.out.rng
    clear hK K
    try simp only [Array.reduceGetElem, Act.put, List.setIfInBounds_toArray, List.set_cons_zero, List.set_cons_succ]
    refine wpAnyH_ready (rs := [7, 12]) (by kernel_rfl) (by simp) ?_
    refine AllReadyH.cons (o := _) rfl (fun K hK => ?_) ?_
    · dsimp only [Array.reduceGetElem] at hK ⊢
      go_simp
      refine (rlrule_any (w0 := w) (w := W1) d (.slice xp d.boxes.length xc) ps.length bx dpre.out (bthen Q3.out bel.out) hti.out hst.out ⟨hb0, by omega⟩).mono ?_
      rintro en V2 ⟨hp, hb⟩
      unfold RulePost at hp
      rw [hrr'.out] at hp
      obtain ⟨xv, rfl, hbx', hxo⟩ := hp
      obtain ⟨vp5, vc5, rfl⟩ := hbx'.shape
      have hbx := hid hbx'
      clear hbx'
      have nbA := hid (show r.boxes = [] ∨ (Value.slice vp5 r.boxes.length vc5).ownBlock ≠ some pa from hxo.imp id fun h e => by have := h _ e; have := A.out.lt; omega)
      have hxo2 := hid (show BoxOwn (.slice vp5 r.boxes.length vc5) r.boxes w.heap.size w3.heap.size from hxo.imp id fun h k e => (h k e).imp id fun h2 => Nat.le_trans bel.out.size h2)
      clear hxo
      have X' := hid (X.out.ext hb)
      have A' := hid (A.out.ext hb)
      have bel' := hid (bthen bel.out hb)
      clear X
      have X := X'
      clear X'
      clear A
      have A := A'
      clear A'
      clear bel hb
      have bel := bel'
      clear bel'
      go_wp2_with fail
      refine hK.out _ _ ?_ (fun hHeld => ?_)
      · exact X.out.rng
      clear hK K
      try simp only [Array.reduceGetElem, Act.put, List.setIfInBounds_toArray, List.set_cons_zero, List.set_cons_succ]
      refine wpAnyH_take (i := 8) (oi := _) (v := .tuple #[.agg (ruleArr r (.slice vp5 r.boxes.length vc5)), .agg #[.int .i64 0, .int .i64 0, .int .i64 0]]) rfl (by kernel_rfl) (by kernel_rfl) (by kernel_rfl) (fun _ _ _ h => h) (Or.inl ⟨by rfl, fun w hSw => by go_simp⟩) (by assumption) ?_
      try simp only [Array.reduceGetElem, Act.put, List.setIfInBounds_toArray, List.set_cons_zero, List.set_cons_succ]
      refine wpAnyH_take (i := 9) (oi := _) (v := .agg (ruleArr r (.slice vp5 r.boxes.length vc5))) rfl (by kernel_rfl) (by kernel_rfl) (by kernel_rfl) (fun _ _ _ h => h) (Or.inl ⟨by rfl, fun w hSw => by go_simp⟩) (by assumption) ?_
      try simp only [Array.reduceGetElem, Act.put, List.setIfInBounds_toArray, List.set_cons_zero, List.set_cons_succ]
      refine wpAnyH_take (i := 10) (oi := _) (v := .agg #[.int .i64 0, .int .i64 0, .int .i64 0]) rfl (by kernel_rfl) (by kernel_rfl) (by kernel_rfl) (fun _ _ _ h => h) (Or.inl ⟨by rfl, fun w hSw => by go_simp⟩) (by assumption) ?_
      try simp only [Array.reduceGetElem, Act.put, List.setIfInBounds_toArray, List.set_cons_zero, List.set_cons_succ]
      refine wpAnyH_ready (rs := [12]) (by kernel_rfl) (by simp) ?_
      refine AllReadyH.cons (o := _) rfl (fun K hK => ?_) ?_
      · dsimp only [Array.reduceGetElem] at hK ⊢
        go_simp
        have zz := balloc V2 (.cells #[.int .i64 0, .int .i64 0, .int .i64 0] 27)
        have X' := hid (X.out.ext zz)
        have A' := hid (A.out.ext zz)
        have bel' := hid (bthen bel.out zz)
        have hbx' := hid (hbx.out.ext zz)
        have nbF := hid (show r.boxes = [] ∨ (Value.slice vp5 r.boxes.length vc5).ownBlock ≠ some V2.heap.size from by
          rcases hbx.out with ⟨_, _, _, h0⟩ | hr
          · exact .inl h0
          · exact .inr (fun e => by have := hr.own_lt e; omega))
        clear hbx
        have hbx := hbx'
        clear hbx'
        have F := hid (Blk.new V2 #[.int .i64 0, .int .i64 0, .int .i64 0] 27)
        have ltF_X := X.out.lt
        have ltF_A := A.out.lt
        have geF := bel.out.size
        clear zz
        clear X
        have X := X'
        clear X'
        clear A
        have A := A'
        clear A'
        clear bel
        have bel := bel'
        clear bel'
        generalize V2.alloc (.cells #[.int .i64 0, .int .i64 0, .int .i64 0] 27) = W3 at *
        generalize V2.heap.size = pf at *
        refine hK.out _ _ ?_ (fun hHeld => ?_)
        · exact X.out.rng
        clear hK K
        try simp only [Array.reduceGetElem, Act.put, List.setIfInBounds_toArray, List.set_cons_zero, List.set_cons_succ]
        refine wpAnyH_ready (rs := [13]) (by kernel_rfl) (by simp) ?_
        refine AllReadyH.cons (o := _) rfl (fun K hK => ?_) ?_
        · dsimp only [Array.reduceGetElem] at hK ⊢
          rw [if_pos (by rfl)]
          refine wp_store_row 52 (.tmp 9) (.tmp 51) rfl pa ((ruleArr r (.slice vp5 r.boxes.length vc5))) rfl rfl 52 _ A.out (by kernel_rfl) rfl (ruleArr_one r rfl) ?_
          have X' := hid (X.out.setRowOther (k := pa) (cs' := (ruleArr r (.slice vp5 r.boxes.length vc5))) (by omega))
          have A' := hid (A.out.setRow ((ruleArr r (.slice vp5 r.boxes.length vc5))))
          have F' := hid (F.out.setRowOther (k := pa) (cs' := (ruleArr r (.slice vp5 r.boxes.length vc5))) (by omega))
          have bel' := hid (below_setRow bel.out geA ((ruleArr r (.slice vp5 r.boxes.length vc5))))
          have hbx' := hid (hbx.out.setRowOther nbA.out ((ruleArr r (.slice vp5 r.boxes.length vc5))))
          clear hbx
          have hbx := hbx'
          clear hbx'
          clear X
          have X := X'
          clear X'
          clear A
          have A := A'
          clear A'
          clear F
          have F := F'
          clear F'
          clear bel
          have bel := bel'
          clear bel'
          generalize W3.setRow pa ((ruleArr r (.slice vp5 r.boxes.length vc5))) = W4 at *
          refine hK.out _ _ ?_ (fun hHeld => ?_)
          · exact X.out.rng
          clear hK K
          try simp only [Act.put]
          refine wpAnyH_ready (rs := [14]) (by kernel_rfl) (by simp) ?_
          refine AllReadyH.cons (o := _) rfl (fun K hK => ?_) ?_
          · dsimp only [Array.reduceGetElem] at hK ⊢
            rw [if_pos (by rfl)]
            refine wp_store_row 27 (.tmp 10) (.tmp 52) rfl pf (#[.int .i64 0, .int .i64 0, .int .i64 0]) rfl rfl 27 _ F.out (by kernel_rfl) rfl (by simp [Value.oneCell']) ?_
            have X' := hid (X.out.setRowOther (k := pf) (cs' := #[.int .i64 0, .int .i64 0, .int .i64 0]) (by omega))
            have A' := hid (A.out.setRowOther (k := pf) (cs' := #[.int .i64 0, .int .i64 0, .int .i64 0]) (by omega))
            have F' := hid (F.out.setRow (#[.int .i64 0, .int .i64 0, .int .i64 0]))
            have bel' := hid (below_setRow bel.out geF (#[.int .i64 0, .int .i64 0, .int .i64 0]))
            have hbx' := hid (hbx.out.setRowOther nbF.out (#[.int .i64 0, .int .i64 0, .int .i64 0]))
            clear hbx
            have hbx := hbx'
            clear hbx'
            clear X
            have X := X'
            clear X'
            clear A
            have A := A'
            clear A'
            clear F
            have F := F'
            clear F'
            clear bel
            have bel := bel'
            clear bel'
            generalize W4.setRow pf (#[.int .i64 0, .int .i64 0, .int .i64 0]) = W5 at *
            refine hK.out _ _ ?_ (fun hHeld => ?_)
            · exact X.out.rng
            clear hK K
            try simp only [Act.put]
            refine wpAnyH_done (by kernel_rfl) ?_ _
            refine NoPanic.normal ?_
            refine hfin.out _ _ ?_
            (repeat apply Exists.intro)
            refine ⟨?rel, rfl⟩
            case rel => exact ⟨pa, pf, _, rfl, rfl, geA, geF, A.out, F.out, hbx.out, hxo2.out, bel.out⟩
          exact AllReadyH.nil
        exact AllReadyH.nil
      exact AllReadyH.nil
    refine AllReadyH.cons (o := _) rfl (fun K hK => ?_) ?_
    · dsimp only [Array.reduceGetElem] at hK ⊢
      go_simp
      have zz := balloc W1 (.cells #[.int .i64 0, .int .i64 0, .int .i64 0] 27)
      have X' := hid (X.out.ext zz)
      have A' := hid (A.out.ext zz)
      have bel' := hid (bthen bel.out zz)
      have F := hid (Blk.new W1 #[.int .i64 0, .int .i64 0, .int .i64 0] 27)
      have ltF_X := X.out.lt
      have ltF_A := A.out.lt
      have geF := bel.out.size
      clear zz
      clear X
      have X := X'
      clear X'
      clear A
      have A := A'
      clear A'
      clear bel
      have bel := bel'
      clear bel'
      generalize W1.alloc (.cells #[.int .i64 0, .int .i64 0, .int .i64 0] 27) = W2 at *
      generalize W1.heap.size = pf at *
      refine hK.out _ _ ?_ (fun hHeld => ?_)
      · exact X.out.rng
      clear hK K
      try simp only [Array.reduceGetElem, Act.put, List.setIfInBounds_toArray, List.set_cons_zero, List.set_cons_succ]
      refine wpAnyH_ready (rs := [7]) (by kernel_rfl) (by simp) ?_
      refine AllReadyH.cons (o := _) rfl (fun K hK => ?_) ?_
      · dsimp only [Array.reduceGetElem] at hK ⊢
        go_simp
        refine (rlrule_any (w0 := w) (w := W2) d (.slice xp d.boxes.length xc) ps.length bx dpre.out (bthen Q3.out bel.out) hti.out hst.out ⟨hb0, by omega⟩).mono ?_
        rintro en V3 ⟨hp, hb⟩
        unfold RulePost at hp
        rw [hrr'.out] at hp
        obtain ⟨xv, rfl, hbx', hxo⟩ := hp
        obtain ⟨vp5, vc5, rfl⟩ := hbx'.shape
        have hbx := hid hbx'
        clear hbx'
        have nbA := hid (show r.boxes = [] ∨ (Value.slice vp5 r.boxes.length vc5).ownBlock ≠ some pa from hxo.imp id fun h e => by have := h _ e; have := A.out.lt; omega)
        have nbF := hid (show r.boxes = [] ∨ (Value.slice vp5 r.boxes.length vc5).ownBlock ≠ some pf from hxo.imp id fun h e => by have := h _ e; have := F.out.lt; omega)
        have hxo2 := hid (show BoxOwn (.slice vp5 r.boxes.length vc5) r.boxes w.heap.size w3.heap.size from hxo.imp id fun h k e => (h k e).imp id fun h2 => Nat.le_trans bel.out.size h2)
        clear hxo
        have X' := hid (X.out.ext hb)
        have A' := hid (A.out.ext hb)
        have F' := hid (F.out.ext hb)
        have bel' := hid (bthen bel.out hb)
        clear X
        have X := X'
        clear X'
        clear A
        have A := A'
        clear A'
        clear F
        have F := F'
        clear F'
        clear bel hb
        have bel := bel'
        clear bel'
        go_wp2_with fail
        refine hK.out _ _ ?_ (fun hHeld => ?_)
        · exact X.out.rng
        clear hK K
        try simp only [Array.reduceGetElem, Act.put, List.setIfInBounds_toArray, List.set_cons_zero, List.set_cons_succ]
        refine wpAnyH_take (i := 8) (oi := _) (v := .tuple #[.agg (ruleArr r (.slice vp5 r.boxes.length vc5)), .agg #[.int .i64 0, .int .i64 0, .int .i64 0]]) rfl (by kernel_rfl) (by kernel_rfl) (by kernel_rfl) (fun _ _ _ h => h) (Or.inl ⟨by rfl, fun w hSw => by go_simp⟩) (by assumption) ?_
        try simp only [Array.reduceGetElem, Act.put, List.setIfInBounds_toArray, List.set_cons_zero, List.set_cons_succ]
        refine wpAnyH_take (i := 9) (oi := _) (v := .agg (ruleArr r (.slice vp5 r.boxes.length vc5))) rfl (by kernel_rfl) (by kernel_rfl) (by kernel_rfl) (fun _ _ _ h => h) (Or.inl ⟨by rfl, fun w hSw => by go_simp⟩) (by assumption) ?_
        try simp only [Array.reduceGetElem, Act.put, List.setIfInBounds_toArray, List.set_cons_zero, List.set_cons_succ]
        refine wpAnyH_take (i := 10) (oi := _) (v := .agg #[.int .i64 0, .int .i64 0, .int .i64 0]) rfl (by kernel_rfl) (by kernel_rfl) (by kernel_rfl) (fun _ _ _ h => h) (Or.inl ⟨by rfl, fun w hSw => by go_simp⟩) (by assumption) ?_
        try simp only [Array.reduceGetElem, Act.put, List.setIfInBounds_toArray, List.set_cons_zero, List.set_cons_succ]
        refine wpAnyH_ready (rs := [13]) (by kernel_rfl) (by simp) ?_
        refine AllReadyH.cons (o := _) rfl (fun K hK => ?_) ?_
        · dsimp only [Array.reduceGetElem] at hK ⊢
          rw [if_pos (by rfl)]
          refine wp_store_row 52 (.tmp 9) (.tmp 51) rfl pa ((ruleArr r (.slice vp5 r.boxes.length vc5))) rfl rfl 52 _ A.out (by kernel_rfl) rfl (ruleArr_one r rfl) ?_
          have X' := hid (X.out.setRowOther (k := pa) (cs' := (ruleArr r (.slice vp5 r.boxes.length vc5))) (by omega))
          have A' := hid (A.out.setRow ((ruleArr r (.slice vp5 r.boxes.length vc5))))
          have F' := hid (F.out.setRowOther (k := pa) (cs' := (ruleArr r (.slice vp5 r.boxes.length vc5))) (by omega))
          have bel' := hid (below_setRow bel.out geA ((ruleArr r (.slice vp5 r.boxes.length vc5))))
          have hbx' := hid (hbx.out.setRowOther nbA.out ((ruleArr r (.slice vp5 r.boxes.length vc5))))
          clear hbx
          have hbx := hbx'
          clear hbx'
          clear X
          have X := X'
          clear X'
          clear A
          have A := A'
          clear A'
          clear F
          have F := F'
          clear F'
          clear bel
          have bel := bel'
          clear bel'
          generalize V3.setRow pa ((ruleArr r (.slice vp5 r.boxes.length vc5))) = W4 at *
          refine hK.out _ _ ?_ (fun hHeld => ?_)
          · exact X.out.rng
          clear hK K
          try simp only [Act.put]
          refine wpAnyH_ready (rs := [14]) (by kernel_rfl) (by simp) ?_
          refine AllReadyH.cons (o := _) rfl (fun K hK => ?_) ?_
          · dsimp only [Array.reduceGetElem] at hK ⊢
            rw [if_pos (by rfl)]
            refine wp_store_row 27 (.tmp 10) (.tmp 52) rfl pf (#[.int .i64 0, .int .i64 0, .int .i64 0]) rfl rfl 27 _ F.out (by kernel_rfl) rfl (by simp [Value.oneCell']) ?_
            have X' := hid (X.out.setRowOther (k := pf) (cs' := #[.int .i64 0, .int .i64 0, .int .i64 0]) (by omega))
            have A' := hid (A.out.setRowOther (k := pf) (cs' := #[.int .i64 0, .int .i64 0, .int .i64 0]) (by omega))
            have F' := hid (F.out.setRow (#[.int .i64 0, .int .i64 0, .int .i64 0]))
            have bel' := hid (below_setRow bel.out geF (#[.int .i64 0, .int .i64 0, .int .i64 0]))
            have hbx' := hid (hbx.out.setRowOther nbF.out (#[.int .i64 0, .int .i64 0, .int .i64 0]))
            clear hbx
            have hbx := hbx'
            clear hbx'
            clear X
            have X := X'
            clear X'
            clear A
            have A := A'
            clear A'
            clear F
            have F := F'
            clear F'
            clear bel
            have bel := bel'
            clear bel'
            generalize W4.setRow pf (#[.int .i64 0, .int .i64 0, .int .i64 0]) = W5 at *
            refine hK.out _ _ ?_ (fun hHeld => ?_)
            · exact X.out.rng
            clear hK K
            try simp only [Act.put]
            refine wpAnyH_done (by kernel_rfl) ?_ _
            refine NoPanic.normal ?_
            refine hfin.out _ _ ?_
            (repeat apply Exists.intro)
            refine ⟨?rel, rfl⟩
            case rel => exact ⟨pa, pf, _, rfl, rfl, geA, geF, A.out, F.out, hbx.out, hxo2.out, bel.out⟩
          exact AllReadyH.nil
        exact AllReadyH.nil
      exact AllReadyH.nil
    exact AllReadyH.nil
  refine AllReadyH.cons (o := _) rfl (fun K hK => ?_) ?_
  · dsimp only [Array.reduceGetElem] at hK ⊢
    go_simp
    have zz := balloc W0 (.cells #[.int .i64 0, .int .i64 0, .int .i64 0] 27)
    have X' := hid (X.out.ext zz)
    have bel' := hid (bthen bel.out zz)
    have F := hid (Blk.new W0 #[.int .i64 0, .int .i64 0, .int .i64 0] 27)
    have ltF_X := X.out.lt
    have geF := bel.out.size
    clear zz
    clear X
    have X := X'
    clear X'
    clear bel
    have bel := bel'
    clear bel'
    generalize W0.alloc (.cells #[.int .i64 0, .int .i64 0, .int .i64 0] 27) = W1 at *
    generalize W0.heap.size = pf at *
    refine hK.out _ _ ?_ (fun hHeld => ?_)
    · exact X.out.rng
    clear hK K
    try simp only [Array.reduceGetElem, Act.put, List.setIfInBounds_toArray, List.set_cons_zero, List.set_cons_succ]
    refine wpAnyH_ready (rs := [7, 11]) (by kernel_rfl) (by simp) ?_
    refine AllReadyH.cons (o := _) rfl (fun K hK => ?_) ?_
    · dsimp only [Array.reduceGetElem] at hK ⊢
      go_simp
      refine (rlrule_any (w0 := w) (w := W1) d (.slice xp d.boxes.length xc) ps.length bx dpre.out (bthen Q3.out bel.out) hti.out hst.out ⟨hb0, by omega⟩).mono ?_
      rintro en V2 ⟨hp, hb⟩
      unfold RulePost at hp
      rw [hrr'.out] at hp
      obtain ⟨xv, rfl, hbx', hxo⟩ := hp
      obtain ⟨vp5, vc5, rfl⟩ := hbx'.shape
      have hbx := hid hbx'
      clear hbx'
      have nbF := hid (show r.boxes = [] ∨ (Value.slice vp5 r.boxes.length vc5).ownBlock ≠ some pf from hxo.imp id fun h e => by have := h _ e; have := F.out.lt; omega)
      have hxo2 := hid (show BoxOwn (.slice vp5 r.boxes.length vc5) r.boxes w.heap.size w3.heap.size from hxo.imp id fun h k e => (h k e).imp id fun h2 => Nat.le_trans bel.out.size h2)
      clear hxo
      have X' := hid (X.out.ext hb)
      have F' := hid (F.out.ext hb)
      have bel' := hid (bthen bel.out hb)
      clear X
      have X := X'
      clear X'
      clear F
      have F := F'
      clear F'
      clear bel hb
      have bel := bel'
      clear bel'
      go_wp2_with fail
      refine hK.out _ _ ?_ (fun hHeld => ?_)
      · exact X.out.rng
      clear hK K
      try simp only [Array.reduceGetElem, Act.put, List.setIfInBounds_toArray, List.set_cons_zero, List.set_cons_succ]
      refine wpAnyH_take (i := 8) (oi := _) (v := .tuple #[.agg (ruleArr r (.slice vp5 r.boxes.length vc5)), .agg #[.int .i64 0, .int .i64 0, .int .i64 0]]) rfl (by kernel_rfl) (by kernel_rfl) (by kernel_rfl) (fun _ _ _ h => h) (Or.inl ⟨by rfl, fun w hSw => by go_simp⟩) (by assumption) ?_
      try simp only [Array.reduceGetElem, Act.put, List.setIfInBounds_toArray, List.set_cons_zero, List.set_cons_succ]
      refine wpAnyH_take (i := 9) (oi := _) (v := .agg (ruleArr r (.slice vp5 r.boxes.length vc5))) rfl (by kernel_rfl) (by kernel_rfl) (by kernel_rfl) (fun _ _ _ h => h) (Or.inl ⟨by rfl, fun w hSw => by go_simp⟩) (by assumption) ?_
      try simp only [Array.reduceGetElem, Act.put, List.setIfInBounds_toArray, List.set_cons_zero, List.set_cons_succ]
      refine wpAnyH_take (i := 10) (oi := _) (v := .agg #[.int .i64 0, .int .i64 0, .int .i64 0]) rfl (by kernel_rfl) (by kernel_rfl) (by kernel_rfl) (fun _ _ _ h => h) (Or.inl ⟨by rfl, fun w hSw => by go_simp⟩) (by assumption) ?_
      try simp only [Array.reduceGetElem, Act.put, List.setIfInBounds_toArray, List.set_cons_zero, List.set_cons_succ]
      refine wpAnyH_ready (rs := [11]) (by kernel_rfl) (by simp) ?_
      refine AllReadyH.cons (o := _) rfl (fun K hK => ?_) ?_
      · dsimp only [Array.reduceGetElem] at hK ⊢
        go_simp
        have zz := balloc V2 (.cells #[.int .i64 0, .int .i64 0, .int .i64 0, .int .i64 0, .int .i64 0, .slice none 0 0, .int .i64 0] 52)
        have X' := hid (X.out.ext zz)
        have F' := hid (F.out.ext zz)
        have bel' := hid (bthen bel.out zz)
        have hbx' := hid (hbx.out.ext zz)
        have nbA := hid (show r.boxes = [] ∨ (Value.slice vp5 r.boxes.length vc5).ownBlock ≠ some V2.heap.size from by
          rcases hbx.out with ⟨_, _, _, h0⟩ | hr
          · exact .inl h0
          · exact .inr (fun e => by have := hr.own_lt e; omega))
        clear hbx
        have hbx := hbx'
        clear hbx'
        have A := hid (Blk.new V2 #[.int .i64 0, .int .i64 0, .int .i64 0, .int .i64 0, .int .i64 0, .slice none 0 0, .int .i64 0] 52)
        have ltA_X := X.out.lt
        have ltA_F := F.out.lt
        have geA := bel.out.size
        clear zz
        clear X
        have X := X'
        clear X'
        clear F
        have F := F'
        clear F'
        clear bel
        have bel := bel'
        clear bel'
        generalize V2.alloc (.cells #[.int .i64 0, .int .i64 0, .int .i64 0, .int .i64 0, .int .i64 0, .slice none 0 0, .int .i64 0] 52) = W3 at *
        generalize V2.heap.size = pa at *
        refine hK.out _ _ ?_ (fun hHeld => ?_)
        · exact X.out.rng
        clear hK K
        try simp only [Array.reduceGetElem, Act.put, List.setIfInBounds_toArray, List.set_cons_zero, List.set_cons_succ]
        refine wpAnyH_ready (rs := [13]) (by kernel_rfl) (by simp) ?_
        refine AllReadyH.cons (o := _) rfl (fun K hK => ?_) ?_
        · dsimp only [Array.reduceGetElem] at hK ⊢
          rw [if_pos (by rfl)]
          refine wp_store_row 52 (.tmp 9) (.tmp 51) rfl pa ((ruleArr r (.slice vp5 r.boxes.length vc5))) rfl rfl 52 _ A.out (by kernel_rfl) rfl (ruleArr_one r rfl) ?_
          have X' := hid (X.out.setRowOther (k := pa) (cs' := (ruleArr r (.slice vp5 r.boxes.length vc5))) (by omega))
          have F' := hid (F.out.setRowOther (k := pa) (cs' := (ruleArr r (.slice vp5 r.boxes.length vc5))) (by omega))
          have A' := hid (A.out.setRow ((ruleArr r (.slice vp5 r.boxes.length vc5))))
          have bel' := hid (below_setRow bel.out geA ((ruleArr r (.slice vp5 r.boxes.length vc5))))
          have hbx' := hid (hbx.out.setRowOther nbA.out ((ruleArr r (.slice vp5 r.boxes.length vc5))))
          clear hbx
          have hbx := hbx'
          clear hbx'
          clear X
          have X := X'
          clear X'
          clear F
          have F := F'
          clear F'
          clear A
          have A := A'
          clear A'
          clear bel
          have bel := bel'
          clear bel'
          generalize W3.setRow pa ((ruleArr r (.slice vp5 r.boxes.length vc5))) = W4 at *
          refine hK.out _ _ ?_ (fun hHeld => ?_)
          · exact X.out.rng
          clear hK K
          try simp only [Act.put]
          refine wpAnyH_ready (rs := [14]) (by kernel_rfl) (by simp) ?_
          refine AllReadyH.cons (o := _) rfl (fun K hK => ?_) ?_
          · dsimp only [Array.reduceGetElem] at hK ⊢
            rw [if_pos (by rfl)]
            refine wp_store_row 27 (.tmp 10) (.tmp 52) rfl pf (#[.int .i64 0, .int .i64 0, .int .i64 0]) rfl rfl 27 _ F.out (by kernel_rfl) rfl (by simp [Value.oneCell']) ?_
            have X' := hid (X.out.setRowOther (k := pf) (cs' := #[.int .i64 0, .int .i64 0, .int .i64 0]) (by omega))
            have F' := hid (F.out.setRow (#[.int .i64 0, .int .i64 0, .int .i64 0]))
            have A' := hid (A.out.setRowOther (k := pf) (cs' := #[.int .i64 0, .int .i64 0, .int .i64 0]) (by omega))
            have bel' := hid (below_setRow bel.out geF (#[.int .i64 0, .int .i64 0, .int .i64 0]))
            have hbx' := hid (hbx.out.setRowOther nbF.out (#[.int .i64 0, .int .i64 0, .int .i64 0]))
            clear hbx
            have hbx := hbx'
            clear hbx'
            clear X
            have X := X'
            clear X'
            clear F
            have F := F'
            clear F'
            clear A
            have A := A'
            clear A'
            clear bel
            have bel := bel'
            clear bel'
            generalize W4.setRow pf (#[.int .i64 0, .int .i64 0, .int .i64 0]) = W5 at *
            refine hK.out _ _ ?_ (fun hHeld => ?_)
            · exact X.out.rng
            clear hK K
            try simp only [Act.put]
            refine wpAnyH_done (by kernel_rfl) ?_ _
            refine NoPanic.normal ?_
            refine hfin.out _ _ ?_
            (repeat apply Exists.intro)
            refine ⟨?rel, rfl⟩
            case rel => exact ⟨pa, pf, _, rfl, rfl, geA, geF, A.out, F.out, hbx.out, hxo2.out, bel.out⟩
          exact AllReadyH.nil
        exact AllReadyH.nil
      exact AllReadyH.nil
    refine AllReadyH.cons (o := _) rfl (fun K hK => ?_) ?_
    · dsimp only [Array.reduceGetElem] at hK ⊢
      go_simp
      have zz := balloc W1 (.cells #[.int .i64 0, .int .i64 0, .int .i64 0, .int .i64 0, .int .i64 0, .slice none 0 0, .int .i64 0] 52)
      have X' := hid (X.out.ext zz)
      have F' := hid (F.out.ext zz)
      have bel' := hid (bthen bel.out zz)
      have A := hid (Blk.new W1 #[.int .i64 0, .int .i64 0, .int .i64 0, .int .i64 0, .int .i64 0, .slice none 0 0, .int .i64 0] 52)
      have ltA_X := X.out.lt
      have ltA_F := F.out.lt
      have geA := bel.out.size
      clear zz
      clear X
      have X := X'
      clear X'
      clear F
      have F := F'
      clear F'
      clear bel
      have bel := bel'
      clear bel'
      generalize W1.alloc (.cells #[.int .i64 0, .int .i64 0, .int .i64 0, .int .i64 0, .int .i64 0, .slice none 0 0, .int .i64 0] 52) = W2 at *
      generalize W1.heap.size = pa at *
      refine hK.out _ _ ?_ (fun hHeld => ?_)
      · exact X.out.rng
      clear hK K
      try simp only [Array.reduceGetElem, Act.put, List.setIfInBounds_toArray, List.set_cons_zero, List.set_cons_succ]
      refine wpAnyH_ready (rs := [7]) (by kernel_rfl) (by simp) ?_
      refine AllReadyH.cons (o := _) rfl (fun K hK => ?_) ?_
      · dsimp only [Array.reduceGetElem] at hK ⊢
        go_simp
        refine (rlrule_any (w0 := w) (w := W2) d (.slice xp d.boxes.length xc) ps.length bx dpre.out (bthen Q3.out bel.out) hti.out hst.out ⟨hb0, by omega⟩).mono ?_
        rintro en V3 ⟨hp, hb⟩
        unfold RulePost at hp
        rw [hrr'.out] at hp
        obtain ⟨xv, rfl, hbx', hxo⟩ := hp
        obtain ⟨vp5, vc5, rfl⟩ := hbx'.shape
        have hbx := hid hbx'
        clear hbx'
        have nbF := hid (show r.boxes = [] ∨ (Value.slice vp5 r.boxes.length vc5).ownBlock ≠ some pf from hxo.imp id fun h e => by have := h _ e; have := F.out.lt; omega)
        have nbA := hid (show r.boxes = [] ∨ (Value.slice vp5 r.boxes.length vc5).ownBlock ≠ some pa from hxo.imp id fun h e => by have := h _ e; have := A.out.lt; omega)
        have hxo2 := hid (show BoxOwn (.slice vp5 r.boxes.length vc5) r.boxes w.heap.size w3.heap.size from hxo.imp id fun h k e => (h k e).imp id fun h2 => Nat.le_trans bel.out.size h2)
        clear hxo
        have X' := hid (X.out.ext hb)
        have F' := hid (F.out.ext hb)
        have A' := hid (A.out.ext hb)
        have bel' := hid (bthen bel.out hb)
        clear X
        have X := X'
        clear X'
        clear F
        have F := F'
        clear F'
        clear A
        have A := A'
        clear A'
        clear bel hb
        have bel := bel'
        clear bel'
        go_wp2_with fail
        refine hK.out _ _ ?_ (fun hHeld => ?_)
        · exact X.out.rng
        clear hK K
        try simp only [Array.reduceGetElem, Act.put, List.setIfInBounds_toArray, List.set_cons_zero, List.set_cons_succ]
        refine wpAnyH_take (i := 8) (oi := _) (v := .tuple #[.agg (ruleArr r (.slice vp5 r.boxes.length vc5)), .agg #[.int .i64 0, .int .i64 0, .int .i64 0]]) rfl (by kernel_rfl) (by kernel_rfl) (by kernel_rfl) (fun _ _ _ h => h) (Or.inl ⟨by rfl, fun w hSw => by go_simp⟩) (by assumption) ?_
        try simp only [Array.reduceGetElem, Act.put, List.setIfInBounds_toArray, List.set_cons_zero, List.set_cons_succ]
        refine wpAnyH_take (i := 9) (oi := _) (v := .agg (ruleArr r (.slice vp5 r.boxes.length vc5))) rfl (by kernel_rfl) (by kernel_rfl) (by kernel_rfl) (fun _ _ _ h => h) (Or.inl ⟨by rfl, fun w hSw => by go_simp⟩) (by assumption) ?_
        try simp only [Array.reduceGetElem, Act.put, List.setIfInBounds_toArray, List.set_cons_zero, List.set_cons_succ]
        refine wpAnyH_take (i := 10) (oi := _) (v := .agg #[.int .i64 0, .int .i64 0, .int .i64 0]) rfl (by kernel_rfl) (by kernel_rfl) (by kernel_rfl) (fun _ _ _ h => h) (Or.inl ⟨by rfl, fun w hSw => by go_simp⟩) (by assumption) ?_
        try simp only [Array.reduceGetElem, Act.put, List.setIfInBounds_toArray, List.set_cons_zero, List.set_cons_succ]
        refine wpAnyH_ready (rs := [13]) (by kernel_rfl) (by simp) ?_
        refine AllReadyH.cons (o := _) rfl (fun K hK => ?_) ?_
        · dsimp only [Array.reduceGetElem] at hK ⊢
          rw [if_pos (by rfl)]
          refine wp_store_row 52 (.tmp 9) (.tmp 51) rfl pa ((ruleArr r (.slice vp5 r.boxes.length vc5))) rfl rfl 52 _ A.out (by kernel_rfl) rfl (ruleArr_one r rfl) ?_
          have X' := hid (X.out.setRowOther (k := pa) (cs' := (ruleArr r (.slice vp5 r.boxes.length vc5))) (by omega))
          have F' := hid (F.out.setRowOther (k := pa) (cs' := (ruleArr r (.slice vp5 r.boxes.length vc5))) (by omega))
          have A' := hid (A.out.setRow ((ruleArr r (.slice vp5 r.boxes.length vc5))))
          have bel' := hid (below_setRow bel.out geA ((ruleArr r (.slice vp5 r.boxes.length vc5))))
          have hbx' := hid (hbx.out.setRowOther nbA.out ((ruleArr r (.slice vp5 r.boxes.length vc5))))
          clear hbx
          have hbx := hbx'
          clear hbx'
          clear X
          have X := X'
          clear X'
          clear F
          have F := F'
          clear F'
          clear A
          have A := A'
          clear A'
          clear bel
          have bel := bel'
          clear bel'
          generalize V3.setRow pa ((ruleArr r (.slice vp5 r.boxes.length vc5))) = W4 at *
          refine hK.out _ _ ?_ (fun hHeld => ?_)
          · exact X.out.rng
          clear hK K
          try simp only [Act.put]
          refine wpAnyH_ready (rs := [14]) (by kernel_rfl) (by simp) ?_
          refine AllReadyH.cons (o := _) rfl (fun K hK => ?_) ?_
          · dsimp only [Array.reduceGetElem] at hK ⊢
            rw [if_pos (by rfl)]
            refine wp_store_row 27 (.tmp 10) (.tmp 52) rfl pf (#[.int .i64 0, .int .i64 0, .int .i64 0]) rfl rfl 27 _ F.out (by kernel_rfl) rfl (by simp [Value.oneCell']) ?_
            have X' := hid (X.out.setRowOther (k := pf) (cs' := #[.int .i64 0, .int .i64 0, .int .i64 0]) (by omega))
            have F' := hid (F.out.setRow (#[.int .i64 0, .int .i64 0, .int .i64 0]))
            have A' := hid (A.out.setRowOther (k := pf) (cs' := #[.int .i64 0, .int .i64 0, .int .i64 0]) (by omega))
            have bel' := hid (below_setRow bel.out geF (#[.int .i64 0, .int .i64 0, .int .i64 0]))
            have hbx' := hid (hbx.out.setRowOther nbF.out (#[.int .i64 0, .int .i64 0, .int .i64 0]))
            clear hbx
            have hbx := hbx'
            clear hbx'
            clear X
            have X := X'
            clear X'
            clear F
            have F := F'
            clear F'
            clear A
            have A := A'
            clear A'
            clear bel
            have bel := bel'
            clear bel'
            generalize W4.setRow pf (#[.int .i64 0, .int .i64 0, .int .i64 0]) = W5 at *
            refine hK.out _ _ ?_ (fun hHeld => ?_)
            · exact X.out.rng
            clear hK K
            try simp only [Act.put]
            refine wpAnyH_done (by kernel_rfl) ?_ _
            refine NoPanic.normal ?_
            refine hfin.out _ _ ?_
            (repeat apply Exists.intro)
            refine ⟨?rel, rfl⟩
            case rel => exact ⟨pa, pf, _, rfl, rfl, geA, geF, A.out, F.out, hbx.out, hxo2.out, bel.out⟩
          exact AllReadyH.nil
        exact AllReadyH.nil
      exact AllReadyH.nil
    exact AllReadyH.nil
  exact AllReadyH.nil

end Go.Proofs.YtelphkhacadfaaaGreat
