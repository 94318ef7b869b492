/-
  Region 18 of the document's own Check, where a name was declared.
  Region 18 of the document's own Check, where a name was not declared.
-/
import Derived.Test.YtelphkhacadfaaaGreatPk19

namespace Go.Proofs.YtelphkhacadfaaaGreat
open Go.RowKit Go.Sort

set_option maxRecDepth 100000 in
set_option maxHeartbeats 16000000 in
theorem check_18s {w w3 : World} {l : List Po.Decl} {d : Po.Decl} {ps : List RP} {i g off n0 vc db xc rc : Nat} {xp rp : Option Addr} {bx : Int} {d2 : Po.Decl} {K : Act → World → Prop} {Q' : Exit → Act → World → Prop} {s1 s2 s3 s6 s9 s10 s11 s12 s13 s14 s15 s16 s17 s18 s19 s20 s21 s22 s23 s24 s25 s26 s27 s28 s29 s30 s31 s32 s33 s34 s35 s36 s37 s38 s39 s40 s41 s42 s43 s44 s45 s46 s47 s48 s49 s50 s51 s52 s53 s54 s55 s56 s57 s58 s59 s60 s61 s62 s63 s64 s65 s66 s67 s68 s69 s70 s71 s72 s73 s74 s75 s76 s77 s78 s79 s80 s81 s82 s83 s84 s85 s86 s87 s88 s89 s90 s91 s92 s93 s94 s95 s96 s97 s98 s99 s100 s101 s102 s103 s104 s105 s106 s107 s108 s109 s110 s111 s112 s113 s114 : Value}
    (_hdb' : w.heap.size < db) (_hdb3 : db < w3.heap.size) (t1 : (0 : Int) ≤ i) (t2 : (i : Int) ≤ vc) (_hb0 : 0 ≤ bx) (_hb32 : bx ≤ 32) (dpre : Hid (DSl w (.slice (some ⟨g, off, none⟩) i vc) (l.take i))) (hti : Hid ((l.take i).length ≤ 140737488355328)) (_hst : Hid (∀ d ∈ l.take i, DSmall d)) (Q3 : Hid (Below w.heap.size w w3)) (X3 : Hid (Blk w3 db (declCells d (.slice xp d.boxes.length xc)) 39)) (hdc' : Hid (Ru.declared (l.take i) d.kind d.name = some d2))
    (hfin : Hid (∀ a' wx, (∃ u11 u12 u67 u68 u69 u70 u71 u72 u73 u74 u75 u76 u77 : Value, (u12 = .bool true ∧ Below w3.heap.size w3 wx) ∧ a' = ⟨((.slice (some ⟨g, off, none⟩) n0 vc :: s1 :: s2 :: s3 :: .slice rp ps.length rc :: .int .i64 bx :: s6 :: .int .i64 i :: .pointer (some ⟨db, 0, none⟩) :: s9 :: s10 :: u11 :: u12 :: s13 :: s14 :: s15 :: s16 :: s17 :: s18 :: s19 :: s20 :: s21 :: s22 :: s23 :: s24 :: s25 :: s26 :: s27 :: s28 :: s29 :: s30 :: s31 :: s32 :: s33 :: s34 :: s35 :: s36 :: s37 :: s38 :: s39 :: s40 :: s41 :: s42 :: s43 :: s44 :: s45 :: s46 :: s47 :: s48 :: s49 :: s50 :: s51 :: s52 :: s53 :: s54 :: s55 :: s56 :: s57 :: s58 :: s59 :: s60 :: s61 :: s62 :: s63 :: s64 :: s65 :: s66 :: u67 :: u68 :: u69 :: u70 :: u71 :: u72 :: u73 :: u74 :: u75 :: u76 :: u77 :: s78 :: s79 :: s80 :: s81 :: s82 :: s83 :: s84 :: s85 :: s86 :: s87 :: s88 :: s89 :: s90 :: s91 :: s92 :: s93 :: s94 :: s95 :: s96 :: s97 :: s98 :: s99 :: s100 :: s101 :: s102 :: s103 :: s104 :: s105 :: s106 :: s107 :: s108 :: s109 :: s110 :: s111 :: s112 :: s113 :: s114 :: []) : List Value).toArray, []⟩) → K a' wx)) :
    Code.wp Tryz.prog check18 (Exit.then K Q') ⟨((.slice (some ⟨g, off, none⟩) n0 vc :: s1 :: s2 :: s3 :: .slice rp ps.length rc :: .int .i64 bx :: s6 :: .int .i64 i :: .pointer (some ⟨db, 0, none⟩) :: s9 :: s10 :: s11 :: s12 :: s13 :: s14 :: s15 :: s16 :: s17 :: s18 :: s19 :: s20 :: s21 :: s22 :: s23 :: s24 :: s25 :: s26 :: s27 :: s28 :: s29 :: s30 :: s31 :: s32 :: s33 :: s34 :: s35 :: s36 :: s37 :: s38 :: s39 :: s40 :: s41 :: s42 :: s43 :: s44 :: s45 :: s46 :: s47 :: s48 :: s49 :: s50 :: s51 :: s52 :: s53 :: s54 :: s55 :: s56 :: s57 :: s58 :: s59 :: s60 :: s61 :: s62 :: s63 :: s64 :: s65 :: s66 :: s67 :: s68 :: s69 :: s70 :: s71 :: s72 :: s73 :: s74 :: s75 :: s76 :: s77 :: s78 :: s79 :: s80 :: s81 :: s82 :: s83 :: s84 :: s85 :: s86 :: s87 :: s88 :: s89 :: s90 :: s91 :: s92 :: s93 :: s94 :: s95 :: s96 :: s97 :: s98 :: s99 :: s100 :: s101 :: s102 :: s103 :: s104 :: s105 :: s106 :: s107 :: s108 :: s109 :: s110 :: s111 :: s112 :: s113 :: s114 :: []) : List Value).toArray, []⟩ w3 := by
  have X := hid (Blk.drew X3.out)
  have bel := hid (show Below w3.heap.size w3 w3.drew from (Below.refl _ w3).drew)
  have hdbX := X.out.lt
  clear X3
  conv => arg 2; whnf
  refine wp_region_noPanic ?_
  refine wp_region_held_drew (S := (fun w' => w'.cell? ⟨db, 0, none⟩ = some (.int .i64 d.kind) ∧ w'.cell? ⟨db, 1, none⟩ = some (.string d.name))) (by kernel_rfl) (kS X.out) (fun hHeld => ?_)
  generalize w3.drew = W0 at *
  refine wpAnyH_take (i := 0) (oi := _) (v := .slice (some ⟨g, off, none⟩) n0 vc) rfl (by kernel_rfl) (by kernel_rfl) (by kernel_rfl) (fun _ _ _ h => h) (Or.inl ⟨by rfl, fun w hSw => by go_simp⟩) (by assumption) ?_
  try simp only [Array.reduceGetElem, Act.put, List.setIfInBounds_toArray, List.set_cons_zero, List.set_cons_succ]
  refine wpAnyH_take (i := 1) (oi := _) (v := .int .i64 i) rfl (by kernel_rfl) (by kernel_rfl) (by kernel_rfl) (fun _ _ _ h => h) (Or.inl ⟨by rfl, fun w hSw => by go_simp⟩) (by assumption) ?_
  try simp only [Array.reduceGetElem, Act.put, List.setIfInBounds_toArray, List.set_cons_zero, List.set_cons_succ]
  refine wpAnyH_take (i := 2) (oi := _) (v := .slice (some ⟨g, off, none⟩) i vc) rfl (by kernel_rfl) (by kernel_rfl) (by kernel_rfl) (fun _ _ _ h => h) (Or.inl ⟨by rfl, fun w hSw => by go_simp⟩) (by assumption) ?_
  try simp only [Array.reduceGetElem, Act.put, List.setIfInBounds_toArray, List.set_cons_zero, List.set_cons_succ]
  refine wpAnyH_take (i := 3) (oi := _) (v := .pointer (some ⟨db, 0, none⟩)) rfl (by kernel_rfl) (by kernel_rfl) (by kernel_rfl) (fun _ _ _ h => h) (Or.inl ⟨by rfl, fun w hSw => by go_simp⟩) (by assumption) ?_
  try simp only [Array.reduceGetElem, Act.put, List.setIfInBounds_toArray, List.set_cons_zero, List.set_cons_succ]
  refine wpAnyH_take (i := 4) (oi := _) (v := .int .i64 d.kind) rfl (by kernel_rfl) (by kernel_rfl) (by kernel_rfl) (fun _ _ _ h => h) (Or.inl ⟨by rfl, fun w hSw => by dsimp only at hSw; go_simp⟩) (by assumption) ?_
  try simp only [Array.reduceGetElem, Act.put, List.setIfInBounds_toArray, List.set_cons_zero, List.set_cons_succ]
  refine wpAnyH_take (i := 5) (oi := _) (v := .pointer (some ⟨db, 1, none⟩)) rfl (by kernel_rfl) (by kernel_rfl) (by kernel_rfl) (fun _ _ _ h => h) (Or.inl ⟨by rfl, fun w hSw => by go_simp⟩) (by assumption) ?_
  try simp only [Array.reduceGetElem, Act.put, List.setIfInBounds_toArray, List.set_cons_zero, List.set_cons_succ]
  refine wpAnyH_take (i := 6) (oi := _) (v := .string d.name) rfl (by kernel_rfl) (by kernel_rfl) (by kernel_rfl) (fun _ _ _ h => h) (Or.inl ⟨by rfl, fun w hSw => by dsimp only at hSw; go_simp⟩) (by assumption) ?_
  try simp only [Array.reduceGetElem, Act.put, List.setIfInBounds_toArray, List.set_cons_zero, List.set_cons_succ]
  refine wpAnyH_ready (rs := [7, 11]) (by kernel_rfl) (by simp) ?_
  refine AllReadyH.cons (o := _) rfl (fun K hK => ?_) ?_
  · dsimp only [Array.reduceGetElem] at hK ⊢
    go_simp
    refine (declared_at (w0 := w) (w := W0) d.kind d.name dpre.out (bthen Q3.out bel.out) hti.out).mono ?_
    rintro en V1 ⟨hp, hb⟩
    unfold DeclaredPost at hp
    rw [hdc'.out] at hp
    obtain ⟨x2, rfl, _, hone⟩ := hp
    have one2 := hid hone
    clear hone
    have X' := hid (X.out.ext hb)
    have bel' := hid (bthen bel.out hb)
    clear X
    have X := X'
    clear X'
    clear bel hb
    have bel := bel'
    clear bel'
    go_wp2_with fail
    refine hK.out _ _ ?_ (fun hHeld => ?_)
    · exact kS X.out
    clear hK K
    try simp only [Array.reduceGetElem, Act.put, List.setIfInBounds_toArray, List.set_cons_zero, List.set_cons_succ]
    refine wpAnyH_take (i := 8) (oi := _) (v := .tuple #[.agg (declCells d2 x2), .bool true]) rfl (by kernel_rfl) (by kernel_rfl) (by kernel_rfl) (fun _ _ _ h => h) (Or.inl ⟨by rfl, fun w hSw => by go_simp⟩) (by assumption) ?_
    try simp only [Array.reduceGetElem, Act.put, List.setIfInBounds_toArray, List.set_cons_zero, List.set_cons_succ]
    refine wpAnyH_take (i := 9) (oi := _) (v := .agg (declCells d2 x2)) rfl (by kernel_rfl) (by kernel_rfl) (by kernel_rfl) (fun _ _ _ h => h) (Or.inl ⟨by rfl, fun w hSw => by go_simp⟩) (by assumption) ?_
    try simp only [Array.reduceGetElem, Act.put, List.setIfInBounds_toArray, List.set_cons_zero, List.set_cons_succ]
    refine wpAnyH_take (i := 10) (oi := _) (v := .bool true) rfl (by kernel_rfl) (by kernel_rfl) (by kernel_rfl) (fun _ _ _ h => h) (Or.inl ⟨by rfl, fun w hSw => by go_simp⟩) (by assumption) ?_
    try simp only [Array.reduceGetElem, Act.put, List.setIfInBounds_toArray, List.set_cons_zero, List.set_cons_succ]
    refine wpAnyH_ready (rs := [11]) (by kernel_rfl) (by simp) ?_
    refine AllReadyH.cons (o := _) rfl (fun K hK => ?_) ?_
    · dsimp only [Array.reduceGetElem] at hK ⊢
      go_simp
      have zz := balloc V1 (.cells #[.int .i64 0, .string ⟨#[]⟩, .int .i64 0, .slice none 0 0, .bool false, .string ⟨#[]⟩, .int .i64 0, .int .i64 0, .int .i64 0, .int .i64 0, .int .i64 0, .bool false, .string ⟨#[]⟩, .int .i64 0, .int .i64 0, .int .i64 0, .bool false, .string ⟨#[]⟩, .int .i64 0, .int .i64 0, .int .i64 0, .int .i64 0, .int .i64 0, .int .i64 0] 39)
      have X' := hid (X.out.ext zz)
      have bel' := hid (bthen bel.out zz)
      have A := hid (Blk.new V1 #[.int .i64 0, .string ⟨#[]⟩, .int .i64 0, .slice none 0 0, .bool false, .string ⟨#[]⟩, .int .i64 0, .int .i64 0, .int .i64 0, .int .i64 0, .int .i64 0, .bool false, .string ⟨#[]⟩, .int .i64 0, .int .i64 0, .int .i64 0, .bool false, .string ⟨#[]⟩, .int .i64 0, .int .i64 0, .int .i64 0, .int .i64 0, .int .i64 0, .int .i64 0] 39)
      have ltA_X := X.out.lt
      have geA := bel.out.size
      clear zz
      clear X
      have X := X'
      clear X'
      clear bel
      have bel := bel'
      clear bel'
      generalize V1.alloc (.cells #[.int .i64 0, .string ⟨#[]⟩, .int .i64 0, .slice none 0 0, .bool false, .string ⟨#[]⟩, .int .i64 0, .int .i64 0, .int .i64 0, .int .i64 0, .int .i64 0, .bool false, .string ⟨#[]⟩, .int .i64 0, .int .i64 0, .int .i64 0, .bool false, .string ⟨#[]⟩, .int .i64 0, .int .i64 0, .int .i64 0, .int .i64 0, .int .i64 0, .int .i64 0] 39) = W2 at *
      generalize V1.heap.size = pa at *
      refine hK.out _ _ ?_ (fun hHeld => ?_)
      · exact kS X.out
      clear hK K
      try simp only [Array.reduceGetElem, Act.put, List.setIfInBounds_toArray, List.set_cons_zero, List.set_cons_succ]
      refine wpAnyH_ready (rs := [12]) (by kernel_rfl) (by simp) ?_
      refine AllReadyH.cons (o := _) rfl (fun K hK => ?_) ?_
      · dsimp only [Array.reduceGetElem] at hK ⊢
        rw [if_pos (by rfl)]
        refine wp_store_row 39 (.tmp 11) (.tmp 76) rfl pa ((declCells d2 x2)) rfl rfl 39 _ A.out (by kernel_rfl) rfl (one2.out) ?_
        have X' := hid (X.out.setRowOther (k := pa) (cs' := (declCells d2 x2)) (by omega))
        have A' := hid (A.out.setRow ((declCells d2 x2)))
        have bel' := hid (below_setRow bel.out geA ((declCells d2 x2)))
        clear X
        have X := X'
        clear X'
        clear A
        have A := A'
        clear A'
        clear bel
        have bel := bel'
        clear bel'
        generalize W2.setRow pa ((declCells d2 x2)) = W3 at *
        refine hK.out _ _ ?_ (fun hHeld => ?_)
        · exact kS X.out
        clear hK K
        try simp only [Act.put]
        refine wpAnyH_take (i := 13) (oi := _) (v := .bool true) rfl (by kernel_rfl) (by kernel_rfl) (by kernel_rfl) (fun _ _ _ h => h) (Or.inl ⟨by rfl, fun w hSw => by go_simp⟩) (by assumption) ?_
        try simp only [Array.reduceGetElem, Act.put, List.setIfInBounds_toArray, List.set_cons_zero, List.set_cons_succ]
        refine wpAnyH_done (by kernel_rfl) ?_ _
        refine NoPanic.normal ?_
        refine hfin.out _ _ ?_
        (repeat apply Exists.intro)
        refine ⟨?rel, rfl⟩
        case rel => exact ⟨rfl, bel.out⟩
      exact AllReadyH.nil
    exact AllReadyH.nil
  refine AllReadyH.cons (o := _) rfl (fun K hK => ?_) ?_
  · dsimp only [Array.reduceGetElem] at hK ⊢
    go_simp
    have zz := balloc W0 (.cells #[.int .i64 0, .string ⟨#[]⟩, .int .i64 0, .slice none 0 0, .bool false, .string ⟨#[]⟩, .int .i64 0, .int .i64 0, .int .i64 0, .int .i64 0, .int .i64 0, .bool false, .string ⟨#[]⟩, .int .i64 0, .int .i64 0, .int .i64 0, .bool false, .string ⟨#[]⟩, .int .i64 0, .int .i64 0, .int .i64 0, .int .i64 0, .int .i64 0, .int .i64 0] 39)
    have X' := hid (X.out.ext zz)
    have bel' := hid (bthen bel.out zz)
    have A := hid (Blk.new W0 #[.int .i64 0, .string ⟨#[]⟩, .int .i64 0, .slice none 0 0, .bool false, .string ⟨#[]⟩, .int .i64 0, .int .i64 0, .int .i64 0, .int .i64 0, .int .i64 0, .bool false, .string ⟨#[]⟩, .int .i64 0, .int .i64 0, .int .i64 0, .bool false, .string ⟨#[]⟩, .int .i64 0, .int .i64 0, .int .i64 0, .int .i64 0, .int .i64 0, .int .i64 0] 39)
    have ltA_X := X.out.lt
    have geA := bel.out.size
    clear zz
    clear X
    have X := X'
    clear X'
    clear bel
    have bel := bel'
    clear bel'
    generalize W0.alloc (.cells #[.int .i64 0, .string ⟨#[]⟩, .int .i64 0, .slice none 0 0, .bool false, .string ⟨#[]⟩, .int .i64 0, .int .i64 0, .int .i64 0, .int .i64 0, .int .i64 0, .bool false, .string ⟨#[]⟩, .int .i64 0, .int .i64 0, .int .i64 0, .bool false, .string ⟨#[]⟩, .int .i64 0, .int .i64 0, .int .i64 0, .int .i64 0, .int .i64 0, .int .i64 0] 39) = W1 at *
    generalize W0.heap.size = pa at *
    refine hK.out _ _ ?_ (fun hHeld => ?_)
    · exact kS X.out
    clear hK K
    try simp only [Array.reduceGetElem, Act.put, List.setIfInBounds_toArray, List.set_cons_zero, List.set_cons_succ]
    refine wpAnyH_ready (rs := [7]) (by kernel_rfl) (by simp) ?_
    refine AllReadyH.cons (o := _) rfl (fun K hK => ?_) ?_
    · dsimp only [Array.reduceGetElem] at hK ⊢
      go_simp
      refine (declared_at (w0 := w) (w := W1) d.kind d.name dpre.out (bthen Q3.out bel.out) hti.out).mono ?_
      rintro en V2 ⟨hp, hb⟩
      unfold DeclaredPost at hp
      rw [hdc'.out] at hp
      obtain ⟨x2, rfl, _, hone⟩ := hp
      have one2 := hid hone
      clear hone
      have X' := hid (X.out.ext hb)
      have A' := hid (A.out.ext hb)
      have bel' := hid (bthen bel.out hb)
      clear X
      have X := X'
      clear X'
      clear A
      have A := A'
      clear A'
      clear bel hb
      have bel := bel'
      clear bel'
      go_wp2_with fail
      refine hK.out _ _ ?_ (fun hHeld => ?_)
      · exact kS X.out
      clear hK K
      try simp only [Array.reduceGetElem, Act.put, List.setIfInBounds_toArray, List.set_cons_zero, List.set_cons_succ]
      refine wpAnyH_take (i := 8) (oi := _) (v := .tuple #[.agg (declCells d2 x2), .bool true]) rfl (by kernel_rfl) (by kernel_rfl) (by kernel_rfl) (fun _ _ _ h => h) (Or.inl ⟨by rfl, fun w hSw => by go_simp⟩) (by assumption) ?_
      try simp only [Array.reduceGetElem, Act.put, List.setIfInBounds_toArray, List.set_cons_zero, List.set_cons_succ]
      refine wpAnyH_take (i := 9) (oi := _) (v := .agg (declCells d2 x2)) rfl (by kernel_rfl) (by kernel_rfl) (by kernel_rfl) (fun _ _ _ h => h) (Or.inl ⟨by rfl, fun w hSw => by go_simp⟩) (by assumption) ?_
      try simp only [Array.reduceGetElem, Act.put, List.setIfInBounds_toArray, List.set_cons_zero, List.set_cons_succ]
      refine wpAnyH_take (i := 10) (oi := _) (v := .bool true) rfl (by kernel_rfl) (by kernel_rfl) (by kernel_rfl) (fun _ _ _ h => h) (Or.inl ⟨by rfl, fun w hSw => by go_simp⟩) (by assumption) ?_
      try simp only [Array.reduceGetElem, Act.put, List.setIfInBounds_toArray, List.set_cons_zero, List.set_cons_succ]
      refine wpAnyH_ready (rs := [12]) (by kernel_rfl) (by simp) ?_
      refine AllReadyH.cons (o := _) rfl (fun K hK => ?_) ?_
      · dsimp only [Array.reduceGetElem] at hK ⊢
        rw [if_pos (by rfl)]
        refine wp_store_row 39 (.tmp 11) (.tmp 76) rfl pa ((declCells d2 x2)) rfl rfl 39 _ A.out (by kernel_rfl) rfl (one2.out) ?_
        have X' := hid (X.out.setRowOther (k := pa) (cs' := (declCells d2 x2)) (by omega))
        have A' := hid (A.out.setRow ((declCells d2 x2)))
        have bel' := hid (below_setRow bel.out geA ((declCells d2 x2)))
        clear X
        have X := X'
        clear X'
        clear A
        have A := A'
        clear A'
        clear bel
        have bel := bel'
        clear bel'
        generalize V2.setRow pa ((declCells d2 x2)) = W3 at *
        refine hK.out _ _ ?_ (fun hHeld => ?_)
        · exact kS X.out
        clear hK K
        try simp only [Act.put]
        refine wpAnyH_take (i := 13) (oi := _) (v := .bool true) rfl (by kernel_rfl) (by kernel_rfl) (by kernel_rfl) (fun _ _ _ h => h) (Or.inl ⟨by rfl, fun w hSw => by go_simp⟩) (by assumption) ?_
        try simp only [Array.reduceGetElem, Act.put, List.setIfInBounds_toArray, List.set_cons_zero, List.set_cons_succ]
        refine wpAnyH_done (by kernel_rfl) ?_ _
        refine NoPanic.normal ?_
        refine hfin.out _ _ ?_
        (repeat apply Exists.intro)
        refine ⟨?rel, rfl⟩
        case rel => exact ⟨rfl, bel.out⟩
      exact AllReadyH.nil
    exact AllReadyH.nil
  exact AllReadyH.nil

end Go.Proofs.YtelphkhacadfaaaGreat

namespace Go.Proofs.YtelphkhacadfaaaGreat
open Go.RowKit Go.Sort

set_option maxRecDepth 100000 in
set_option maxHeartbeats 16000000 in
theorem check_18n {w w3 : World} {l : List Po.Decl} {d : Po.Decl} {ps : List RP} {i g off n0 vc db xc rc : Nat} {xp rp : Option Addr} {bx : Int} {K : Act → World → Prop} {Q' : Exit → Act → World → Prop} {s1 s2 s3 s6 s9 s10 s11 s12 s13 s14 s15 s16 s17 s18 s19 s20 s21 s22 s23 s24 s25 s26 s27 s28 s29 s30 s31 s32 s33 s34 s35 s36 s37 s38 s39 s40 s41 s42 s43 s44 s45 s46 s47 s48 s49 s50 s51 s52 s53 s54 s55 s56 s57 s58 s59 s60 s61 s62 s63 s64 s65 s66 s67 s68 s69 s70 s71 s72 s73 s74 s75 s76 s77 s78 s79 s80 s81 s82 s83 s84 s85 s86 s87 s88 s89 s90 s91 s92 s93 s94 s95 s96 s97 s98 s99 s100 s101 s102 s103 s104 s105 s106 s107 s108 s109 s110 s111 s112 s113 s114 : Value}
    (_hdb' : w.heap.size < db) (_hdb3 : db < w3.heap.size) (t1 : (0 : Int) ≤ i) (t2 : (i : Int) ≤ vc) (_hb0 : 0 ≤ bx) (_hb32 : bx ≤ 32) (dpre : Hid (DSl w (.slice (some ⟨g, off, none⟩) i vc) (l.take i))) (hti : Hid ((l.take i).length ≤ 140737488355328)) (_hst : Hid (∀ d ∈ l.take i, DSmall d)) (Q3 : Hid (Below w.heap.size w w3)) (X3 : Hid (Blk w3 db (declCells d (.slice xp d.boxes.length xc)) 39)) (hdc' : Hid (Ru.declared (l.take i) d.kind d.name = none))
    (hfin : Hid (∀ a' wx, (∃ u11 u12 u67 u68 u69 u70 u71 u72 u73 u74 u75 u76 u77 : Value, (u12 = .bool false ∧ Below w3.heap.size w3 wx) ∧ a' = ⟨((.slice (some ⟨g, off, none⟩) n0 vc :: s1 :: s2 :: s3 :: .slice rp ps.length rc :: .int .i64 bx :: s6 :: .int .i64 i :: .pointer (some ⟨db, 0, none⟩) :: s9 :: s10 :: u11 :: u12 :: s13 :: s14 :: s15 :: s16 :: s17 :: s18 :: s19 :: s20 :: s21 :: s22 :: s23 :: s24 :: s25 :: s26 :: s27 :: s28 :: s29 :: s30 :: s31 :: s32 :: s33 :: s34 :: s35 :: s36 :: s37 :: s38 :: s39 :: s40 :: s41 :: s42 :: s43 :: s44 :: s45 :: s46 :: s47 :: s48 :: s49 :: s50 :: s51 :: s52 :: s53 :: s54 :: s55 :: s56 :: s57 :: s58 :: s59 :: s60 :: s61 :: s62 :: s63 :: s64 :: s65 :: s66 :: u67 :: u68 :: u69 :: u70 :: u71 :: u72 :: u73 :: u74 :: u75 :: u76 :: u77 :: s78 :: s79 :: s80 :: s81 :: s82 :: s83 :: s84 :: s85 :: s86 :: s87 :: s88 :: s89 :: s90 :: s91 :: s92 :: s93 :: s94 :: s95 :: s96 :: s97 :: s98 :: s99 :: s100 :: s101 :: s102 :: s103 :: s104 :: s105 :: s106 :: s107 :: s108 :: s109 :: s110 :: s111 :: s112 :: s113 :: s114 :: []) : List Value).toArray, []⟩) → K a' wx)) :
    Code.wp Tryz.prog check18 (Exit.then K Q') ⟨((.slice (some ⟨g, off, none⟩) n0 vc :: s1 :: s2 :: s3 :: .slice rp ps.length rc :: .int .i64 bx :: s6 :: .int .i64 i :: .pointer (some ⟨db, 0, none⟩) :: s9 :: s10 :: s11 :: s12 :: s13 :: s14 :: s15 :: s16 :: s17 :: s18 :: s19 :: s20 :: s21 :: s22 :: s23 :: s24 :: s25 :: s26 :: s27 :: s28 :: s29 :: s30 :: s31 :: s32 :: s33 :: s34 :: s35 :: s36 :: s37 :: s38 :: s39 :: s40 :: s41 :: s42 :: s43 :: s44 :: s45 :: s46 :: s47 :: s48 :: s49 :: s50 :: s51 :: s52 :: s53 :: s54 :: s55 :: s56 :: s57 :: s58 :: s59 :: s60 :: s61 :: s62 :: s63 :: s64 :: s65 :: s66 :: s67 :: s68 :: s69 :: s70 :: s71 :: s72 :: s73 :: s74 :: s75 :: s76 :: s77 :: s78 :: s79 :: s80 :: s81 :: s82 :: s83 :: s84 :: s85 :: s86 :: s87 :: s88 :: s89 :: s90 :: s91 :: s92 :: s93 :: s94 :: s95 :: s96 :: s97 :: s98 :: s99 :: s100 :: s101 :: s102 :: s103 :: s104 :: s105 :: s106 :: s107 :: s108 :: s109 :: s110 :: s111 :: s112 :: s113 :: s114 :: []) : List Value).toArray, []⟩ w3 := by
  have X := hid (Blk.drew X3.out)
  have bel := hid (show Below w3.heap.size w3 w3.drew from (Below.refl _ w3).drew)
  have hdbX := X.out.lt
  clear X3
  conv => arg 2; whnf
  refine wp_region_noPanic ?_
  refine wp_region_held_drew (S := (fun w' => w'.cell? ⟨db, 0, none⟩ = some (.int .i64 d.kind) ∧ w'.cell? ⟨db, 1, none⟩ = some (.string d.name))) (by kernel_rfl) (kS X.out) (fun hHeld => ?_)
  generalize w3.drew = W0 at *
  refine wpAnyH_take (i := 0) (oi := _) (v := .slice (some ⟨g, off, none⟩) n0 vc) rfl (by kernel_rfl) (by kernel_rfl) (by kernel_rfl) (fun _ _ _ h => h) (Or.inl ⟨by rfl, fun w hSw => by go_simp⟩) (by assumption) ?_
  try simp only [Array.reduceGetElem, Act.put, List.setIfInBounds_toArray, List.set_cons_zero, List.set_cons_succ]
  refine wpAnyH_take (i := 1) (oi := _) (v := .int .i64 i) rfl (by kernel_rfl) (by kernel_rfl) (by kernel_rfl) (fun _ _ _ h => h) (Or.inl ⟨by rfl, fun w hSw => by go_simp⟩) (by assumption) ?_
  try simp only [Array.reduceGetElem, Act.put, List.setIfInBounds_toArray, List.set_cons_zero, List.set_cons_succ]
  refine wpAnyH_take (i := 2) (oi := _) (v := .slice (some ⟨g, off, none⟩) i vc) rfl (by kernel_rfl) (by kernel_rfl) (by kernel_rfl) (fun _ _ _ h => h) (Or.inl ⟨by rfl, fun w hSw => by go_simp⟩) (by assumption) ?_
  try simp only [Array.reduceGetElem, Act.put, List.setIfInBounds_toArray, List.set_cons_zero, List.set_cons_succ]
  refine wpAnyH_take (i := 3) (oi := _) (v := .pointer (some ⟨db, 0, none⟩)) rfl (by kernel_rfl) (by kernel_rfl) (by kernel_rfl) (fun _ _ _ h => h) (Or.inl ⟨by rfl, fun w hSw => by go_simp⟩) (by assumption) ?_
  try simp only [Array.reduceGetElem, Act.put, List.setIfInBounds_toArray, List.set_cons_zero, List.set_cons_succ]
  refine wpAnyH_take (i := 4) (oi := _) (v := .int .i64 d.kind) rfl (by kernel_rfl) (by kernel_rfl) (by kernel_rfl) (fun _ _ _ h => h) (Or.inl ⟨by rfl, fun w hSw => by dsimp only at hSw; go_simp⟩) (by assumption) ?_
  try simp only [Array.reduceGetElem, Act.put, List.setIfInBounds_toArray, List.set_cons_zero, List.set_cons_succ]
  refine wpAnyH_take (i := 5) (oi := _) (v := .pointer (some ⟨db, 1, none⟩)) rfl (by kernel_rfl) (by kernel_rfl) (by kernel_rfl) (fun _ _ _ h => h) (Or.inl ⟨by rfl, fun w hSw => by go_simp⟩) (by assumption) ?_
  try simp only [Array.reduceGetElem, Act.put, List.setIfInBounds_toArray, List.set_cons_zero, List.set_cons_succ]
  refine wpAnyH_take (i := 6) (oi := _) (v := .string d.name) rfl (by kernel_rfl) (by kernel_rfl) (by kernel_rfl) (fun _ _ _ h => h) (Or.inl ⟨by rfl, fun w hSw => by dsimp only at hSw; go_simp⟩) (by assumption) ?_
  try simp only [Array.reduceGetElem, Act.put, List.setIfInBounds_toArray, List.set_cons_zero, List.set_cons_succ]
  refine wpAnyH_ready (rs := [7, 11]) (by kernel_rfl) (by simp) ?_
  refine AllReadyH.cons (o := _) rfl (fun K hK => ?_) ?_
  · dsimp only [Array.reduceGetElem] at hK ⊢
    go_simp
    refine (declared_at (w0 := w) (w := W0) d.kind d.name dpre.out (bthen Q3.out bel.out) hti.out).mono ?_
    rintro en V1 ⟨hp, hb⟩
    unfold DeclaredPost at hp
    rw [hdc'.out] at hp
    subst hp
    have X' := hid (X.out.ext hb)
    have bel' := hid (bthen bel.out hb)
    clear X
    have X := X'
    clear X'
    clear bel hb
    have bel := bel'
    clear bel'
    go_wp2_with fail
    refine hK.out _ _ ?_ (fun hHeld => ?_)
    · exact kS X.out
    clear hK K
    try simp only [Array.reduceGetElem, Act.put, List.setIfInBounds_toArray, List.set_cons_zero, List.set_cons_succ]
    refine wpAnyH_take (i := 8) (oi := _) (v := .tuple #[.agg (declCells Po.zeroDecl (.slice none 0 0)), .bool false]) rfl (by kernel_rfl) (by kernel_rfl) (by kernel_rfl) (fun _ _ _ h => h) (Or.inl ⟨by rfl, fun w hSw => by go_simp⟩) (by assumption) ?_
    try simp only [Array.reduceGetElem, Act.put, List.setIfInBounds_toArray, List.set_cons_zero, List.set_cons_succ]
    refine wpAnyH_take (i := 9) (oi := _) (v := .agg (declCells Po.zeroDecl (.slice none 0 0))) rfl (by kernel_rfl) (by kernel_rfl) (by kernel_rfl) (fun _ _ _ h => h) (Or.inl ⟨by rfl, fun w hSw => by go_simp⟩) (by assumption) ?_
    try simp only [Array.reduceGetElem, Act.put, List.setIfInBounds_toArray, List.set_cons_zero, List.set_cons_succ]
    refine wpAnyH_take (i := 10) (oi := _) (v := .bool false) rfl (by kernel_rfl) (by kernel_rfl) (by kernel_rfl) (fun _ _ _ h => h) (Or.inl ⟨by rfl, fun w hSw => by go_simp⟩) (by assumption) ?_
    try simp only [Array.reduceGetElem, Act.put, List.setIfInBounds_toArray, List.set_cons_zero, List.set_cons_succ]
    refine wpAnyH_ready (rs := [11]) (by kernel_rfl) (by simp) ?_
    refine AllReadyH.cons (o := _) rfl (fun K hK => ?_) ?_
    · dsimp only [Array.reduceGetElem] at hK ⊢
      go_simp
      have zz := balloc V1 (.cells #[.int .i64 0, .string ⟨#[]⟩, .int .i64 0, .slice none 0 0, .bool false, .string ⟨#[]⟩, .int .i64 0, .int .i64 0, .int .i64 0, .int .i64 0, .int .i64 0, .bool false, .string ⟨#[]⟩, .int .i64 0, .int .i64 0, .int .i64 0, .bool false, .string ⟨#[]⟩, .int .i64 0, .int .i64 0, .int .i64 0, .int .i64 0, .int .i64 0, .int .i64 0] 39)
      have X' := hid (X.out.ext zz)
      have bel' := hid (bthen bel.out zz)
      have A := hid (Blk.new V1 #[.int .i64 0, .string ⟨#[]⟩, .int .i64 0, .slice none 0 0, .bool false, .string ⟨#[]⟩, .int .i64 0, .int .i64 0, .int .i64 0, .int .i64 0, .int .i64 0, .bool false, .string ⟨#[]⟩, .int .i64 0, .int .i64 0, .int .i64 0, .bool false, .string ⟨#[]⟩, .int .i64 0, .int .i64 0, .int .i64 0, .int .i64 0, .int .i64 0, .int .i64 0] 39)
      have ltA_X := X.out.lt
      have geA := bel.out.size
      clear zz
      clear X
      have X := X'
      clear X'
      clear bel
      have bel := bel'
      clear bel'
      generalize V1.alloc (.cells #[.int .i64 0, .string ⟨#[]⟩, .int .i64 0, .slice none 0 0, .bool false, .string ⟨#[]⟩, .int .i64 0, .int .i64 0, .int .i64 0, .int .i64 0, .int .i64 0, .bool false, .string ⟨#[]⟩, .int .i64 0, .int .i64 0, .int .i64 0, .bool false, .string ⟨#[]⟩, .int .i64 0, .int .i64 0, .int .i64 0, .int .i64 0, .int .i64 0, .int .i64 0] 39) = W2 at *
      generalize V1.heap.size = pa at *
      refine hK.out _ _ ?_ (fun hHeld => ?_)
      · exact kS X.out
      clear hK K
      try simp only [Array.reduceGetElem, Act.put, List.setIfInBounds_toArray, List.set_cons_zero, List.set_cons_succ]
      refine wpAnyH_ready (rs := [12]) (by kernel_rfl) (by simp) ?_
      refine AllReadyH.cons (o := _) rfl (fun K hK => ?_) ?_
      · dsimp only [Array.reduceGetElem] at hK ⊢
        rw [if_pos (by rfl)]
        refine wp_store_row 39 (.tmp 11) (.tmp 76) rfl pa ((declCells Po.zeroDecl (.slice none 0 0))) rfl rfl 39 _ A.out (by kernel_rfl) rfl (declCells_one _ rfl) ?_
        have X' := hid (X.out.setRowOther (k := pa) (cs' := (declCells Po.zeroDecl (.slice none 0 0))) (by omega))
        have A' := hid (A.out.setRow ((declCells Po.zeroDecl (.slice none 0 0))))
        have bel' := hid (below_setRow bel.out geA ((declCells Po.zeroDecl (.slice none 0 0))))
        clear X
        have X := X'
        clear X'
        clear A
        have A := A'
        clear A'
        clear bel
        have bel := bel'
        clear bel'
        generalize W2.setRow pa ((declCells Po.zeroDecl (.slice none 0 0))) = W3 at *
        refine hK.out _ _ ?_ (fun hHeld => ?_)
        · exact kS X.out
        clear hK K
        try simp only [Act.put]
        refine wpAnyH_take (i := 13) (oi := _) (v := .bool false) rfl (by kernel_rfl) (by kernel_rfl) (by kernel_rfl) (fun _ _ _ h => h) (Or.inl ⟨by rfl, fun w hSw => by go_simp⟩) (by assumption) ?_
        try simp only [Array.reduceGetElem, Act.put, List.setIfInBounds_toArray, List.set_cons_zero, List.set_cons_succ]
        refine wpAnyH_done (by kernel_rfl) ?_ _
        refine NoPanic.normal ?_
        refine hfin.out _ _ ?_
        (repeat apply Exists.intro)
        refine ⟨?rel, rfl⟩
        case rel => exact ⟨rfl, bel.out⟩
      exact AllReadyH.nil
    exact AllReadyH.nil
  refine AllReadyH.cons (o := _) rfl (fun K hK => ?_) ?_
  · dsimp only [Array.reduceGetElem] at hK ⊢
    go_simp
    have zz := balloc W0 (.cells #[.int .i64 0, .string ⟨#[]⟩, .int .i64 0, .slice none 0 0, .bool false, .string ⟨#[]⟩, .int .i64 0, .int .i64 0, .int .i64 0, .int .i64 0, .int .i64 0, .bool false, .string ⟨#[]⟩, .int .i64 0, .int .i64 0, .int .i64 0, .bool false, .string ⟨#[]⟩, .int .i64 0, .int .i64 0, .int .i64 0, .int .i64 0, .int .i64 0, .int .i64 0] 39)
    have X' := hid (X.out.ext zz)
    have bel' := hid (bthen bel.out zz)
    have A := hid (Blk.new W0 #[.int .i64 0, .string ⟨#[]⟩, .int .i64 0, .slice none 0 0, .bool false, .string ⟨#[]⟩, .int .i64 0, .int .i64 0, .int .i64 0, .int .i64 0, .int .i64 0, .bool false, .string ⟨#[]⟩, .int .i64 0, .int .i64 0, .int .i64 0, .bool false, .string ⟨#[]⟩, .int .i64 0, .int .i64 0, .int .i64 0, .int .i64 0, .int .i64 0, .int .i64 0] 39)
    have ltA_X := X.out.lt
    have geA := bel.out.size
    clear zz
    clear X
    have X := X'
    clear X'
    clear bel
    have bel := bel'
    clear bel'
    generalize W0.alloc (.cells #[.int .i64 0, .string ⟨#[]⟩, .int .i64 0, .slice none 0 0, .bool false, .string ⟨#[]⟩, .int .i64 0, .int .i64 0, .int .i64 0, .int .i64 0, .int .i64 0, .bool false, .string ⟨#[]⟩, .int .i64 0, .int .i64 0, .int .i64 0, .bool false, .string ⟨#[]⟩, .int .i64 0, .int .i64 0, .int .i64 0, .int .i64 0, .int .i64 0, .int .i64 0] 39) = W1 at *
    generalize W0.heap.size = pa at *
    refine hK.out _ _ ?_ (fun hHeld => ?_)
    · exact kS X.out
    clear hK K
    try simp only [Array.reduceGetElem, Act.put, List.setIfInBounds_toArray, List.set_cons_zero, List.set_cons_succ]
    refine wpAnyH_ready (rs := [7]) (by kernel_rfl) (by simp) ?_
    refine AllReadyH.cons (o := _) rfl (fun K hK => ?_) ?_
    · dsimp only [Array.reduceGetElem] at hK ⊢
      go_simp
      refine (declared_at (w0 := w) (w := W1) d.kind d.name dpre.out (bthen Q3.out bel.out) hti.out).mono ?_
      rintro en V2 ⟨hp, hb⟩
      unfold DeclaredPost at hp
      rw [hdc'.out] at hp
      subst hp
      have X' := hid (X.out.ext hb)
      have A' := hid (A.out.ext hb)
      have bel' := hid (bthen bel.out hb)
      clear X
      have X := X'
      clear X'
      clear A
      have A := A'
      clear A'
      clear bel hb
      have bel := bel'
      clear bel'
      go_wp2_with fail
      refine hK.out _ _ ?_ (fun hHeld => ?_)
      · exact kS X.out
      clear hK K
      try simp only [Array.reduceGetElem, Act.put, List.setIfInBounds_toArray, List.set_cons_zero, List.set_cons_succ]
      refine wpAnyH_take (i := 8) (oi := _) (v := .tuple #[.agg (declCells Po.zeroDecl (.slice none 0 0)), .bool false]) rfl (by kernel_rfl) (by kernel_rfl) (by kernel_rfl) (fun _ _ _ h => h) (Or.inl ⟨by rfl, fun w hSw => by go_simp⟩) (by assumption) ?_
      try simp only [Array.reduceGetElem, Act.put, List.setIfInBounds_toArray, List.set_cons_zero, List.set_cons_succ]
      refine wpAnyH_take (i := 9) (oi := _) (v := .agg (declCells Po.zeroDecl (.slice none 0 0))) rfl (by kernel_rfl) (by kernel_rfl) (by kernel_rfl) (fun _ _ _ h => h) (Or.inl ⟨by rfl, fun w hSw => by go_simp⟩) (by assumption) ?_
      try simp only [Array.reduceGetElem, Act.put, List.setIfInBounds_toArray, List.set_cons_zero, List.set_cons_succ]
      refine wpAnyH_take (i := 10) (oi := _) (v := .bool false) rfl (by kernel_rfl) (by kernel_rfl) (by kernel_rfl) (fun _ _ _ h => h) (Or.inl ⟨by rfl, fun w hSw => by go_simp⟩) (by assumption) ?_
      try simp only [Array.reduceGetElem, Act.put, List.setIfInBounds_toArray, List.set_cons_zero, List.set_cons_succ]
      refine wpAnyH_ready (rs := [12]) (by kernel_rfl) (by simp) ?_
      refine AllReadyH.cons (o := _) rfl (fun K hK => ?_) ?_
      · dsimp only [Array.reduceGetElem] at hK ⊢
        rw [if_pos (by rfl)]
        refine wp_store_row 39 (.tmp 11) (.tmp 76) rfl pa ((declCells Po.zeroDecl (.slice none 0 0))) rfl rfl 39 _ A.out (by kernel_rfl) rfl (declCells_one _ rfl) ?_
        have X' := hid (X.out.setRowOther (k := pa) (cs' := (declCells Po.zeroDecl (.slice none 0 0))) (by omega))
        have A' := hid (A.out.setRow ((declCells Po.zeroDecl (.slice none 0 0))))
        have bel' := hid (below_setRow bel.out geA ((declCells Po.zeroDecl (.slice none 0 0))))
        clear X
        have X := X'
        clear X'
        clear A
        have A := A'
        clear A'
        clear bel
        have bel := bel'
        clear bel'
        generalize V2.setRow pa ((declCells Po.zeroDecl (.slice none 0 0))) = W3 at *
        refine hK.out _ _ ?_ (fun hHeld => ?_)
        · exact kS X.out
        clear hK K
        try simp only [Act.put]
        refine wpAnyH_take (i := 13) (oi := _) (v := .bool false) rfl (by kernel_rfl) (by kernel_rfl) (by kernel_rfl) (fun _ _ _ h => h) (Or.inl ⟨by rfl, fun w hSw => by go_simp⟩) (by assumption) ?_
        try simp only [Array.reduceGetElem, Act.put, List.setIfInBounds_toArray, List.set_cons_zero, List.set_cons_succ]
        refine wpAnyH_done (by kernel_rfl) ?_ _
        refine NoPanic.normal ?_
        refine hfin.out _ _ ?_
        (repeat apply Exists.intro)
        refine ⟨?rel, rfl⟩
        case rel => exact ⟨rfl, bel.out⟩
      exact AllReadyH.nil
    exact AllReadyH.nil
  exact AllReadyH.nil

end Go.Proofs.YtelphkhacadfaaaGreat
