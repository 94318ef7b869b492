/-
  The walks of the cloak: pair (printed by gentcy.py).
-/
import Derived.Test.YteddkgpnklfppaaPk09
import Derived.Test.YteddkgpnklfppaaPk06
import Derived.Deep.MidRow

namespace Go.Proofs.Yteddkgpnklfppaa
open Go.RowKit Go.Sort Go.Maps

theorem Blk.rngt {w : World} {b : Nat} {cs : Array Value} {t : TypeId} (h : Blk w b cs t) : w.rangeAt b 0 cs.toList := by
  have := World.rangeAt_of_block h 0 cs.size
  rwa [Nat.zero_add, Array.extract_size] at this
theorem ckArr_one (b : Po.Box) (l x y k n : Int) : (ckArr b l x y k n).all (·.oneCell') = true := by simp [ckArr, Value.oneCell']
set_option maxRecDepth 100000 in
set_option maxHeartbeats 8000000 in
theorem tpair_ck {w : World} {yb k n1 n2 : Nat} {kind : Int} {x1 y1 x2 y2 : Int} {b1 b2 : Po.Box} (hn1 : n1 ≤ 1000) (hn2 : n2 ≤ 1000) (hb1 : Ru.boxR b1 = true) (hb2 : Ru.boxR b2 = true)
    (h1 : ∀ w1, Below w.heap.size w w1 → Calls Try.prog 47 #[cellV k x1 y1, cntFV yb] w1 fun e w' => e = .returned (.agg (ckArr b1 k x1 y1 0 n1)) ∧ Below w1.heap.size w1 w')
    (h2 : ∀ w1, Below w.heap.size w w1 → Calls Try.prog 47 #[cellV k x2 y2, cntFV yb] w1 fun e w' => e = .returned (.agg (ckArr b2 k x2 y2 0 n2)) ∧ Below w1.heap.size w1 w') :
    Calls Try.prog 52 #[cellV k x1 y1, cellV k x2 y2, .int .i64 kind, cntFV yb] w fun e w' => e = .returned (.agg (ckArr (hullOf b1 b2) k x1 y1 kind ((n1 + n2 : Nat) : Int))) ∧ Below w.heap.size w w' := by
  have ho1 := hid h1
  have ho2 := hid h2
  have hhu := hid (thull_any hb1 hb2)
  have z1 := balloc w (.cells #[.int .i64 k, .int .i64 x1, .int .i64 y1] 24)
  have z2 := balloc (w.alloc (.cells #[.int .i64 k, .int .i64 x1, .int .i64 y1] 24)) (.cells #[.int .i64 k, .int .i64 x2, .int .i64 y2] 24)
  have z3 := balloc ((w.alloc (.cells #[.int .i64 k, .int .i64 x1, .int .i64 y1] 24)).alloc (.cells #[.int .i64 k, .int .i64 x2, .int .i64 y2] 24)) (.cells ckZero 49)
  have Q0 := hid (bthen (bthen z1 z2) z3)
  have K0 := hid (((Blk.new w #[.int .i64 k, .int .i64 x1, .int .i64 y1] 24).ext z2).ext z3)
  have M0 := hid ((Blk.newAt (w := w.alloc (.cells #[.int .i64 k, .int .i64 x1, .int .i64 y1] 24)) (k := w.heap.size + 1) (by simp) #[.int .i64 k, .int .i64 x2, .int .i64 y2] 24).ext z3)
  have C0 := hid (Blk.newAt (w := (w.alloc (.cells #[.int .i64 k, .int .i64 x1, .int .i64 y1] 24)).alloc (.cells #[.int .i64 k, .int .i64 x2, .int .i64 y2] 24)) (k := w.heap.size + 1 + 1) (by simp) ckZero 49)
  have hwr : IntKind.i64.wrap ((n1 : Int) + n2) = ((n1 + n2 : Nat) : Int) := (IntWalk.i64_in _ (by omega)).trans (by omega)
  clear z1 z2 z3 h1 h2 hb1 hb2
  unfold cellV cntFV rectV at *
  go_enter Try.func52, Try.ntmps52
  go_upto_region 1 with (fail)
  have hz : (#[.int .i64 0, .int .i64 0, .int .i64 0, .int .i64 0, .int .i64 0, .int .i64 0, .int .i64 0, .int .i64 0, .int .i64 0] : Array Value) = ckZero := rfl
  rw [hz]
  generalize ((w.alloc (.cells #[.int .i64 k, .int .i64 x1, .int .i64 y1] 24)).alloc (.cells #[.int .i64 k, .int .i64 x2, .int .i64 y2] 24)).alloc (.cells ckZero 49) = w1 at *
  go_cut [9, 10] (fun s9 s10 wx => ∃ p q, s9 = .pointer (some ⟨p, 0, none⟩) ∧ s10 = .pointer (some ⟨q, 0, none⟩) ∧ w.heap.size + 1 + 1 < p ∧ w.heap.size + 1 + 1 < q ∧ p ≠ q ∧ Blk wx p (ckArr b1 k x1 y1 0 n1) 49 ∧ Blk wx q (ckArr b2 k x2 y2 0 n2) 49 ∧ Blk wx w.heap.size #[.int .i64 k, .int .i64 x1, .int .i64 y1] 24 ∧ Blk wx (w.heap.size + 1 + 1) ckZero 49 ∧ Below w.heap.size w wx)
  case first =>
    have X := hid (Blk.drew K0.out)
    have M := hid (Blk.drew M0.out)
    have C := hid (Blk.drew C0.out)
    have bel := hid (Q0.out.drew)
    refine wp_region_noPanic ?_
    refine wp_region_held_drew (S := (fun w' => w'.rangeAt w.heap.size 0 (#[.int .i64 k, .int .i64 x1, .int .i64 y1] : Array Value).toList ∧ w'.rangeAt (w.heap.size + 1) 0 (#[.int .i64 k, .int .i64 x2, .int .i64 y2] : Array Value).toList)) (by kernel_rfl) (⟨X.out.rngt, M.out.rngt⟩) (fun hHeld => ?_)
    generalize w1.drew = W0 at *
    refine wpAnyH_take (i := 0) (oi := _) (v := .agg #[.int .i64 k, .int .i64 x1, .int .i64 y1]) rfl (by kernel_rfl) (by kernel_rfl) (by kernel_rfl) (fun _ _ _ h => h) (yieldsIf_load_mid (by rfl) 24 (.tmp 4) rfl w.heap.size 0 rfl (#[.int .i64 k, .int .i64 x1, .int .i64 y1] : Array Value).toList _ (fun _ h => h.1) Try.underlying24 rfl (by kernel_rfl)) (by assumption) ?_
    try simp only [Array.reduceGetElem, Act.put, List.setIfInBounds_toArray, List.set_cons_zero, List.set_cons_succ]
    refine wpAnyH_take (i := 1) (oi := _) (v := .func (.func 10) #[.pointer (some ⟨yb, 0, none⟩)] #[]) rfl (by kernel_rfl) (by kernel_rfl) (by kernel_rfl) (fun _ _ _ h => h) (Or.inl ⟨by rfl, fun w hSw => by go_simp⟩) (by assumption) ?_
    try simp only [Array.reduceGetElem, Act.put, List.setIfInBounds_toArray, List.set_cons_zero, List.set_cons_succ]
    refine wpAnyH_take (i := 3) (oi := _) (v := .agg #[.int .i64 k, .int .i64 x2, .int .i64 y2]) rfl (by kernel_rfl) (by kernel_rfl) (by kernel_rfl) (fun _ _ _ h => h) (yieldsIf_load_mid (by rfl) 24 (.tmp 5) rfl (w.heap.size + 1) 0 rfl (#[.int .i64 k, .int .i64 x2, .int .i64 y2] : Array Value).toList _ (fun _ h => h.2) Try.underlying24 rfl (by kernel_rfl)) (by assumption) ?_
    try simp only [Array.reduceGetElem, Act.put, List.setIfInBounds_toArray, List.set_cons_zero, List.set_cons_succ]
    refine wpAnyH_take (i := 4) (oi := _) (v := .func (.func 10) #[.pointer (some ⟨yb, 0, none⟩)] #[]) rfl (by kernel_rfl) (by kernel_rfl) (by kernel_rfl) (fun _ _ _ h => h) (Or.inl ⟨by rfl, fun w hSw => by go_simp⟩) (by assumption) ?_
    try simp only [Array.reduceGetElem, Act.put, List.setIfInBounds_toArray, List.set_cons_zero, List.set_cons_succ]
    refine wpAnyH_ready (rs := [2, 6, 7]) (by kernel_rfl) (by simp) ?_
    refine AllReadyH.cons (o := _) rfl (fun K hK => ?_) ?_
    · dsimp only [Array.reduceGetElem] at hK ⊢
      go_simp
      refine (ho1.out _ bel.out).mono ?_
      rintro en v1 ⟨rfl, hb⟩
      have X' := hid (X.out.ext hb)
      have M' := hid (M.out.ext hb)
      have C' := hid (C.out.ext hb)
      have bel' := hid (bthen bel.out hb)
      clear X
      have X := X'
      clear X'
      clear M
      have M := M'
      clear M'
      clear C
      have C := C'
      clear C'
      clear bel hb
      have bel := bel'
      clear bel'
      go_wp2_with fail
      refine hK.out _ _ ?_ (fun hHeld => ?_)
      · exact ⟨X.out.rngt, M.out.rngt⟩
      clear hK K
      try simp only [Array.reduceGetElem, Act.put, List.setIfInBounds_toArray, List.set_cons_zero, List.set_cons_succ]
      refine wpAnyH_ready (rs := [5, 6, 7]) (by kernel_rfl) (by simp) ?_
      refine AllReadyH.cons (o := _) rfl (fun K hK => ?_) ?_
      · dsimp only [Array.reduceGetElem] at hK ⊢
        go_simp
        refine (ho2.out _ bel.out).mono ?_
        rintro en v2 ⟨rfl, hb⟩
        have X' := hid (X.out.ext hb)
        have M' := hid (M.out.ext hb)
        have C' := hid (C.out.ext hb)
        have bel' := hid (bthen bel.out hb)
        clear X
        have X := X'
        clear X'
        clear M
        have M := M'
        clear M'
        clear C
        have C := C'
        clear C'
        clear bel hb
        have bel := bel'
        clear bel'
        go_wp2_with fail
        refine hK.out _ _ ?_ (fun hHeld => ?_)
        · exact ⟨X.out.rngt, M.out.rngt⟩
        clear hK K
        try simp only [Array.reduceGetElem, Act.put, List.setIfInBounds_toArray, List.set_cons_zero, List.set_cons_succ]
        refine wpAnyH_ready (rs := [6, 7]) (by kernel_rfl) (by simp) ?_
        refine AllReadyH.cons (o := _) rfl (fun K hK => ?_) ?_
        · dsimp only [Array.reduceGetElem] at hK ⊢
          go_simp
          have zz := balloc v2 (.cells ckZero 49)
          have X' := hid (X.out.ext zz)
          have M' := hid (M.out.ext zz)
          have C' := hid (C.out.ext zz)
          have bel' := hid (bthen bel.out zz)
          have A := hid (Blk.new v2 ckZero 49)
          have ltA_X := X.out.lt
          have ltA_M := M.out.lt
          have ltA_C := C.out.lt
          have geA := bel.out.size
          clear zz
          clear X
          have X := X'
          clear X'
          clear M
          have M := M'
          clear M'
          clear C
          have C := C'
          clear C'
          clear bel
          have bel := bel'
          clear bel'
          generalize v2.alloc (.cells ckZero 49) = W3 at *
          generalize v2.heap.size = pa at *
          refine hK.out _ _ ?_ (fun hHeld => ?_)
          · exact ⟨X.out.rngt, M.out.rngt⟩
          clear hK K
          try simp only [Array.reduceGetElem, Act.put, List.setIfInBounds_toArray, List.set_cons_zero, List.set_cons_succ]
          refine wpAnyH_ready (rs := [7]) (by kernel_rfl) (by simp) ?_
          refine AllReadyH.cons (o := _) rfl (fun K hK => ?_) ?_
          · dsimp only [Array.reduceGetElem] at hK ⊢
            go_simp
            have zz := balloc W3 (.cells ckZero 49)
            have X' := hid (X.out.ext zz)
            have M' := hid (M.out.ext zz)
            have C' := hid (C.out.ext zz)
            have A' := hid (A.out.ext zz)
            have bel' := hid (bthen bel.out zz)
            have B := hid (Blk.new W3 ckZero 49)
            have ltB_X := X.out.lt
            have ltB_M := M.out.lt
            have ltB_C := C.out.lt
            have ltB_A := A.out.lt
            have geB := bel.out.size
            clear zz
            clear X
            have X := X'
            clear X'
            clear M
            have M := M'
            clear M'
            clear C
            have C := C'
            clear C'
            clear A
            have A := A'
            clear A'
            clear bel
            have bel := bel'
            clear bel'
            generalize W3.alloc (.cells ckZero 49) = W4 at *
            generalize W3.heap.size = pb at *
            refine hK.out _ _ ?_ (fun hHeld => ?_)
            · exact ⟨X.out.rngt, M.out.rngt⟩
            clear hK K
            try simp only [Array.reduceGetElem, Act.put, List.setIfInBounds_toArray, List.set_cons_zero, List.set_cons_succ]
            refine wpAnyH_ready (rs := [8]) (by kernel_rfl) (by simp) ?_
            refine AllReadyH.cons (o := _) rfl (fun K hK => ?_) ?_
            · dsimp only [Array.reduceGetElem] at hK ⊢
              rw [if_pos (by rfl)]
              refine wp_store_row 49 (.tmp 9) (.tmp 13) rfl pa (ckArr b1 k x1 y1 0 n1) rfl rfl 49 _ A.out (by kernel_rfl) rfl (ckArr_one _ _ _ _ _ _) ?_
              have X' := hid (X.out.setRowOther (k := pa) (cs' := ckArr b1 k x1 y1 0 n1) (by omega))
              have M' := hid (M.out.setRowOther (k := pa) (cs' := ckArr b1 k x1 y1 0 n1) (by omega))
              have C' := hid (C.out.setRowOther (k := pa) (cs' := ckArr b1 k x1 y1 0 n1) (by omega))
              have A' := hid (A.out.setRow (ckArr b1 k x1 y1 0 n1))
              have B' := hid (B.out.setRowOther (k := pa) (cs' := ckArr b1 k x1 y1 0 n1) (by omega))
              have bel' := hid (below_setRow bel.out geA (ckArr b1 k x1 y1 0 n1))
              clear X
              have X := X'
              clear X'
              clear M
              have M := M'
              clear M'
              clear C
              have C := C'
              clear C'
              clear A
              have A := A'
              clear A'
              clear B
              have B := B'
              clear B'
              clear bel
              have bel := bel'
              clear bel'
              generalize W4.setRow pa (ckArr b1 k x1 y1 0 n1) = W5 at *
              refine hK.out _ _ ?_ (fun hHeld => ?_)
              · exact ⟨X.out.rngt, M.out.rngt⟩
              clear hK K
              try simp only [Act.put]
              refine wpAnyH_ready (rs := [9]) (by kernel_rfl) (by simp) ?_
              refine AllReadyH.cons (o := _) rfl (fun K hK => ?_) ?_
              · dsimp only [Array.reduceGetElem] at hK ⊢
                rw [if_pos (by rfl)]
                refine wp_store_row 49 (.tmp 10) (.tmp 16) rfl pb (ckArr b2 k x2 y2 0 n2) rfl rfl 49 _ B.out (by kernel_rfl) rfl (ckArr_one _ _ _ _ _ _) ?_
                have X' := hid (X.out.setRowOther (k := pb) (cs' := ckArr b2 k x2 y2 0 n2) (by omega))
                have M' := hid (M.out.setRowOther (k := pb) (cs' := ckArr b2 k x2 y2 0 n2) (by omega))
                have C' := hid (C.out.setRowOther (k := pb) (cs' := ckArr b2 k x2 y2 0 n2) (by omega))
                have A' := hid (A.out.setRowOther (k := pb) (cs' := ckArr b2 k x2 y2 0 n2) (by omega))
                have B' := hid (B.out.setRow (ckArr b2 k x2 y2 0 n2))
                have bel' := hid (below_setRow bel.out geB (ckArr b2 k x2 y2 0 n2))
                clear X
                have X := X'
                clear X'
                clear M
                have M := M'
                clear M'
                clear C
                have C := C'
                clear C'
                clear A
                have A := A'
                clear A'
                clear B
                have B := B'
                clear B'
                clear bel
                have bel := bel'
                clear bel'
                generalize W5.setRow pb (ckArr b2 k x2 y2 0 n2) = W6 at *
                refine hK.out _ _ ?_ (fun hHeld => ?_)
                · exact ⟨X.out.rngt, M.out.rngt⟩
                clear hK K
                try simp only [Act.put]
                refine wpAnyH_done (by kernel_rfl) ?_ _
                refine NoPanic.normal ?_
                go_wp2_with fail
                go_meet
                case rel => exact ⟨pa, pb, rfl, rfl, by omega, by omega, by omega, A.out, B.out, X.out, C.out, bel.out⟩
              exact AllReadyH.nil
            exact AllReadyH.nil
          exact AllReadyH.nil
        refine AllReadyH.cons (o := _) rfl (fun K hK => ?_) ?_
        · dsimp only [Array.reduceGetElem] at hK ⊢
          go_simp
          have zz := balloc v2 (.cells ckZero 49)
          have X' := hid (X.out.ext zz)
          have M' := hid (M.out.ext zz)
          have C' := hid (C.out.ext zz)
          have bel' := hid (bthen bel.out zz)
          have B := hid (Blk.new v2 ckZero 49)
          have ltB_X := X.out.lt
          have ltB_M := M.out.lt
          have ltB_C := C.out.lt
          have geB := bel.out.size
          clear zz
          clear X
          have X := X'
          clear X'
          clear M
          have M := M'
          clear M'
          clear C
          have C := C'
          clear C'
          clear bel
          have bel := bel'
          clear bel'
          generalize v2.alloc (.cells ckZero 49) = W3 at *
          generalize v2.heap.size = pb at *
          refine hK.out _ _ ?_ (fun hHeld => ?_)
          · exact ⟨X.out.rngt, M.out.rngt⟩
          clear hK K
          try simp only [Array.reduceGetElem, Act.put, List.setIfInBounds_toArray, List.set_cons_zero, List.set_cons_succ]
          refine wpAnyH_ready (rs := [6]) (by kernel_rfl) (by simp) ?_
          refine AllReadyH.cons (o := _) rfl (fun K hK => ?_) ?_
          · dsimp only [Array.reduceGetElem] at hK ⊢
            go_simp
            have zz := balloc W3 (.cells ckZero 49)
            have X' := hid (X.out.ext zz)
            have M' := hid (M.out.ext zz)
            have C' := hid (C.out.ext zz)
            have B' := hid (B.out.ext zz)
            have bel' := hid (bthen bel.out zz)
            have A := hid (Blk.new W3 ckZero 49)
            have ltA_X := X.out.lt
            have ltA_M := M.out.lt
            have ltA_C := C.out.lt
            have ltA_B := B.out.lt
            have geA := bel.out.size
            clear zz
            clear X
            have X := X'
            clear X'
            clear M
            have M := M'
            clear M'
            clear C
            have C := C'
            clear C'
            clear B
            have B := B'
            clear B'
            clear bel
            have bel := bel'
            clear bel'
            generalize W3.alloc (.cells ckZero 49) = W4 at *
            generalize W3.heap.size = pa at *
            refine hK.out _ _ ?_ (fun hHeld => ?_)
            · exact ⟨X.out.rngt, M.out.rngt⟩
            clear hK K
            try simp only [Array.reduceGetElem, Act.put, List.setIfInBounds_toArray, List.set_cons_zero, List.set_cons_succ]
            refine wpAnyH_ready (rs := [8]) (by kernel_rfl) (by simp) ?_
            refine AllReadyH.cons (o := _) rfl (fun K hK => ?_) ?_
            · dsimp only [Array.reduceGetElem] at hK ⊢
              rw [if_pos (by rfl)]
              refine wp_store_row 49 (.tmp 9) (.tmp 13) rfl pa (ckArr b1 k x1 y1 0 n1) rfl rfl 49 _ A.out (by kernel_rfl) rfl (ckArr_one _ _ _ _ _ _) ?_
              have X' := hid (X.out.setRowOther (k := pa) (cs' := ckArr b1 k x1 y1 0 n1) (by omega))
              have M' := hid (M.out.setRowOther (k := pa) (cs' := ckArr b1 k x1 y1 0 n1) (by omega))
              have C' := hid (C.out.setRowOther (k := pa) (cs' := ckArr b1 k x1 y1 0 n1) (by omega))
              have B' := hid (B.out.setRowOther (k := pa) (cs' := ckArr b1 k x1 y1 0 n1) (by omega))
              have A' := hid (A.out.setRow (ckArr b1 k x1 y1 0 n1))
              have bel' := hid (below_setRow bel.out geA (ckArr b1 k x1 y1 0 n1))
              clear X
              have X := X'
              clear X'
              clear M
              have M := M'
              clear M'
              clear C
              have C := C'
              clear C'
              clear B
              have B := B'
              clear B'
              clear A
              have A := A'
              clear A'
              clear bel
              have bel := bel'
              clear bel'
              generalize W4.setRow pa (ckArr b1 k x1 y1 0 n1) = W5 at *
              refine hK.out _ _ ?_ (fun hHeld => ?_)
              · exact ⟨X.out.rngt, M.out.rngt⟩
              clear hK K
              try simp only [Act.put]
              refine wpAnyH_ready (rs := [9]) (by kernel_rfl) (by simp) ?_
              refine AllReadyH.cons (o := _) rfl (fun K hK => ?_) ?_
              · dsimp only [Array.reduceGetElem] at hK ⊢
                rw [if_pos (by rfl)]
                refine wp_store_row 49 (.tmp 10) (.tmp 16) rfl pb (ckArr b2 k x2 y2 0 n2) rfl rfl 49 _ B.out (by kernel_rfl) rfl (ckArr_one _ _ _ _ _ _) ?_
                have X' := hid (X.out.setRowOther (k := pb) (cs' := ckArr b2 k x2 y2 0 n2) (by omega))
                have M' := hid (M.out.setRowOther (k := pb) (cs' := ckArr b2 k x2 y2 0 n2) (by omega))
                have C' := hid (C.out.setRowOther (k := pb) (cs' := ckArr b2 k x2 y2 0 n2) (by omega))
                have B' := hid (B.out.setRow (ckArr b2 k x2 y2 0 n2))
                have A' := hid (A.out.setRowOther (k := pb) (cs' := ckArr b2 k x2 y2 0 n2) (by omega))
                have bel' := hid (below_setRow bel.out geB (ckArr b2 k x2 y2 0 n2))
                clear X
                have X := X'
                clear X'
                clear M
                have M := M'
                clear M'
                clear C
                have C := C'
                clear C'
                clear B
                have B := B'
                clear B'
                clear A
                have A := A'
                clear A'
                clear bel
                have bel := bel'
                clear bel'
                generalize W5.setRow pb (ckArr b2 k x2 y2 0 n2) = W6 at *
                refine hK.out _ _ ?_ (fun hHeld => ?_)
                · exact ⟨X.out.rngt, M.out.rngt⟩
                clear hK K
                try simp only [Act.put]
                refine wpAnyH_done (by kernel_rfl) ?_ _
                refine NoPanic.normal ?_
                go_wp2_with fail
                go_meet
                case rel => exact ⟨pa, pb, rfl, rfl, by omega, by omega, by omega, A.out, B.out, X.out, C.out, bel.out⟩
              exact AllReadyH.nil
            exact AllReadyH.nil
          exact AllReadyH.nil
        exact AllReadyH.nil
      refine AllReadyH.cons (o := _) rfl (fun K hK => ?_) ?_
      · dsimp only [Array.reduceGetElem] at hK ⊢
        go_simp
        have zz := balloc v1 (.cells ckZero 49)
        have X' := hid (X.out.ext zz)
        have M' := hid (M.out.ext zz)
        have C' := hid (C.out.ext zz)
        have bel' := hid (bthen bel.out zz)
        have A := hid (Blk.new v1 ckZero 49)
        have ltA_X := X.out.lt
        have ltA_M := M.out.lt
        have ltA_C := C.out.lt
        have geA := bel.out.size
        clear zz
        clear X
        have X := X'
        clear X'
        clear M
        have M := M'
        clear M'
        clear C
        have C := C'
        clear C'
        clear bel
        have bel := bel'
        clear bel'
        generalize v1.alloc (.cells ckZero 49) = W2 at *
        generalize v1.heap.size = pa at *
        refine hK.out _ _ ?_ (fun hHeld => ?_)
        · exact ⟨X.out.rngt, M.out.rngt⟩
        clear hK K
        try simp only [Array.reduceGetElem, Act.put, List.setIfInBounds_toArray, List.set_cons_zero, List.set_cons_succ]
        refine wpAnyH_ready (rs := [5, 7]) (by kernel_rfl) (by simp) ?_
        refine AllReadyH.cons (o := _) rfl (fun K hK => ?_) ?_
        · dsimp only [Array.reduceGetElem] at hK ⊢
          go_simp
          refine (ho2.out _ bel.out).mono ?_
          rintro en v2 ⟨rfl, hb⟩
          have X' := hid (X.out.ext hb)
          have M' := hid (M.out.ext hb)
          have C' := hid (C.out.ext hb)
          have A' := hid (A.out.ext hb)
          have bel' := hid (bthen bel.out hb)
          clear X
          have X := X'
          clear X'
          clear M
          have M := M'
          clear M'
          clear C
          have C := C'
          clear C'
          clear A
          have A := A'
          clear A'
          clear bel hb
          have bel := bel'
          clear bel'
          go_wp2_with fail
          refine hK.out _ _ ?_ (fun hHeld => ?_)
          · exact ⟨X.out.rngt, M.out.rngt⟩
          clear hK K
          try simp only [Array.reduceGetElem, Act.put, List.setIfInBounds_toArray, List.set_cons_zero, List.set_cons_succ]
          refine wpAnyH_ready (rs := [7]) (by kernel_rfl) (by simp) ?_
          refine AllReadyH.cons (o := _) rfl (fun K hK => ?_) ?_
          · dsimp only [Array.reduceGetElem] at hK ⊢
            go_simp
            have zz := balloc v2 (.cells ckZero 49)
            have X' := hid (X.out.ext zz)
            have M' := hid (M.out.ext zz)
            have C' := hid (C.out.ext zz)
            have A' := hid (A.out.ext zz)
            have bel' := hid (bthen bel.out zz)
            have B := hid (Blk.new v2 ckZero 49)
            have ltB_X := X.out.lt
            have ltB_M := M.out.lt
            have ltB_C := C.out.lt
            have ltB_A := A.out.lt
            have geB := bel.out.size
            clear zz
            clear X
            have X := X'
            clear X'
            clear M
            have M := M'
            clear M'
            clear C
            have C := C'
            clear C'
            clear A
            have A := A'
            clear A'
            clear bel
            have bel := bel'
            clear bel'
            generalize v2.alloc (.cells ckZero 49) = W4 at *
            generalize v2.heap.size = pb at *
            refine hK.out _ _ ?_ (fun hHeld => ?_)
            · exact ⟨X.out.rngt, M.out.rngt⟩
            clear hK K
            try simp only [Array.reduceGetElem, Act.put, List.setIfInBounds_toArray, List.set_cons_zero, List.set_cons_succ]
            refine wpAnyH_ready (rs := [8]) (by kernel_rfl) (by simp) ?_
            refine AllReadyH.cons (o := _) rfl (fun K hK => ?_) ?_
            · dsimp only [Array.reduceGetElem] at hK ⊢
              rw [if_pos (by rfl)]
              refine wp_store_row 49 (.tmp 9) (.tmp 13) rfl pa (ckArr b1 k x1 y1 0 n1) rfl rfl 49 _ A.out (by kernel_rfl) rfl (ckArr_one _ _ _ _ _ _) ?_
              have X' := hid (X.out.setRowOther (k := pa) (cs' := ckArr b1 k x1 y1 0 n1) (by omega))
              have M' := hid (M.out.setRowOther (k := pa) (cs' := ckArr b1 k x1 y1 0 n1) (by omega))
              have C' := hid (C.out.setRowOther (k := pa) (cs' := ckArr b1 k x1 y1 0 n1) (by omega))
              have A' := hid (A.out.setRow (ckArr b1 k x1 y1 0 n1))
              have B' := hid (B.out.setRowOther (k := pa) (cs' := ckArr b1 k x1 y1 0 n1) (by omega))
              have bel' := hid (below_setRow bel.out geA (ckArr b1 k x1 y1 0 n1))
              clear X
              have X := X'
              clear X'
              clear M
              have M := M'
              clear M'
              clear C
              have C := C'
              clear C'
              clear A
              have A := A'
              clear A'
              clear B
              have B := B'
              clear B'
              clear bel
              have bel := bel'
              clear bel'
              generalize W4.setRow pa (ckArr b1 k x1 y1 0 n1) = W5 at *
              refine hK.out _ _ ?_ (fun hHeld => ?_)
              · exact ⟨X.out.rngt, M.out.rngt⟩
              clear hK K
              try simp only [Act.put]
              refine wpAnyH_ready (rs := [9]) (by kernel_rfl) (by simp) ?_
              refine AllReadyH.cons (o := _) rfl (fun K hK => ?_) ?_
              · dsimp only [Array.reduceGetElem] at hK ⊢
                rw [if_pos (by rfl)]
                refine wp_store_row 49 (.tmp 10) (.tmp 16) rfl pb (ckArr b2 k x2 y2 0 n2) rfl rfl 49 _ B.out (by kernel_rfl) rfl (ckArr_one _ _ _ _ _ _) ?_
                have X' := hid (X.out.setRowOther (k := pb) (cs' := ckArr b2 k x2 y2 0 n2) (by omega))
                have M' := hid (M.out.setRowOther (k := pb) (cs' := ckArr b2 k x2 y2 0 n2) (by omega))
                have C' := hid (C.out.setRowOther (k := pb) (cs' := ckArr b2 k x2 y2 0 n2) (by omega))
                have A' := hid (A.out.setRowOther (k := pb) (cs' := ckArr b2 k x2 y2 0 n2) (by omega))
                have B' := hid (B.out.setRow (ckArr b2 k x2 y2 0 n2))
                have bel' := hid (below_setRow bel.out geB (ckArr b2 k x2 y2 0 n2))
                clear X
                have X := X'
                clear X'
                clear M
                have M := M'
                clear M'
                clear C
                have C := C'
                clear C'
                clear A
                have A := A'
                clear A'
                clear B
                have B := B'
                clear B'
                clear bel
                have bel := bel'
                clear bel'
                generalize W5.setRow pb (ckArr b2 k x2 y2 0 n2) = W6 at *
                refine hK.out _ _ ?_ (fun hHeld => ?_)
                · exact ⟨X.out.rngt, M.out.rngt⟩
                clear hK K
                try simp only [Act.put]
                refine wpAnyH_done (by kernel_rfl) ?_ _
                refine NoPanic.normal ?_
                go_wp2_with fail
                go_meet
                case rel => exact ⟨pa, pb, rfl, rfl, by omega, by omega, by omega, A.out, B.out, X.out, C.out, bel.out⟩
              exact AllReadyH.nil
            exact AllReadyH.nil
          exact AllReadyH.nil
        refine AllReadyH.cons (o := _) rfl (fun K hK => ?_) ?_
        · dsimp only [Array.reduceGetElem] at hK ⊢
          go_simp
          have zz := balloc W2 (.cells ckZero 49)
          have X' := hid (X.out.ext zz)
          have M' := hid (M.out.ext zz)
          have C' := hid (C.out.ext zz)
          have A' := hid (A.out.ext zz)
          have bel' := hid (bthen bel.out zz)
          have B := hid (Blk.new W2 ckZero 49)
          have ltB_X := X.out.lt
          have ltB_M := M.out.lt
          have ltB_C := C.out.lt
          have ltB_A := A.out.lt
          have geB := bel.out.size
          clear zz
          clear X
          have X := X'
          clear X'
          clear M
          have M := M'
          clear M'
          clear C
          have C := C'
          clear C'
          clear A
          have A := A'
          clear A'
          clear bel
          have bel := bel'
          clear bel'
          generalize W2.alloc (.cells ckZero 49) = W3 at *
          generalize W2.heap.size = pb at *
          refine hK.out _ _ ?_ (fun hHeld => ?_)
          · exact ⟨X.out.rngt, M.out.rngt⟩
          clear hK K
          try simp only [Array.reduceGetElem, Act.put, List.setIfInBounds_toArray, List.set_cons_zero, List.set_cons_succ]
          refine wpAnyH_ready (rs := [5]) (by kernel_rfl) (by simp) ?_
          refine AllReadyH.cons (o := _) rfl (fun K hK => ?_) ?_
          · dsimp only [Array.reduceGetElem] at hK ⊢
            go_simp
            refine (ho2.out _ bel.out).mono ?_
            rintro en v2 ⟨rfl, hb⟩
            have X' := hid (X.out.ext hb)
            have M' := hid (M.out.ext hb)
            have C' := hid (C.out.ext hb)
            have A' := hid (A.out.ext hb)
            have B' := hid (B.out.ext hb)
            have bel' := hid (bthen bel.out hb)
            clear X
            have X := X'
            clear X'
            clear M
            have M := M'
            clear M'
            clear C
            have C := C'
            clear C'
            clear A
            have A := A'
            clear A'
            clear B
            have B := B'
            clear B'
            clear bel hb
            have bel := bel'
            clear bel'
            go_wp2_with fail
            refine hK.out _ _ ?_ (fun hHeld => ?_)
            · exact ⟨X.out.rngt, M.out.rngt⟩
            clear hK K
            try simp only [Array.reduceGetElem, Act.put, List.setIfInBounds_toArray, List.set_cons_zero, List.set_cons_succ]
            refine wpAnyH_ready (rs := [8]) (by kernel_rfl) (by simp) ?_
            refine AllReadyH.cons (o := _) rfl (fun K hK => ?_) ?_
            · dsimp only [Array.reduceGetElem] at hK ⊢
              rw [if_pos (by rfl)]
              refine wp_store_row 49 (.tmp 9) (.tmp 13) rfl pa (ckArr b1 k x1 y1 0 n1) rfl rfl 49 _ A.out (by kernel_rfl) rfl (ckArr_one _ _ _ _ _ _) ?_
              have X' := hid (X.out.setRowOther (k := pa) (cs' := ckArr b1 k x1 y1 0 n1) (by omega))
              have M' := hid (M.out.setRowOther (k := pa) (cs' := ckArr b1 k x1 y1 0 n1) (by omega))
              have C' := hid (C.out.setRowOther (k := pa) (cs' := ckArr b1 k x1 y1 0 n1) (by omega))
              have A' := hid (A.out.setRow (ckArr b1 k x1 y1 0 n1))
              have B' := hid (B.out.setRowOther (k := pa) (cs' := ckArr b1 k x1 y1 0 n1) (by omega))
              have bel' := hid (below_setRow bel.out geA (ckArr b1 k x1 y1 0 n1))
              clear X
              have X := X'
              clear X'
              clear M
              have M := M'
              clear M'
              clear C
              have C := C'
              clear C'
              clear A
              have A := A'
              clear A'
              clear B
              have B := B'
              clear B'
              clear bel
              have bel := bel'
              clear bel'
              generalize v2.setRow pa (ckArr b1 k x1 y1 0 n1) = W5 at *
              refine hK.out _ _ ?_ (fun hHeld => ?_)
              · exact ⟨X.out.rngt, M.out.rngt⟩
              clear hK K
              try simp only [Act.put]
              refine wpAnyH_ready (rs := [9]) (by kernel_rfl) (by simp) ?_
              refine AllReadyH.cons (o := _) rfl (fun K hK => ?_) ?_
              · dsimp only [Array.reduceGetElem] at hK ⊢
                rw [if_pos (by rfl)]
                refine wp_store_row 49 (.tmp 10) (.tmp 16) rfl pb (ckArr b2 k x2 y2 0 n2) rfl rfl 49 _ B.out (by kernel_rfl) rfl (ckArr_one _ _ _ _ _ _) ?_
                have X' := hid (X.out.setRowOther (k := pb) (cs' := ckArr b2 k x2 y2 0 n2) (by omega))
                have M' := hid (M.out.setRowOther (k := pb) (cs' := ckArr b2 k x2 y2 0 n2) (by omega))
                have C' := hid (C.out.setRowOther (k := pb) (cs' := ckArr b2 k x2 y2 0 n2) (by omega))
                have A' := hid (A.out.setRowOther (k := pb) (cs' := ckArr b2 k x2 y2 0 n2) (by omega))
                have B' := hid (B.out.setRow (ckArr b2 k x2 y2 0 n2))
                have bel' := hid (below_setRow bel.out geB (ckArr b2 k x2 y2 0 n2))
                clear X
                have X := X'
                clear X'
                clear M
                have M := M'
                clear M'
                clear C
                have C := C'
                clear C'
                clear A
                have A := A'
                clear A'
                clear B
                have B := B'
                clear B'
                clear bel
                have bel := bel'
                clear bel'
                generalize W5.setRow pb (ckArr b2 k x2 y2 0 n2) = W6 at *
                refine hK.out _ _ ?_ (fun hHeld => ?_)
                · exact ⟨X.out.rngt, M.out.rngt⟩
                clear hK K
                try simp only [Act.put]
                refine wpAnyH_done (by kernel_rfl) ?_ _
                refine NoPanic.normal ?_
                go_wp2_with fail
                go_meet
                case rel => exact ⟨pa, pb, rfl, rfl, by omega, by omega, by omega, A.out, B.out, X.out, C.out, bel.out⟩
              exact AllReadyH.nil
            exact AllReadyH.nil
          exact AllReadyH.nil
        exact AllReadyH.nil
      refine AllReadyH.cons (o := _) rfl (fun K hK => ?_) ?_
      · dsimp only [Array.reduceGetElem] at hK ⊢
        go_simp
        have zz := balloc v1 (.cells ckZero 49)
        have X' := hid (X.out.ext zz)
        have M' := hid (M.out.ext zz)
        have C' := hid (C.out.ext zz)
        have bel' := hid (bthen bel.out zz)
        have B := hid (Blk.new v1 ckZero 49)
        have ltB_X := X.out.lt
        have ltB_M := M.out.lt
        have ltB_C := C.out.lt
        have geB := bel.out.size
        clear zz
        clear X
        have X := X'
        clear X'
        clear M
        have M := M'
        clear M'
        clear C
        have C := C'
        clear C'
        clear bel
        have bel := bel'
        clear bel'
        generalize v1.alloc (.cells ckZero 49) = W2 at *
        generalize v1.heap.size = pb at *
        refine hK.out _ _ ?_ (fun hHeld => ?_)
        · exact ⟨X.out.rngt, M.out.rngt⟩
        clear hK K
        try simp only [Array.reduceGetElem, Act.put, List.setIfInBounds_toArray, List.set_cons_zero, List.set_cons_succ]
        refine wpAnyH_ready (rs := [5, 6]) (by kernel_rfl) (by simp) ?_
        refine AllReadyH.cons (o := _) rfl (fun K hK => ?_) ?_
        · dsimp only [Array.reduceGetElem] at hK ⊢
          go_simp
          refine (ho2.out _ bel.out).mono ?_
          rintro en v2 ⟨rfl, hb⟩
          have X' := hid (X.out.ext hb)
          have M' := hid (M.out.ext hb)
          have C' := hid (C.out.ext hb)
          have B' := hid (B.out.ext hb)
          have bel' := hid (bthen bel.out hb)
          clear X
          have X := X'
          clear X'
          clear M
          have M := M'
          clear M'
          clear C
          have C := C'
          clear C'
          clear B
          have B := B'
          clear B'
          clear bel hb
          have bel := bel'
          clear bel'
          go_wp2_with fail
          refine hK.out _ _ ?_ (fun hHeld => ?_)
          · exact ⟨X.out.rngt, M.out.rngt⟩
          clear hK K
          try simp only [Array.reduceGetElem, Act.put, List.setIfInBounds_toArray, List.set_cons_zero, List.set_cons_succ]
          refine wpAnyH_ready (rs := [6]) (by kernel_rfl) (by simp) ?_
          refine AllReadyH.cons (o := _) rfl (fun K hK => ?_) ?_
          · dsimp only [Array.reduceGetElem] at hK ⊢
            go_simp
            have zz := balloc v2 (.cells ckZero 49)
            have X' := hid (X.out.ext zz)
            have M' := hid (M.out.ext zz)
            have C' := hid (C.out.ext zz)
            have B' := hid (B.out.ext zz)
            have bel' := hid (bthen bel.out zz)
            have A := hid (Blk.new v2 ckZero 49)
            have ltA_X := X.out.lt
            have ltA_M := M.out.lt
            have ltA_C := C.out.lt
            have ltA_B := B.out.lt
            have geA := bel.out.size
            clear zz
            clear X
            have X := X'
            clear X'
            clear M
            have M := M'
            clear M'
            clear C
            have C := C'
            clear C'
            clear B
            have B := B'
            clear B'
            clear bel
            have bel := bel'
            clear bel'
            generalize v2.alloc (.cells ckZero 49) = W4 at *
            generalize v2.heap.size = pa at *
            refine hK.out _ _ ?_ (fun hHeld => ?_)
            · exact ⟨X.out.rngt, M.out.rngt⟩
            clear hK K
            try simp only [Array.reduceGetElem, Act.put, List.setIfInBounds_toArray, List.set_cons_zero, List.set_cons_succ]
            refine wpAnyH_ready (rs := [8]) (by kernel_rfl) (by simp) ?_
            refine AllReadyH.cons (o := _) rfl (fun K hK => ?_) ?_
            · dsimp only [Array.reduceGetElem] at hK ⊢
              rw [if_pos (by rfl)]
              refine wp_store_row 49 (.tmp 9) (.tmp 13) rfl pa (ckArr b1 k x1 y1 0 n1) rfl rfl 49 _ A.out (by kernel_rfl) rfl (ckArr_one _ _ _ _ _ _) ?_
              have X' := hid (X.out.setRowOther (k := pa) (cs' := ckArr b1 k x1 y1 0 n1) (by omega))
              have M' := hid (M.out.setRowOther (k := pa) (cs' := ckArr b1 k x1 y1 0 n1) (by omega))
              have C' := hid (C.out.setRowOther (k := pa) (cs' := ckArr b1 k x1 y1 0 n1) (by omega))
              have B' := hid (B.out.setRowOther (k := pa) (cs' := ckArr b1 k x1 y1 0 n1) (by omega))
              have A' := hid (A.out.setRow (ckArr b1 k x1 y1 0 n1))
              have bel' := hid (below_setRow bel.out geA (ckArr b1 k x1 y1 0 n1))
              clear X
              have X := X'
              clear X'
              clear M
              have M := M'
              clear M'
              clear C
              have C := C'
              clear C'
              clear B
              have B := B'
              clear B'
              clear A
              have A := A'
              clear A'
              clear bel
              have bel := bel'
              clear bel'
              generalize W4.setRow pa (ckArr b1 k x1 y1 0 n1) = W5 at *
              refine hK.out _ _ ?_ (fun hHeld => ?_)
              · exact ⟨X.out.rngt, M.out.rngt⟩
              clear hK K
              try simp only [Act.put]
              refine wpAnyH_ready (rs := [9]) (by kernel_rfl) (by simp) ?_
              refine AllReadyH.cons (o := _) rfl (fun K hK => ?_) ?_
              · dsimp only [Array.reduceGetElem] at hK ⊢
                rw [if_pos (by rfl)]
                refine wp_store_row 49 (.tmp 10) (.tmp 16) rfl pb (ckArr b2 k x2 y2 0 n2) rfl rfl 49 _ B.out (by kernel_rfl) rfl (ckArr_one _ _ _ _ _ _) ?_
                have X' := hid (X.out.setRowOther (k := pb) (cs' := ckArr b2 k x2 y2 0 n2) (by omega))
                have M' := hid (M.out.setRowOther (k := pb) (cs' := ckArr b2 k x2 y2 0 n2) (by omega))
                have C' := hid (C.out.setRowOther (k := pb) (cs' := ckArr b2 k x2 y2 0 n2) (by omega))
                have B' := hid (B.out.setRow (ckArr b2 k x2 y2 0 n2))
                have A' := hid (A.out.setRowOther (k := pb) (cs' := ckArr b2 k x2 y2 0 n2) (by omega))
                have bel' := hid (below_setRow bel.out geB (ckArr b2 k x2 y2 0 n2))
                clear X
                have X := X'
                clear X'
                clear M
                have M := M'
                clear M'
                clear C
                have C := C'
                clear C'
                clear B
                have B := B'
                clear B'
                clear A
                have A := A'
                clear A'
                clear bel
                have bel := bel'
                clear bel'
                generalize W5.setRow pb (ckArr b2 k x2 y2 0 n2) = W6 at *
                refine hK.out _ _ ?_ (fun hHeld => ?_)
                · exact ⟨X.out.rngt, M.out.rngt⟩
                clear hK K
                try simp only [Act.put]
                refine wpAnyH_done (by kernel_rfl) ?_ _
                refine NoPanic.normal ?_
                go_wp2_with fail
                go_meet
                case rel => exact ⟨pa, pb, rfl, rfl, by omega, by omega, by omega, A.out, B.out, X.out, C.out, bel.out⟩
              exact AllReadyH.nil
            exact AllReadyH.nil
          exact AllReadyH.nil
        refine AllReadyH.cons (o := _) rfl (fun K hK => ?_) ?_
        · dsimp only [Array.reduceGetElem] at hK ⊢
          go_simp
          have zz := balloc W2 (.cells ckZero 49)
          have X' := hid (X.out.ext zz)
          have M' := hid (M.out.ext zz)
          have C' := hid (C.out.ext zz)
          have B' := hid (B.out.ext zz)
          have bel' := hid (bthen bel.out zz)
          have A := hid (Blk.new W2 ckZero 49)
          have ltA_X := X.out.lt
          have ltA_M := M.out.lt
          have ltA_C := C.out.lt
          have ltA_B := B.out.lt
          have geA := bel.out.size
          clear zz
          clear X
          have X := X'
          clear X'
          clear M
          have M := M'
          clear M'
          clear C
          have C := C'
          clear C'
          clear B
          have B := B'
          clear B'
          clear bel
          have bel := bel'
          clear bel'
          generalize W2.alloc (.cells ckZero 49) = W3 at *
          generalize W2.heap.size = pa at *
          refine hK.out _ _ ?_ (fun hHeld => ?_)
          · exact ⟨X.out.rngt, M.out.rngt⟩
          clear hK K
          try simp only [Array.reduceGetElem, Act.put, List.setIfInBounds_toArray, List.set_cons_zero, List.set_cons_succ]
          refine wpAnyH_ready (rs := [5]) (by kernel_rfl) (by simp) ?_
          refine AllReadyH.cons (o := _) rfl (fun K hK => ?_) ?_
          · dsimp only [Array.reduceGetElem] at hK ⊢
            go_simp
            refine (ho2.out _ bel.out).mono ?_
            rintro en v2 ⟨rfl, hb⟩
            have X' := hid (X.out.ext hb)
            have M' := hid (M.out.ext hb)
            have C' := hid (C.out.ext hb)
            have B' := hid (B.out.ext hb)
            have A' := hid (A.out.ext hb)
            have bel' := hid (bthen bel.out hb)
            clear X
            have X := X'
            clear X'
            clear M
            have M := M'
            clear M'
            clear C
            have C := C'
            clear C'
            clear B
            have B := B'
            clear B'
            clear A
            have A := A'
            clear A'
            clear bel hb
            have bel := bel'
            clear bel'
            go_wp2_with fail
            refine hK.out _ _ ?_ (fun hHeld => ?_)
            · exact ⟨X.out.rngt, M.out.rngt⟩
            clear hK K
            try simp only [Array.reduceGetElem, Act.put, List.setIfInBounds_toArray, List.set_cons_zero, List.set_cons_succ]
            refine wpAnyH_ready (rs := [8]) (by kernel_rfl) (by simp) ?_
            refine AllReadyH.cons (o := _) rfl (fun K hK => ?_) ?_
            · dsimp only [Array.reduceGetElem] at hK ⊢
              rw [if_pos (by rfl)]
              refine wp_store_row 49 (.tmp 9) (.tmp 13) rfl pa (ckArr b1 k x1 y1 0 n1) rfl rfl 49 _ A.out (by kernel_rfl) rfl (ckArr_one _ _ _ _ _ _) ?_
              have X' := hid (X.out.setRowOther (k := pa) (cs' := ckArr b1 k x1 y1 0 n1) (by omega))
              have M' := hid (M.out.setRowOther (k := pa) (cs' := ckArr b1 k x1 y1 0 n1) (by omega))
              have C' := hid (C.out.setRowOther (k := pa) (cs' := ckArr b1 k x1 y1 0 n1) (by omega))
              have B' := hid (B.out.setRowOther (k := pa) (cs' := ckArr b1 k x1 y1 0 n1) (by omega))
              have A' := hid (A.out.setRow (ckArr b1 k x1 y1 0 n1))
              have bel' := hid (below_setRow bel.out geA (ckArr b1 k x1 y1 0 n1))
              clear X
              have X := X'
              clear X'
              clear M
              have M := M'
              clear M'
              clear C
              have C := C'
              clear C'
              clear B
              have B := B'
              clear B'
              clear A
              have A := A'
              clear A'
              clear bel
              have bel := bel'
              clear bel'
              generalize v2.setRow pa (ckArr b1 k x1 y1 0 n1) = W5 at *
              refine hK.out _ _ ?_ (fun hHeld => ?_)
              · exact ⟨X.out.rngt, M.out.rngt⟩
              clear hK K
              try simp only [Act.put]
              refine wpAnyH_ready (rs := [9]) (by kernel_rfl) (by simp) ?_
              refine AllReadyH.cons (o := _) rfl (fun K hK => ?_) ?_
              · dsimp only [Array.reduceGetElem] at hK ⊢
                rw [if_pos (by rfl)]
                refine wp_store_row 49 (.tmp 10) (.tmp 16) rfl pb (ckArr b2 k x2 y2 0 n2) rfl rfl 49 _ B.out (by kernel_rfl) rfl (ckArr_one _ _ _ _ _ _) ?_
                have X' := hid (X.out.setRowOther (k := pb) (cs' := ckArr b2 k x2 y2 0 n2) (by omega))
                have M' := hid (M.out.setRowOther (k := pb) (cs' := ckArr b2 k x2 y2 0 n2) (by omega))
                have C' := hid (C.out.setRowOther (k := pb) (cs' := ckArr b2 k x2 y2 0 n2) (by omega))
                have B' := hid (B.out.setRow (ckArr b2 k x2 y2 0 n2))
                have A' := hid (A.out.setRowOther (k := pb) (cs' := ckArr b2 k x2 y2 0 n2) (by omega))
                have bel' := hid (below_setRow bel.out geB (ckArr b2 k x2 y2 0 n2))
                clear X
                have X := X'
                clear X'
                clear M
                have M := M'
                clear M'
                clear C
                have C := C'
                clear C'
                clear B
                have B := B'
                clear B'
                clear A
                have A := A'
                clear A'
                clear bel
                have bel := bel'
                clear bel'
                generalize W5.setRow pb (ckArr b2 k x2 y2 0 n2) = W6 at *
                refine hK.out _ _ ?_ (fun hHeld => ?_)
                · exact ⟨X.out.rngt, M.out.rngt⟩
                clear hK K
                try simp only [Act.put]
                refine wpAnyH_done (by kernel_rfl) ?_ _
                refine NoPanic.normal ?_
                go_wp2_with fail
                go_meet
                case rel => exact ⟨pa, pb, rfl, rfl, by omega, by omega, by omega, A.out, B.out, X.out, C.out, bel.out⟩
              exact AllReadyH.nil
            exact AllReadyH.nil
          exact AllReadyH.nil
        exact AllReadyH.nil
      exact AllReadyH.nil
    refine AllReadyH.cons (o := _) rfl (fun K hK => ?_) ?_
    · dsimp only [Array.reduceGetElem] at hK ⊢
      go_simp
      have zz := balloc W0 (.cells ckZero 49)
      have X' := hid (X.out.ext zz)
      have M' := hid (M.out.ext zz)
      have C' := hid (C.out.ext zz)
      have bel' := hid (bthen bel.out zz)
      have A := hid (Blk.new W0 ckZero 49)
      have ltA_X := X.out.lt
      have ltA_M := M.out.lt
      have ltA_C := C.out.lt
      have geA := bel.out.size
      clear zz
      clear X
      have X := X'
      clear X'
      clear M
      have M := M'
      clear M'
      clear C
      have C := C'
      clear C'
      clear bel
      have bel := bel'
      clear bel'
      generalize W0.alloc (.cells ckZero 49) = W1 at *
      generalize W0.heap.size = pa at *
      refine hK.out _ _ ?_ (fun hHeld => ?_)
      · exact ⟨X.out.rngt, M.out.rngt⟩
      clear hK K
      try simp only [Array.reduceGetElem, Act.put, List.setIfInBounds_toArray, List.set_cons_zero, List.set_cons_succ]
      refine wpAnyH_ready (rs := [2, 7]) (by kernel_rfl) (by simp) ?_
      refine AllReadyH.cons (o := _) rfl (fun K hK => ?_) ?_
      · dsimp only [Array.reduceGetElem] at hK ⊢
        go_simp
        refine (ho1.out _ bel.out).mono ?_
        rintro en v1 ⟨rfl, hb⟩
        have X' := hid (X.out.ext hb)
        have M' := hid (M.out.ext hb)
        have C' := hid (C.out.ext hb)
        have A' := hid (A.out.ext hb)
        have bel' := hid (bthen bel.out hb)
        clear X
        have X := X'
        clear X'
        clear M
        have M := M'
        clear M'
        clear C
        have C := C'
        clear C'
        clear A
        have A := A'
        clear A'
        clear bel hb
        have bel := bel'
        clear bel'
        go_wp2_with fail
        refine hK.out _ _ ?_ (fun hHeld => ?_)
        · exact ⟨X.out.rngt, M.out.rngt⟩
        clear hK K
        try simp only [Array.reduceGetElem, Act.put, List.setIfInBounds_toArray, List.set_cons_zero, List.set_cons_succ]
        refine wpAnyH_ready (rs := [5, 7]) (by kernel_rfl) (by simp) ?_
        refine AllReadyH.cons (o := _) rfl (fun K hK => ?_) ?_
        · dsimp only [Array.reduceGetElem] at hK ⊢
          go_simp
          refine (ho2.out _ bel.out).mono ?_
          rintro en v2 ⟨rfl, hb⟩
          have X' := hid (X.out.ext hb)
          have M' := hid (M.out.ext hb)
          have C' := hid (C.out.ext hb)
          have A' := hid (A.out.ext hb)
          have bel' := hid (bthen bel.out hb)
          clear X
          have X := X'
          clear X'
          clear M
          have M := M'
          clear M'
          clear C
          have C := C'
          clear C'
          clear A
          have A := A'
          clear A'
          clear bel hb
          have bel := bel'
          clear bel'
          go_wp2_with fail
          refine hK.out _ _ ?_ (fun hHeld => ?_)
          · exact ⟨X.out.rngt, M.out.rngt⟩
          clear hK K
          try simp only [Array.reduceGetElem, Act.put, List.setIfInBounds_toArray, List.set_cons_zero, List.set_cons_succ]
          refine wpAnyH_ready (rs := [7]) (by kernel_rfl) (by simp) ?_
          refine AllReadyH.cons (o := _) rfl (fun K hK => ?_) ?_
          · dsimp only [Array.reduceGetElem] at hK ⊢
            go_simp
            have zz := balloc v2 (.cells ckZero 49)
            have X' := hid (X.out.ext zz)
            have M' := hid (M.out.ext zz)
            have C' := hid (C.out.ext zz)
            have A' := hid (A.out.ext zz)
            have bel' := hid (bthen bel.out zz)
            have B := hid (Blk.new v2 ckZero 49)
            have ltB_X := X.out.lt
            have ltB_M := M.out.lt
            have ltB_C := C.out.lt
            have ltB_A := A.out.lt
            have geB := bel.out.size
            clear zz
            clear X
            have X := X'
            clear X'
            clear M
            have M := M'
            clear M'
            clear C
            have C := C'
            clear C'
            clear A
            have A := A'
            clear A'
            clear bel
            have bel := bel'
            clear bel'
            generalize v2.alloc (.cells ckZero 49) = W4 at *
            generalize v2.heap.size = pb at *
            refine hK.out _ _ ?_ (fun hHeld => ?_)
            · exact ⟨X.out.rngt, M.out.rngt⟩
            clear hK K
            try simp only [Array.reduceGetElem, Act.put, List.setIfInBounds_toArray, List.set_cons_zero, List.set_cons_succ]
            refine wpAnyH_ready (rs := [8]) (by kernel_rfl) (by simp) ?_
            refine AllReadyH.cons (o := _) rfl (fun K hK => ?_) ?_
            · dsimp only [Array.reduceGetElem] at hK ⊢
              rw [if_pos (by rfl)]
              refine wp_store_row 49 (.tmp 9) (.tmp 13) rfl pa (ckArr b1 k x1 y1 0 n1) rfl rfl 49 _ A.out (by kernel_rfl) rfl (ckArr_one _ _ _ _ _ _) ?_
              have X' := hid (X.out.setRowOther (k := pa) (cs' := ckArr b1 k x1 y1 0 n1) (by omega))
              have M' := hid (M.out.setRowOther (k := pa) (cs' := ckArr b1 k x1 y1 0 n1) (by omega))
              have C' := hid (C.out.setRowOther (k := pa) (cs' := ckArr b1 k x1 y1 0 n1) (by omega))
              have A' := hid (A.out.setRow (ckArr b1 k x1 y1 0 n1))
              have B' := hid (B.out.setRowOther (k := pa) (cs' := ckArr b1 k x1 y1 0 n1) (by omega))
              have bel' := hid (below_setRow bel.out geA (ckArr b1 k x1 y1 0 n1))
              clear X
              have X := X'
              clear X'
              clear M
              have M := M'
              clear M'
              clear C
              have C := C'
              clear C'
              clear A
              have A := A'
              clear A'
              clear B
              have B := B'
              clear B'
              clear bel
              have bel := bel'
              clear bel'
              generalize W4.setRow pa (ckArr b1 k x1 y1 0 n1) = W5 at *
              refine hK.out _ _ ?_ (fun hHeld => ?_)
              · exact ⟨X.out.rngt, M.out.rngt⟩
              clear hK K
              try simp only [Act.put]
              refine wpAnyH_ready (rs := [9]) (by kernel_rfl) (by simp) ?_
              refine AllReadyH.cons (o := _) rfl (fun K hK => ?_) ?_
              · dsimp only [Array.reduceGetElem] at hK ⊢
                rw [if_pos (by rfl)]
                refine wp_store_row 49 (.tmp 10) (.tmp 16) rfl pb (ckArr b2 k x2 y2 0 n2) rfl rfl 49 _ B.out (by kernel_rfl) rfl (ckArr_one _ _ _ _ _ _) ?_
                have X' := hid (X.out.setRowOther (k := pb) (cs' := ckArr b2 k x2 y2 0 n2) (by omega))
                have M' := hid (M.out.setRowOther (k := pb) (cs' := ckArr b2 k x2 y2 0 n2) (by omega))
                have C' := hid (C.out.setRowOther (k := pb) (cs' := ckArr b2 k x2 y2 0 n2) (by omega))
                have A' := hid (A.out.setRowOther (k := pb) (cs' := ckArr b2 k x2 y2 0 n2) (by omega))
                have B' := hid (B.out.setRow (ckArr b2 k x2 y2 0 n2))
                have bel' := hid (below_setRow bel.out geB (ckArr b2 k x2 y2 0 n2))
                clear X
                have X := X'
                clear X'
                clear M
                have M := M'
                clear M'
                clear C
                have C := C'
                clear C'
                clear A
                have A := A'
                clear A'
                clear B
                have B := B'
                clear B'
                clear bel
                have bel := bel'
                clear bel'
                generalize W5.setRow pb (ckArr b2 k x2 y2 0 n2) = W6 at *
                refine hK.out _ _ ?_ (fun hHeld => ?_)
                · exact ⟨X.out.rngt, M.out.rngt⟩
                clear hK K
                try simp only [Act.put]
                refine wpAnyH_done (by kernel_rfl) ?_ _
                refine NoPanic.normal ?_
                go_wp2_with fail
                go_meet
                case rel => exact ⟨pa, pb, rfl, rfl, by omega, by omega, by omega, A.out, B.out, X.out, C.out, bel.out⟩
              exact AllReadyH.nil
            exact AllReadyH.nil
          exact AllReadyH.nil
        refine AllReadyH.cons (o := _) rfl (fun K hK => ?_) ?_
        · dsimp only [Array.reduceGetElem] at hK ⊢
          go_simp
          have zz := balloc v1 (.cells ckZero 49)
          have X' := hid (X.out.ext zz)
          have M' := hid (M.out.ext zz)
          have C' := hid (C.out.ext zz)
          have A' := hid (A.out.ext zz)
          have bel' := hid (bthen bel.out zz)
          have B := hid (Blk.new v1 ckZero 49)
          have ltB_X := X.out.lt
          have ltB_M := M.out.lt
          have ltB_C := C.out.lt
          have ltB_A := A.out.lt
          have geB := bel.out.size
          clear zz
          clear X
          have X := X'
          clear X'
          clear M
          have M := M'
          clear M'
          clear C
          have C := C'
          clear C'
          clear A
          have A := A'
          clear A'
          clear bel
          have bel := bel'
          clear bel'
          generalize v1.alloc (.cells ckZero 49) = W3 at *
          generalize v1.heap.size = pb at *
          refine hK.out _ _ ?_ (fun hHeld => ?_)
          · exact ⟨X.out.rngt, M.out.rngt⟩
          clear hK K
          try simp only [Array.reduceGetElem, Act.put, List.setIfInBounds_toArray, List.set_cons_zero, List.set_cons_succ]
          refine wpAnyH_ready (rs := [5]) (by kernel_rfl) (by simp) ?_
          refine AllReadyH.cons (o := _) rfl (fun K hK => ?_) ?_
          · dsimp only [Array.reduceGetElem] at hK ⊢
            go_simp
            refine (ho2.out _ bel.out).mono ?_
            rintro en v2 ⟨rfl, hb⟩
            have X' := hid (X.out.ext hb)
            have M' := hid (M.out.ext hb)
            have C' := hid (C.out.ext hb)
            have A' := hid (A.out.ext hb)
            have B' := hid (B.out.ext hb)
            have bel' := hid (bthen bel.out hb)
            clear X
            have X := X'
            clear X'
            clear M
            have M := M'
            clear M'
            clear C
            have C := C'
            clear C'
            clear A
            have A := A'
            clear A'
            clear B
            have B := B'
            clear B'
            clear bel hb
            have bel := bel'
            clear bel'
            go_wp2_with fail
            refine hK.out _ _ ?_ (fun hHeld => ?_)
            · exact ⟨X.out.rngt, M.out.rngt⟩
            clear hK K
            try simp only [Array.reduceGetElem, Act.put, List.setIfInBounds_toArray, List.set_cons_zero, List.set_cons_succ]
            refine wpAnyH_ready (rs := [8]) (by kernel_rfl) (by simp) ?_
            refine AllReadyH.cons (o := _) rfl (fun K hK => ?_) ?_
            · dsimp only [Array.reduceGetElem] at hK ⊢
              rw [if_pos (by rfl)]
              refine wp_store_row 49 (.tmp 9) (.tmp 13) rfl pa (ckArr b1 k x1 y1 0 n1) rfl rfl 49 _ A.out (by kernel_rfl) rfl (ckArr_one _ _ _ _ _ _) ?_
              have X' := hid (X.out.setRowOther (k := pa) (cs' := ckArr b1 k x1 y1 0 n1) (by omega))
              have M' := hid (M.out.setRowOther (k := pa) (cs' := ckArr b1 k x1 y1 0 n1) (by omega))
              have C' := hid (C.out.setRowOther (k := pa) (cs' := ckArr b1 k x1 y1 0 n1) (by omega))
              have A' := hid (A.out.setRow (ckArr b1 k x1 y1 0 n1))
              have B' := hid (B.out.setRowOther (k := pa) (cs' := ckArr b1 k x1 y1 0 n1) (by omega))
              have bel' := hid (below_setRow bel.out geA (ckArr b1 k x1 y1 0 n1))
              clear X
              have X := X'
              clear X'
              clear M
              have M := M'
              clear M'
              clear C
              have C := C'
              clear C'
              clear A
              have A := A'
              clear A'
              clear B
              have B := B'
              clear B'
              clear bel
              have bel := bel'
              clear bel'
              generalize v2.setRow pa (ckArr b1 k x1 y1 0 n1) = W5 at *
              refine hK.out _ _ ?_ (fun hHeld => ?_)
              · exact ⟨X.out.rngt, M.out.rngt⟩
              clear hK K
              try simp only [Act.put]
              refine wpAnyH_ready (rs := [9]) (by kernel_rfl) (by simp) ?_
              refine AllReadyH.cons (o := _) rfl (fun K hK => ?_) ?_
              · dsimp only [Array.reduceGetElem] at hK ⊢
                rw [if_pos (by rfl)]
                refine wp_store_row 49 (.tmp 10) (.tmp 16) rfl pb (ckArr b2 k x2 y2 0 n2) rfl rfl 49 _ B.out (by kernel_rfl) rfl (ckArr_one _ _ _ _ _ _) ?_
                have X' := hid (X.out.setRowOther (k := pb) (cs' := ckArr b2 k x2 y2 0 n2) (by omega))
                have M' := hid (M.out.setRowOther (k := pb) (cs' := ckArr b2 k x2 y2 0 n2) (by omega))
                have C' := hid (C.out.setRowOther (k := pb) (cs' := ckArr b2 k x2 y2 0 n2) (by omega))
                have A' := hid (A.out.setRowOther (k := pb) (cs' := ckArr b2 k x2 y2 0 n2) (by omega))
                have B' := hid (B.out.setRow (ckArr b2 k x2 y2 0 n2))
                have bel' := hid (below_setRow bel.out geB (ckArr b2 k x2 y2 0 n2))
                clear X
                have X := X'
                clear X'
                clear M
                have M := M'
                clear M'
                clear C
                have C := C'
                clear C'
                clear A
                have A := A'
                clear A'
                clear B
                have B := B'
                clear B'
                clear bel
                have bel := bel'
                clear bel'
                generalize W5.setRow pb (ckArr b2 k x2 y2 0 n2) = W6 at *
                refine hK.out _ _ ?_ (fun hHeld => ?_)
                · exact ⟨X.out.rngt, M.out.rngt⟩
                clear hK K
                try simp only [Act.put]
                refine wpAnyH_done (by kernel_rfl) ?_ _
                refine NoPanic.normal ?_
                go_wp2_with fail
                go_meet
                case rel => exact ⟨pa, pb, rfl, rfl, by omega, by omega, by omega, A.out, B.out, X.out, C.out, bel.out⟩
              exact AllReadyH.nil
            exact AllReadyH.nil
          exact AllReadyH.nil
        exact AllReadyH.nil
      refine AllReadyH.cons (o := _) rfl (fun K hK => ?_) ?_
      · dsimp only [Array.reduceGetElem] at hK ⊢
        go_simp
        have zz := balloc W1 (.cells ckZero 49)
        have X' := hid (X.out.ext zz)
        have M' := hid (M.out.ext zz)
        have C' := hid (C.out.ext zz)
        have A' := hid (A.out.ext zz)
        have bel' := hid (bthen bel.out zz)
        have B := hid (Blk.new W1 ckZero 49)
        have ltB_X := X.out.lt
        have ltB_M := M.out.lt
        have ltB_C := C.out.lt
        have ltB_A := A.out.lt
        have geB := bel.out.size
        clear zz
        clear X
        have X := X'
        clear X'
        clear M
        have M := M'
        clear M'
        clear C
        have C := C'
        clear C'
        clear A
        have A := A'
        clear A'
        clear bel
        have bel := bel'
        clear bel'
        generalize W1.alloc (.cells ckZero 49) = W2 at *
        generalize W1.heap.size = pb at *
        refine hK.out _ _ ?_ (fun hHeld => ?_)
        · exact ⟨X.out.rngt, M.out.rngt⟩
        clear hK K
        try simp only [Array.reduceGetElem, Act.put, List.setIfInBounds_toArray, List.set_cons_zero, List.set_cons_succ]
        refine wpAnyH_ready (rs := [2]) (by kernel_rfl) (by simp) ?_
        refine AllReadyH.cons (o := _) rfl (fun K hK => ?_) ?_
        · dsimp only [Array.reduceGetElem] at hK ⊢
          go_simp
          refine (ho1.out _ bel.out).mono ?_
          rintro en v1 ⟨rfl, hb⟩
          have X' := hid (X.out.ext hb)
          have M' := hid (M.out.ext hb)
          have C' := hid (C.out.ext hb)
          have A' := hid (A.out.ext hb)
          have B' := hid (B.out.ext hb)
          have bel' := hid (bthen bel.out hb)
          clear X
          have X := X'
          clear X'
          clear M
          have M := M'
          clear M'
          clear C
          have C := C'
          clear C'
          clear A
          have A := A'
          clear A'
          clear B
          have B := B'
          clear B'
          clear bel hb
          have bel := bel'
          clear bel'
          go_wp2_with fail
          refine hK.out _ _ ?_ (fun hHeld => ?_)
          · exact ⟨X.out.rngt, M.out.rngt⟩
          clear hK K
          try simp only [Array.reduceGetElem, Act.put, List.setIfInBounds_toArray, List.set_cons_zero, List.set_cons_succ]
          refine wpAnyH_ready (rs := [5]) (by kernel_rfl) (by simp) ?_
          refine AllReadyH.cons (o := _) rfl (fun K hK => ?_) ?_
          · dsimp only [Array.reduceGetElem] at hK ⊢
            go_simp
            refine (ho2.out _ bel.out).mono ?_
            rintro en v2 ⟨rfl, hb⟩
            have X' := hid (X.out.ext hb)
            have M' := hid (M.out.ext hb)
            have C' := hid (C.out.ext hb)
            have A' := hid (A.out.ext hb)
            have B' := hid (B.out.ext hb)
            have bel' := hid (bthen bel.out hb)
            clear X
            have X := X'
            clear X'
            clear M
            have M := M'
            clear M'
            clear C
            have C := C'
            clear C'
            clear A
            have A := A'
            clear A'
            clear B
            have B := B'
            clear B'
            clear bel hb
            have bel := bel'
            clear bel'
            go_wp2_with fail
            refine hK.out _ _ ?_ (fun hHeld => ?_)
            · exact ⟨X.out.rngt, M.out.rngt⟩
            clear hK K
            try simp only [Array.reduceGetElem, Act.put, List.setIfInBounds_toArray, List.set_cons_zero, List.set_cons_succ]
            refine wpAnyH_ready (rs := [8]) (by kernel_rfl) (by simp) ?_
            refine AllReadyH.cons (o := _) rfl (fun K hK => ?_) ?_
            · dsimp only [Array.reduceGetElem] at hK ⊢
              rw [if_pos (by rfl)]
              refine wp_store_row 49 (.tmp 9) (.tmp 13) rfl pa (ckArr b1 k x1 y1 0 n1) rfl rfl 49 _ A.out (by kernel_rfl) rfl (ckArr_one _ _ _ _ _ _) ?_
              have X' := hid (X.out.setRowOther (k := pa) (cs' := ckArr b1 k x1 y1 0 n1) (by omega))
              have M' := hid (M.out.setRowOther (k := pa) (cs' := ckArr b1 k x1 y1 0 n1) (by omega))
              have C' := hid (C.out.setRowOther (k := pa) (cs' := ckArr b1 k x1 y1 0 n1) (by omega))
              have A' := hid (A.out.setRow (ckArr b1 k x1 y1 0 n1))
              have B' := hid (B.out.setRowOther (k := pa) (cs' := ckArr b1 k x1 y1 0 n1) (by omega))
              have bel' := hid (below_setRow bel.out geA (ckArr b1 k x1 y1 0 n1))
              clear X
              have X := X'
              clear X'
              clear M
              have M := M'
              clear M'
              clear C
              have C := C'
              clear C'
              clear A
              have A := A'
              clear A'
              clear B
              have B := B'
              clear B'
              clear bel
              have bel := bel'
              clear bel'
              generalize v2.setRow pa (ckArr b1 k x1 y1 0 n1) = W5 at *
              refine hK.out _ _ ?_ (fun hHeld => ?_)
              · exact ⟨X.out.rngt, M.out.rngt⟩
              clear hK K
              try simp only [Act.put]
              refine wpAnyH_ready (rs := [9]) (by kernel_rfl) (by simp) ?_
              refine AllReadyH.cons (o := _) rfl (fun K hK => ?_) ?_
              · dsimp only [Array.reduceGetElem] at hK ⊢
                rw [if_pos (by rfl)]
                refine wp_store_row 49 (.tmp 10) (.tmp 16) rfl pb (ckArr b2 k x2 y2 0 n2) rfl rfl 49 _ B.out (by kernel_rfl) rfl (ckArr_one _ _ _ _ _ _) ?_
                have X' := hid (X.out.setRowOther (k := pb) (cs' := ckArr b2 k x2 y2 0 n2) (by omega))
                have M' := hid (M.out.setRowOther (k := pb) (cs' := ckArr b2 k x2 y2 0 n2) (by omega))
                have C' := hid (C.out.setRowOther (k := pb) (cs' := ckArr b2 k x2 y2 0 n2) (by omega))
                have A' := hid (A.out.setRowOther (k := pb) (cs' := ckArr b2 k x2 y2 0 n2) (by omega))
                have B' := hid (B.out.setRow (ckArr b2 k x2 y2 0 n2))
                have bel' := hid (below_setRow bel.out geB (ckArr b2 k x2 y2 0 n2))
                clear X
                have X := X'
                clear X'
                clear M
                have M := M'
                clear M'
                clear C
                have C := C'
                clear C'
                clear A
                have A := A'
                clear A'
                clear B
                have B := B'
                clear B'
                clear bel
                have bel := bel'
                clear bel'
                generalize W5.setRow pb (ckArr b2 k x2 y2 0 n2) = W6 at *
                refine hK.out _ _ ?_ (fun hHeld => ?_)
                · exact ⟨X.out.rngt, M.out.rngt⟩
                clear hK K
                try simp only [Act.put]
                refine wpAnyH_done (by kernel_rfl) ?_ _
                refine NoPanic.normal ?_
                go_wp2_with fail
                go_meet
                case rel => exact ⟨pa, pb, rfl, rfl, by omega, by omega, by omega, A.out, B.out, X.out, C.out, bel.out⟩
              exact AllReadyH.nil
            exact AllReadyH.nil
          exact AllReadyH.nil
        exact AllReadyH.nil
      exact AllReadyH.nil
    refine AllReadyH.cons (o := _) rfl (fun K hK => ?_) ?_
    · dsimp only [Array.reduceGetElem] at hK ⊢
      go_simp
      have zz := balloc W0 (.cells ckZero 49)
      have X' := hid (X.out.ext zz)
      have M' := hid (M.out.ext zz)
      have C' := hid (C.out.ext zz)
      have bel' := hid (bthen bel.out zz)
      have B := hid (Blk.new W0 ckZero 49)
      have ltB_X := X.out.lt
      have ltB_M := M.out.lt
      have ltB_C := C.out.lt
      have geB := bel.out.size
      clear zz
      clear X
      have X := X'
      clear X'
      clear M
      have M := M'
      clear M'
      clear C
      have C := C'
      clear C'
      clear bel
      have bel := bel'
      clear bel'
      generalize W0.alloc (.cells ckZero 49) = W1 at *
      generalize W0.heap.size = pb at *
      refine hK.out _ _ ?_ (fun hHeld => ?_)
      · exact ⟨X.out.rngt, M.out.rngt⟩
      clear hK K
      try simp only [Array.reduceGetElem, Act.put, List.setIfInBounds_toArray, List.set_cons_zero, List.set_cons_succ]
      refine wpAnyH_ready (rs := [2, 6]) (by kernel_rfl) (by simp) ?_
      refine AllReadyH.cons (o := _) rfl (fun K hK => ?_) ?_
      · dsimp only [Array.reduceGetElem] at hK ⊢
        go_simp
        refine (ho1.out _ bel.out).mono ?_
        rintro en v1 ⟨rfl, hb⟩
        have X' := hid (X.out.ext hb)
        have M' := hid (M.out.ext hb)
        have C' := hid (C.out.ext hb)
        have B' := hid (B.out.ext hb)
        have bel' := hid (bthen bel.out hb)
        clear X
        have X := X'
        clear X'
        clear M
        have M := M'
        clear M'
        clear C
        have C := C'
        clear C'
        clear B
        have B := B'
        clear B'
        clear bel hb
        have bel := bel'
        clear bel'
        go_wp2_with fail
        refine hK.out _ _ ?_ (fun hHeld => ?_)
        · exact ⟨X.out.rngt, M.out.rngt⟩
        clear hK K
        try simp only [Array.reduceGetElem, Act.put, List.setIfInBounds_toArray, List.set_cons_zero, List.set_cons_succ]
        refine wpAnyH_ready (rs := [5, 6]) (by kernel_rfl) (by simp) ?_
        refine AllReadyH.cons (o := _) rfl (fun K hK => ?_) ?_
        · dsimp only [Array.reduceGetElem] at hK ⊢
          go_simp
          refine (ho2.out _ bel.out).mono ?_
          rintro en v2 ⟨rfl, hb⟩
          have X' := hid (X.out.ext hb)
          have M' := hid (M.out.ext hb)
          have C' := hid (C.out.ext hb)
          have B' := hid (B.out.ext hb)
          have bel' := hid (bthen bel.out hb)
          clear X
          have X := X'
          clear X'
          clear M
          have M := M'
          clear M'
          clear C
          have C := C'
          clear C'
          clear B
          have B := B'
          clear B'
          clear bel hb
          have bel := bel'
          clear bel'
          go_wp2_with fail
          refine hK.out _ _ ?_ (fun hHeld => ?_)
          · exact ⟨X.out.rngt, M.out.rngt⟩
          clear hK K
          try simp only [Array.reduceGetElem, Act.put, List.setIfInBounds_toArray, List.set_cons_zero, List.set_cons_succ]
          refine wpAnyH_ready (rs := [6]) (by kernel_rfl) (by simp) ?_
          refine AllReadyH.cons (o := _) rfl (fun K hK => ?_) ?_
          · dsimp only [Array.reduceGetElem] at hK ⊢
            go_simp
            have zz := balloc v2 (.cells ckZero 49)
            have X' := hid (X.out.ext zz)
            have M' := hid (M.out.ext zz)
            have C' := hid (C.out.ext zz)
            have B' := hid (B.out.ext zz)
            have bel' := hid (bthen bel.out zz)
            have A := hid (Blk.new v2 ckZero 49)
            have ltA_X := X.out.lt
            have ltA_M := M.out.lt
            have ltA_C := C.out.lt
            have ltA_B := B.out.lt
            have geA := bel.out.size
            clear zz
            clear X
            have X := X'
            clear X'
            clear M
            have M := M'
            clear M'
            clear C
            have C := C'
            clear C'
            clear B
            have B := B'
            clear B'
            clear bel
            have bel := bel'
            clear bel'
            generalize v2.alloc (.cells ckZero 49) = W4 at *
            generalize v2.heap.size = pa at *
            refine hK.out _ _ ?_ (fun hHeld => ?_)
            · exact ⟨X.out.rngt, M.out.rngt⟩
            clear hK K
            try simp only [Array.reduceGetElem, Act.put, List.setIfInBounds_toArray, List.set_cons_zero, List.set_cons_succ]
            refine wpAnyH_ready (rs := [8]) (by kernel_rfl) (by simp) ?_
            refine AllReadyH.cons (o := _) rfl (fun K hK => ?_) ?_
            · dsimp only [Array.reduceGetElem] at hK ⊢
              rw [if_pos (by rfl)]
              refine wp_store_row 49 (.tmp 9) (.tmp 13) rfl pa (ckArr b1 k x1 y1 0 n1) rfl rfl 49 _ A.out (by kernel_rfl) rfl (ckArr_one _ _ _ _ _ _) ?_
              have X' := hid (X.out.setRowOther (k := pa) (cs' := ckArr b1 k x1 y1 0 n1) (by omega))
              have M' := hid (M.out.setRowOther (k := pa) (cs' := ckArr b1 k x1 y1 0 n1) (by omega))
              have C' := hid (C.out.setRowOther (k := pa) (cs' := ckArr b1 k x1 y1 0 n1) (by omega))
              have B' := hid (B.out.setRowOther (k := pa) (cs' := ckArr b1 k x1 y1 0 n1) (by omega))
              have A' := hid (A.out.setRow (ckArr b1 k x1 y1 0 n1))
              have bel' := hid (below_setRow bel.out geA (ckArr b1 k x1 y1 0 n1))
              clear X
              have X := X'
              clear X'
              clear M
              have M := M'
              clear M'
              clear C
              have C := C'
              clear C'
              clear B
              have B := B'
              clear B'
              clear A
              have A := A'
              clear A'
              clear bel
              have bel := bel'
              clear bel'
              generalize W4.setRow pa (ckArr b1 k x1 y1 0 n1) = W5 at *
              refine hK.out _ _ ?_ (fun hHeld => ?_)
              · exact ⟨X.out.rngt, M.out.rngt⟩
              clear hK K
              try simp only [Act.put]
              refine wpAnyH_ready (rs := [9]) (by kernel_rfl) (by simp) ?_
              refine AllReadyH.cons (o := _) rfl (fun K hK => ?_) ?_
              · dsimp only [Array.reduceGetElem] at hK ⊢
                rw [if_pos (by rfl)]
                refine wp_store_row 49 (.tmp 10) (.tmp 16) rfl pb (ckArr b2 k x2 y2 0 n2) rfl rfl 49 _ B.out (by kernel_rfl) rfl (ckArr_one _ _ _ _ _ _) ?_
                have X' := hid (X.out.setRowOther (k := pb) (cs' := ckArr b2 k x2 y2 0 n2) (by omega))
                have M' := hid (M.out.setRowOther (k := pb) (cs' := ckArr b2 k x2 y2 0 n2) (by omega))
                have C' := hid (C.out.setRowOther (k := pb) (cs' := ckArr b2 k x2 y2 0 n2) (by omega))
                have B' := hid (B.out.setRow (ckArr b2 k x2 y2 0 n2))
                have A' := hid (A.out.setRowOther (k := pb) (cs' := ckArr b2 k x2 y2 0 n2) (by omega))
                have bel' := hid (below_setRow bel.out geB (ckArr b2 k x2 y2 0 n2))
                clear X
                have X := X'
                clear X'
                clear M
                have M := M'
                clear M'
                clear C
                have C := C'
                clear C'
                clear B
                have B := B'
                clear B'
                clear A
                have A := A'
                clear A'
                clear bel
                have bel := bel'
                clear bel'
                generalize W5.setRow pb (ckArr b2 k x2 y2 0 n2) = W6 at *
                refine hK.out _ _ ?_ (fun hHeld => ?_)
                · exact ⟨X.out.rngt, M.out.rngt⟩
                clear hK K
                try simp only [Act.put]
                refine wpAnyH_done (by kernel_rfl) ?_ _
                refine NoPanic.normal ?_
                go_wp2_with fail
                go_meet
                case rel => exact ⟨pa, pb, rfl, rfl, by omega, by omega, by omega, A.out, B.out, X.out, C.out, bel.out⟩
              exact AllReadyH.nil
            exact AllReadyH.nil
          exact AllReadyH.nil
        refine AllReadyH.cons (o := _) rfl (fun K hK => ?_) ?_
        · dsimp only [Array.reduceGetElem] at hK ⊢
          go_simp
          have zz := balloc v1 (.cells ckZero 49)
          have X' := hid (X.out.ext zz)
          have M' := hid (M.out.ext zz)
          have C' := hid (C.out.ext zz)
          have B' := hid (B.out.ext zz)
          have bel' := hid (bthen bel.out zz)
          have A := hid (Blk.new v1 ckZero 49)
          have ltA_X := X.out.lt
          have ltA_M := M.out.lt
          have ltA_C := C.out.lt
          have ltA_B := B.out.lt
          have geA := bel.out.size
          clear zz
          clear X
          have X := X'
          clear X'
          clear M
          have M := M'
          clear M'
          clear C
          have C := C'
          clear C'
          clear B
          have B := B'
          clear B'
          clear bel
          have bel := bel'
          clear bel'
          generalize v1.alloc (.cells ckZero 49) = W3 at *
          generalize v1.heap.size = pa at *
          refine hK.out _ _ ?_ (fun hHeld => ?_)
          · exact ⟨X.out.rngt, M.out.rngt⟩
          clear hK K
          try simp only [Array.reduceGetElem, Act.put, List.setIfInBounds_toArray, List.set_cons_zero, List.set_cons_succ]
          refine wpAnyH_ready (rs := [5]) (by kernel_rfl) (by simp) ?_
          refine AllReadyH.cons (o := _) rfl (fun K hK => ?_) ?_
          · dsimp only [Array.reduceGetElem] at hK ⊢
            go_simp
            refine (ho2.out _ bel.out).mono ?_
            rintro en v2 ⟨rfl, hb⟩
            have X' := hid (X.out.ext hb)
            have M' := hid (M.out.ext hb)
            have C' := hid (C.out.ext hb)
            have B' := hid (B.out.ext hb)
            have A' := hid (A.out.ext hb)
            have bel' := hid (bthen bel.out hb)
            clear X
            have X := X'
            clear X'
            clear M
            have M := M'
            clear M'
            clear C
            have C := C'
            clear C'
            clear B
            have B := B'
            clear B'
            clear A
            have A := A'
            clear A'
            clear bel hb
            have bel := bel'
            clear bel'
            go_wp2_with fail
            refine hK.out _ _ ?_ (fun hHeld => ?_)
            · exact ⟨X.out.rngt, M.out.rngt⟩
            clear hK K
            try simp only [Array.reduceGetElem, Act.put, List.setIfInBounds_toArray, List.set_cons_zero, List.set_cons_succ]
            refine wpAnyH_ready (rs := [8]) (by kernel_rfl) (by simp) ?_
            refine AllReadyH.cons (o := _) rfl (fun K hK => ?_) ?_
            · dsimp only [Array.reduceGetElem] at hK ⊢
              rw [if_pos (by rfl)]
              refine wp_store_row 49 (.tmp 9) (.tmp 13) rfl pa (ckArr b1 k x1 y1 0 n1) rfl rfl 49 _ A.out (by kernel_rfl) rfl (ckArr_one _ _ _ _ _ _) ?_
              have X' := hid (X.out.setRowOther (k := pa) (cs' := ckArr b1 k x1 y1 0 n1) (by omega))
              have M' := hid (M.out.setRowOther (k := pa) (cs' := ckArr b1 k x1 y1 0 n1) (by omega))
              have C' := hid (C.out.setRowOther (k := pa) (cs' := ckArr b1 k x1 y1 0 n1) (by omega))
              have B' := hid (B.out.setRowOther (k := pa) (cs' := ckArr b1 k x1 y1 0 n1) (by omega))
              have A' := hid (A.out.setRow (ckArr b1 k x1 y1 0 n1))
              have bel' := hid (below_setRow bel.out geA (ckArr b1 k x1 y1 0 n1))
              clear X
              have X := X'
              clear X'
              clear M
              have M := M'
              clear M'
              clear C
              have C := C'
              clear C'
              clear B
              have B := B'
              clear B'
              clear A
              have A := A'
              clear A'
              clear bel
              have bel := bel'
              clear bel'
              generalize v2.setRow pa (ckArr b1 k x1 y1 0 n1) = W5 at *
              refine hK.out _ _ ?_ (fun hHeld => ?_)
              · exact ⟨X.out.rngt, M.out.rngt⟩
              clear hK K
              try simp only [Act.put]
              refine wpAnyH_ready (rs := [9]) (by kernel_rfl) (by simp) ?_
              refine AllReadyH.cons (o := _) rfl (fun K hK => ?_) ?_
              · dsimp only [Array.reduceGetElem] at hK ⊢
                rw [if_pos (by rfl)]
                refine wp_store_row 49 (.tmp 10) (.tmp 16) rfl pb (ckArr b2 k x2 y2 0 n2) rfl rfl 49 _ B.out (by kernel_rfl) rfl (ckArr_one _ _ _ _ _ _) ?_
                have X' := hid (X.out.setRowOther (k := pb) (cs' := ckArr b2 k x2 y2 0 n2) (by omega))
                have M' := hid (M.out.setRowOther (k := pb) (cs' := ckArr b2 k x2 y2 0 n2) (by omega))
                have C' := hid (C.out.setRowOther (k := pb) (cs' := ckArr b2 k x2 y2 0 n2) (by omega))
                have B' := hid (B.out.setRow (ckArr b2 k x2 y2 0 n2))
                have A' := hid (A.out.setRowOther (k := pb) (cs' := ckArr b2 k x2 y2 0 n2) (by omega))
                have bel' := hid (below_setRow bel.out geB (ckArr b2 k x2 y2 0 n2))
                clear X
                have X := X'
                clear X'
                clear M
                have M := M'
                clear M'
                clear C
                have C := C'
                clear C'
                clear B
                have B := B'
                clear B'
                clear A
                have A := A'
                clear A'
                clear bel
                have bel := bel'
                clear bel'
                generalize W5.setRow pb (ckArr b2 k x2 y2 0 n2) = W6 at *
                refine hK.out _ _ ?_ (fun hHeld => ?_)
                · exact ⟨X.out.rngt, M.out.rngt⟩
                clear hK K
                try simp only [Act.put]
                refine wpAnyH_done (by kernel_rfl) ?_ _
                refine NoPanic.normal ?_
                go_wp2_with fail
                go_meet
                case rel => exact ⟨pa, pb, rfl, rfl, by omega, by omega, by omega, A.out, B.out, X.out, C.out, bel.out⟩
              exact AllReadyH.nil
            exact AllReadyH.nil
          exact AllReadyH.nil
        exact AllReadyH.nil
      refine AllReadyH.cons (o := _) rfl (fun K hK => ?_) ?_
      · dsimp only [Array.reduceGetElem] at hK ⊢
        go_simp
        have zz := balloc W1 (.cells ckZero 49)
        have X' := hid (X.out.ext zz)
        have M' := hid (M.out.ext zz)
        have C' := hid (C.out.ext zz)
        have B' := hid (B.out.ext zz)
        have bel' := hid (bthen bel.out zz)
        have A := hid (Blk.new W1 ckZero 49)
        have ltA_X := X.out.lt
        have ltA_M := M.out.lt
        have ltA_C := C.out.lt
        have ltA_B := B.out.lt
        have geA := bel.out.size
        clear zz
        clear X
        have X := X'
        clear X'
        clear M
        have M := M'
        clear M'
        clear C
        have C := C'
        clear C'
        clear B
        have B := B'
        clear B'
        clear bel
        have bel := bel'
        clear bel'
        generalize W1.alloc (.cells ckZero 49) = W2 at *
        generalize W1.heap.size = pa at *
        refine hK.out _ _ ?_ (fun hHeld => ?_)
        · exact ⟨X.out.rngt, M.out.rngt⟩
        clear hK K
        try simp only [Array.reduceGetElem, Act.put, List.setIfInBounds_toArray, List.set_cons_zero, List.set_cons_succ]
        refine wpAnyH_ready (rs := [2]) (by kernel_rfl) (by simp) ?_
        refine AllReadyH.cons (o := _) rfl (fun K hK => ?_) ?_
        · dsimp only [Array.reduceGetElem] at hK ⊢
          go_simp
          refine (ho1.out _ bel.out).mono ?_
          rintro en v1 ⟨rfl, hb⟩
          have X' := hid (X.out.ext hb)
          have M' := hid (M.out.ext hb)
          have C' := hid (C.out.ext hb)
          have B' := hid (B.out.ext hb)
          have A' := hid (A.out.ext hb)
          have bel' := hid (bthen bel.out hb)
          clear X
          have X := X'
          clear X'
          clear M
          have M := M'
          clear M'
          clear C
          have C := C'
          clear C'
          clear B
          have B := B'
          clear B'
          clear A
          have A := A'
          clear A'
          clear bel hb
          have bel := bel'
          clear bel'
          go_wp2_with fail
          refine hK.out _ _ ?_ (fun hHeld => ?_)
          · exact ⟨X.out.rngt, M.out.rngt⟩
          clear hK K
          try simp only [Array.reduceGetElem, Act.put, List.setIfInBounds_toArray, List.set_cons_zero, List.set_cons_succ]
          refine wpAnyH_ready (rs := [5]) (by kernel_rfl) (by simp) ?_
          refine AllReadyH.cons (o := _) rfl (fun K hK => ?_) ?_
          · dsimp only [Array.reduceGetElem] at hK ⊢
            go_simp
            refine (ho2.out _ bel.out).mono ?_
            rintro en v2 ⟨rfl, hb⟩
            have X' := hid (X.out.ext hb)
            have M' := hid (M.out.ext hb)
            have C' := hid (C.out.ext hb)
            have B' := hid (B.out.ext hb)
            have A' := hid (A.out.ext hb)
            have bel' := hid (bthen bel.out hb)
            clear X
            have X := X'
            clear X'
            clear M
            have M := M'
            clear M'
            clear C
            have C := C'
            clear C'
            clear B
            have B := B'
            clear B'
            clear A
            have A := A'
            clear A'
            clear bel hb
            have bel := bel'
            clear bel'
            go_wp2_with fail
            refine hK.out _ _ ?_ (fun hHeld => ?_)
            · exact ⟨X.out.rngt, M.out.rngt⟩
            clear hK K
            try simp only [Array.reduceGetElem, Act.put, List.setIfInBounds_toArray, List.set_cons_zero, List.set_cons_succ]
            refine wpAnyH_ready (rs := [8]) (by kernel_rfl) (by simp) ?_
            refine AllReadyH.cons (o := _) rfl (fun K hK => ?_) ?_
            · dsimp only [Array.reduceGetElem] at hK ⊢
              rw [if_pos (by rfl)]
              refine wp_store_row 49 (.tmp 9) (.tmp 13) rfl pa (ckArr b1 k x1 y1 0 n1) rfl rfl 49 _ A.out (by kernel_rfl) rfl (ckArr_one _ _ _ _ _ _) ?_
              have X' := hid (X.out.setRowOther (k := pa) (cs' := ckArr b1 k x1 y1 0 n1) (by omega))
              have M' := hid (M.out.setRowOther (k := pa) (cs' := ckArr b1 k x1 y1 0 n1) (by omega))
              have C' := hid (C.out.setRowOther (k := pa) (cs' := ckArr b1 k x1 y1 0 n1) (by omega))
              have B' := hid (B.out.setRowOther (k := pa) (cs' := ckArr b1 k x1 y1 0 n1) (by omega))
              have A' := hid (A.out.setRow (ckArr b1 k x1 y1 0 n1))
              have bel' := hid (below_setRow bel.out geA (ckArr b1 k x1 y1 0 n1))
              clear X
              have X := X'
              clear X'
              clear M
              have M := M'
              clear M'
              clear C
              have C := C'
              clear C'
              clear B
              have B := B'
              clear B'
              clear A
              have A := A'
              clear A'
              clear bel
              have bel := bel'
              clear bel'
              generalize v2.setRow pa (ckArr b1 k x1 y1 0 n1) = W5 at *
              refine hK.out _ _ ?_ (fun hHeld => ?_)
              · exact ⟨X.out.rngt, M.out.rngt⟩
              clear hK K
              try simp only [Act.put]
              refine wpAnyH_ready (rs := [9]) (by kernel_rfl) (by simp) ?_
              refine AllReadyH.cons (o := _) rfl (fun K hK => ?_) ?_
              · dsimp only [Array.reduceGetElem] at hK ⊢
                rw [if_pos (by rfl)]
                refine wp_store_row 49 (.tmp 10) (.tmp 16) rfl pb (ckArr b2 k x2 y2 0 n2) rfl rfl 49 _ B.out (by kernel_rfl) rfl (ckArr_one _ _ _ _ _ _) ?_
                have X' := hid (X.out.setRowOther (k := pb) (cs' := ckArr b2 k x2 y2 0 n2) (by omega))
                have M' := hid (M.out.setRowOther (k := pb) (cs' := ckArr b2 k x2 y2 0 n2) (by omega))
                have C' := hid (C.out.setRowOther (k := pb) (cs' := ckArr b2 k x2 y2 0 n2) (by omega))
                have B' := hid (B.out.setRow (ckArr b2 k x2 y2 0 n2))
                have A' := hid (A.out.setRowOther (k := pb) (cs' := ckArr b2 k x2 y2 0 n2) (by omega))
                have bel' := hid (below_setRow bel.out geB (ckArr b2 k x2 y2 0 n2))
                clear X
                have X := X'
                clear X'
                clear M
                have M := M'
                clear M'
                clear C
                have C := C'
                clear C'
                clear B
                have B := B'
                clear B'
                clear A
                have A := A'
                clear A'
                clear bel
                have bel := bel'
                clear bel'
                generalize W5.setRow pb (ckArr b2 k x2 y2 0 n2) = W6 at *
                refine hK.out _ _ ?_ (fun hHeld => ?_)
                · exact ⟨X.out.rngt, M.out.rngt⟩
                clear hK K
                try simp only [Act.put]
                refine wpAnyH_done (by kernel_rfl) ?_ _
                refine NoPanic.normal ?_
                go_wp2_with fail
                go_meet
                case rel => exact ⟨pa, pb, rfl, rfl, by omega, by omega, by omega, A.out, B.out, X.out, C.out, bel.out⟩
              exact AllReadyH.nil
            exact AllReadyH.nil
          exact AllReadyH.nil
        exact AllReadyH.nil
      exact AllReadyH.nil
    exact AllReadyH.nil
  case rest =>
  obtain ⟨p, q, rfl, rfl, hp, hq, hpq, hA, hB, hK, hC, hQ⟩ := hcut
  have A3 := hid hA
  have B3 := hid hB
  have K3 := hid hK
  have C3 := hid hC
  have Q3 := hid hQ
  have hqs := hid (show w.heap.size ≤ wc.heap.size by have := hQ.size; omega)
  clear hA hB hK hC hQ K0 M0 C0 Q0 hz
  unfold ckArr ckZero hullOf at *
  have F0 : wc.cell? ⟨p, 0, none⟩ = some (.int .i64 b1.x0) ∧ wc.cell? ⟨p, 1, none⟩ = some (.int .i64 b1.y0) ∧ wc.cell? ⟨p, 2, none⟩ = some (.int .i64 b1.x1) ∧ wc.cell? ⟨p, 3, none⟩ = some (.int .i64 b1.y1) ∧ wc.cell? ⟨p, 8, none⟩ = some (.int .i64 (n1 : Nat)) ∧ wc.cell? ⟨q, 0, none⟩ = some (.int .i64 b2.x0) ∧ wc.cell? ⟨q, 1, none⟩ = some (.int .i64 b2.y0) ∧ wc.cell? ⟨q, 2, none⟩ = some (.int .i64 b2.x1) ∧ wc.cell? ⟨q, 3, none⟩ = some (.int .i64 b2.y1) ∧ wc.cell? ⟨q, 8, none⟩ = some (.int .i64 (n2 : Nat)) ∧ wc.cell? ⟨w.heap.size, 0, none⟩ = some (.int .i64 k) ∧ wc.cell? ⟨w.heap.size, 1, none⟩ = some (.int .i64 x1) ∧ wc.cell? ⟨w.heap.size, 2, none⟩ = some (.int .i64 y1) := ⟨A3.out.cell 0 rfl, A3.out.cell 1 rfl, A3.out.cell 2 rfl, A3.out.cell 3 rfl, A3.out.cell 8 rfl, B3.out.cell 0 rfl, B3.out.cell 1 rfl, B3.out.cell 2 rfl, B3.out.cell 3 rfl, B3.out.cell 8 rfl, K3.out.cell 0 rfl, K3.out.cell 1 rfl, K3.out.cell 2 rfl⟩
  have F1 : wc.drew.cell? ⟨p, 0, none⟩ = some (.int .i64 b1.x0) ∧ wc.drew.cell? ⟨p, 1, none⟩ = some (.int .i64 b1.y0) ∧ wc.drew.cell? ⟨p, 2, none⟩ = some (.int .i64 b1.x1) ∧ wc.drew.cell? ⟨p, 3, none⟩ = some (.int .i64 b1.y1) ∧ wc.drew.cell? ⟨p, 8, none⟩ = some (.int .i64 (n1 : Nat)) ∧ wc.drew.cell? ⟨q, 0, none⟩ = some (.int .i64 b2.x0) ∧ wc.drew.cell? ⟨q, 1, none⟩ = some (.int .i64 b2.y0) ∧ wc.drew.cell? ⟨q, 2, none⟩ = some (.int .i64 b2.x1) ∧ wc.drew.cell? ⟨q, 3, none⟩ = some (.int .i64 b2.y1) ∧ wc.drew.cell? ⟨q, 8, none⟩ = some (.int .i64 (n2 : Nat)) ∧ wc.drew.cell? ⟨w.heap.size, 0, none⟩ = some (.int .i64 k) ∧ wc.drew.cell? ⟨w.heap.size, 1, none⟩ = some (.int .i64 x1) ∧ wc.drew.cell? ⟨w.heap.size, 2, none⟩ = some (.int .i64 y1) := ⟨A3.out.cell 0 rfl, A3.out.cell 1 rfl, A3.out.cell 2 rfl, A3.out.cell 3 rfl, A3.out.cell 8 rfl, B3.out.cell 0 rfl, B3.out.cell 1 rfl, B3.out.cell 2 rfl, B3.out.cell 3 rfl, B3.out.cell 8 rfl, K3.out.cell 0 rfl, K3.out.cell 1 rfl, K3.out.cell 2 rfl⟩
  have m1 : w.heap.size + 1 + 1 ≠ p := by omega
  have m2 : p ≠ w.heap.size + 1 + 1 := by omega
  have m3 : w.heap.size + 1 + 1 ≠ q := by omega
  have m4 : q ≠ w.heap.size + 1 + 1 := by omega
  have m5 : w.heap.size ≠ w.heap.size + 1 + 1 := by omega
  have m6 : w.heap.size + 1 + 1 ≠ w.heap.size := by omega
  go_upto_region 2 with (fail)
  go_region_held3 (fun w' => w'.cell? ⟨p, 0, none⟩ = some (.int .i64 b1.x0) ∧ w'.cell? ⟨p, 1, none⟩ = some (.int .i64 b1.y0) ∧ w'.cell? ⟨p, 2, none⟩ = some (.int .i64 b1.x1) ∧ w'.cell? ⟨p, 3, none⟩ = some (.int .i64 b1.y1) ∧ w'.cell? ⟨p, 8, none⟩ = some (.int .i64 (n1 : Nat)) ∧ w'.cell? ⟨q, 0, none⟩ = some (.int .i64 b2.x0) ∧ w'.cell? ⟨q, 1, none⟩ = some (.int .i64 b2.y0) ∧ w'.cell? ⟨q, 2, none⟩ = some (.int .i64 b2.x1) ∧ w'.cell? ⟨q, 3, none⟩ = some (.int .i64 b2.y1) ∧ w'.cell? ⟨q, 8, none⟩ = some (.int .i64 (n2 : Nat)) ∧ w'.cell? ⟨w.heap.size, 0, none⟩ = some (.int .i64 k) ∧ w'.cell? ⟨w.heap.size, 1, none⟩ = some (.int .i64 x1) ∧ w'.cell? ⟨w.heap.size, 2, none⟩ = some (.int .i64 y1)) (first | with_reducible assumption | go_keep) (first
    | ((go_at_call 60
        with_reducible refine (hhu.out _).mono ?_
        rintro en w6 ⟨rfl, hb⟩
        have A6 := hid ((Blk.drew A3.out).ext hb)
        have B6 := hid ((Blk.drew B3.out).ext hb)
        have K6 := hid ((Blk.drew K3.out).ext hb)
        have C6 := hid ((Blk.drew C3.out).ext hb)
        have Q6 := hid (Q3.out.drew.trans (hb.mono hqs.out))
        have F6 : w6.cell? ⟨p, 0, none⟩ = some (.int .i64 b1.x0) ∧ w6.cell? ⟨p, 1, none⟩ = some (.int .i64 b1.y0) ∧ w6.cell? ⟨p, 2, none⟩ = some (.int .i64 b1.x1) ∧ w6.cell? ⟨p, 3, none⟩ = some (.int .i64 b1.y1) ∧ w6.cell? ⟨p, 8, none⟩ = some (.int .i64 (n1 : Nat)) ∧ w6.cell? ⟨q, 0, none⟩ = some (.int .i64 b2.x0) ∧ w6.cell? ⟨q, 1, none⟩ = some (.int .i64 b2.y0) ∧ w6.cell? ⟨q, 2, none⟩ = some (.int .i64 b2.x1) ∧ w6.cell? ⟨q, 3, none⟩ = some (.int .i64 b2.y1) ∧ w6.cell? ⟨q, 8, none⟩ = some (.int .i64 (n2 : Nat)) ∧ w6.cell? ⟨w.heap.size, 0, none⟩ = some (.int .i64 k) ∧ w6.cell? ⟨w.heap.size, 1, none⟩ = some (.int .i64 x1) ∧ w6.cell? ⟨w.heap.size, 2, none⟩ = some (.int .i64 y1) := ⟨A6.out.cell 0 rfl, A6.out.cell 1 rfl, A6.out.cell 2 rfl, A6.out.cell 3 rfl, A6.out.cell 8 rfl, B6.out.cell 0 rfl, B6.out.cell 1 rfl, B6.out.cell 2 rfl, B6.out.cell 3 rfl, B6.out.cell 8 rfl, K6.out.cell 0 rfl, K6.out.cell 1 rfl, K6.out.cell 2 rfl⟩
        obtain ⟨⟨c0, c1, c2, c3, c4, c5, c6, c7, c8⟩, cf, cz⟩ := C6.out.nine
        clear hb F1 F0)))
  all_goals
    go_wp2_with fail
    exact bodyPost_ret (v := .agg #[.int .i64 (min b1.x0 b2.x0), .int .i64 (min b1.y0 b2.y0), .int .i64 (max b1.x1 b2.x1), .int .i64 (max b1.y1 b2.y1), .int .i64 k, .int .i64 x1, .int .i64 y1, .int .i64 kind, .int .i64 ((n1 + n2 : Nat) : Int)]) (by simp [results, Try.results52, go_sem, c0, c1, c2, c3, c4, c5, c6, c7, c8]) rfl ⟨rfl, by have hq6 := hqs.out; exact bset (bset (bset (bset (bset (bset (bset (bset (bset Q6.out (by omega) _) (by omega) _) (by omega) _) (by omega) _) (by omega) _) (by omega) _) (by omega) _) (by omega) _) (by omega) _⟩

end Go.Proofs.Yteddkgpnklfppaa
