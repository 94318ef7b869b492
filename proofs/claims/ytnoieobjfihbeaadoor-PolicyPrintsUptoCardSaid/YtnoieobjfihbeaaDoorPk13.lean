/-
  The document's own printer of policies: the words, a line of the kinds 1 and 2.
  The document's own printer of policies: a line of the kind 6.
  The document's own printer of policies: a line of the kinds 4 and 5.
-/
import Derived.Test.YtnoieobjfihbeaaDoorPk12
import Derived.Test.YtnoieobjfihbeaaDoorPk11
import Derived.Deep.RegionHeld3

namespace Go.Proofs.YtnoieobjfihbeaaDoor
open Go.RowKit Go.Sort

/-- the words that begin a declaration, in memory -/
def lwordsArr : Array Value := #[.string ⟨#[]⟩, .string ⟨#[114, 111, 108, 101]⟩, .string ⟨#[108, 97, 98, 101, 108]⟩, .string ⟨#[114, 101, 103, 105, 111, 110]⟩, .string ⟨#[97, 108, 108, 111, 119]⟩, .string ⟨#[99, 97, 112]⟩, .string ⟨#[99, 108, 111, 97, 107]⟩]
set_option maxHeartbeats 1000000 in
theorem lwords_any (w : World) : Calls Tryd.prog 33 #[] w fun en w' => (en = .returned (.slice (some ⟨w.heap.size, 0, none⟩) 7 7) ∧ Blk w' w.heap.size lwordsArr 9) ∧ Below w.heap.size w w' := by
  go_enter Tryd.func33, Tryd.ntmps33
  go_wp2_with fail
  go_ret
  exact ⟨⟨rfl, Blk.new _ lwordsArr _⟩, balloc _ _⟩
set_option maxRecDepth 100000 in
set_option maxHeartbeats 4000000 in
theorem rline_1 {d : Po.Decl} {v : Value} {w : World} (hk : d.kind = 1) (hm : Ru.may d = true) (hn : d.name.size ≤ 140737488355328) :
    Calls Tryd.prog 18 #[.agg (declCells d v)] w fun e w' => e = .returned (.string ⟨(Pt.lineB d).toArray⟩) ∧ Below w.heap.size w w' := by
  have hb : Ru.num d.n = true := by
    unfold Ru.may at hm
    rw [if_pos (.inl hk)] at hm
    simp only [Bool.and_eq_true] at hm
    exact hm.1.1.1.2
  obtain ⟨h0, h1⟩ := num_bounds hb
  have hr := hid (rtext_i h0 h1)
  have hlen := hid (show (⟨(Go.Lib.itoa d.n).toArray⟩ : ByteArray).size ≤ 21 by
    have h2 := Go.Lib.itoa_length_le d.n (by omega) (by omega)
    show (Go.Lib.itoa d.n).toArray.size ≤ 21
    simpa using h2)
  have hl := hid (show Pt.lineB d = [114, 111, 108, 101] ++ [32] ++ d.name.data.toList ++ [32, 61] ++ [32] ++ Go.Lib.itoa d.n ++ [59, 10] by
    unfold Pt.lineB Pt.firstB Pt.restB
    rw [hk]
    simp [Pt.put, Po.wRole])
  obtain ⟨t, ht⟩ : ∃ t : ByteArray, (⟨(Go.Lib.itoa d.n).toArray⟩ : ByteArray) = t := ⟨_, rfl⟩
  rw [ht] at hr hlen
  have ht' := hid ht
  clear ht hm hb h0 h1
  have Q0 := hid (balloc w (.cells (declCells d v) 44))
  have B0 := hid (Blk.new w (declCells d v) 44)
  have k0 := B0.out.cell 0 (v := .int .i64 d.kind) rfl
  rw [hk] at k0
  have hn2 : ((d.name.size : Nat) : Int) ≤ 140737488355328 := by omega
  go_enter Tryd.func18, Tryd.ntmps18
  go_upto_region 1 with (fail)
  generalize hW : w.alloc _ = wx at *
  clear hW
  have S0 : wx.drew.cell? ⟨w.heap.size, 0, none⟩ = some (.int .i64 1) := k0
  go_region_with (first
    | ((go_at_call 33
        with_reducible refine (lwords_any _).mono ?_
        rintro en w3 ⟨⟨rfl, X3⟩, hb⟩
        have Q3 := hid (bthen Q0.out.drew hb)
        have B3 := hid ((Blk.drew B0.out).ext hb)
        have S3 : w3.cell? ⟨w.heap.size, 0, none⟩ = some (.int .i64 1) := B3.out.cell 0 (by show some (Value.int .i64 d.kind) = _; rw [hk])
        have x1 : w3.cell? ⟨wx.heap.size, 1, none⟩ = some (.string ⟨#[114, 111, 108, 101]⟩) := X3.cell 1 rfl
        clear X3 hb)))
  all_goals
    have c1 : w3.cell? ⟨w.heap.size, 1, none⟩ = some (.string d.name) := B3.out.cell 1 rfl
    have c2 : w3.cell? ⟨w.heap.size, 2, none⟩ = some (.int .i64 d.n) := B3.out.cell 2 rfl
    clear x1 k0
    have hl2 := hlen.out
    go_upto_region 5 with (fail)
    go_wp2_with fail
    refine (hr.out _).mono ?_
    rintro e w5 ⟨rfl, hb5⟩
    have Q5 := hid (bthen Q3.out hb5)
    clear hb5 c1 c2 S3
    go_wp2_with fail
    go_ret
    refine ⟨?_, Q5.out⟩
    rw [hl.out, ← ht'.out]
    congr 2

set_option maxRecDepth 100000 in
set_option maxHeartbeats 4000000 in
theorem rline_2 {d : Po.Decl} {v : Value} {w : World} (hk : d.kind = 2) (hm : Ru.may d = true) (hn : d.name.size ≤ 140737488355328) :
    Calls Tryd.prog 18 #[.agg (declCells d v)] w fun e w' => e = .returned (.string ⟨(Pt.lineB d).toArray⟩) ∧ Below w.heap.size w w' := by
  have hb : Ru.num d.n = true := by
    unfold Ru.may at hm
    rw [if_pos (.inr hk)] at hm
    simp only [Bool.and_eq_true] at hm
    exact hm.1.1.1.2
  obtain ⟨h0, h1⟩ := num_bounds hb
  have hr := hid (rtext_i h0 h1)
  have hlen := hid (show (⟨(Go.Lib.itoa d.n).toArray⟩ : ByteArray).size ≤ 21 by
    have h2 := Go.Lib.itoa_length_le d.n (by omega) (by omega)
    show (Go.Lib.itoa d.n).toArray.size ≤ 21
    simpa using h2)
  have hl := hid (show Pt.lineB d = [108, 97, 98, 101, 108] ++ [32] ++ d.name.data.toList ++ [32, 61] ++ [32] ++ Go.Lib.itoa d.n ++ [59, 10] by
    unfold Pt.lineB Pt.firstB Pt.restB
    rw [hk]
    simp [Pt.put, Po.wLabel])
  obtain ⟨t, ht⟩ : ∃ t : ByteArray, (⟨(Go.Lib.itoa d.n).toArray⟩ : ByteArray) = t := ⟨_, rfl⟩
  rw [ht] at hr hlen
  have ht' := hid ht
  clear ht hm hb h0 h1
  have Q0 := hid (balloc w (.cells (declCells d v) 44))
  have B0 := hid (Blk.new w (declCells d v) 44)
  have k0 := B0.out.cell 0 (v := .int .i64 d.kind) rfl
  rw [hk] at k0
  have hn2 : ((d.name.size : Nat) : Int) ≤ 140737488355328 := by omega
  go_enter Tryd.func18, Tryd.ntmps18
  go_upto_region 1 with (fail)
  generalize hW : w.alloc _ = wx at *
  clear hW
  have S0 : wx.drew.cell? ⟨w.heap.size, 0, none⟩ = some (.int .i64 2) := k0
  go_region_with (first
    | ((go_at_call 33
        with_reducible refine (lwords_any _).mono ?_
        rintro en w3 ⟨⟨rfl, X3⟩, hb⟩
        have Q3 := hid (bthen Q0.out.drew hb)
        have B3 := hid ((Blk.drew B0.out).ext hb)
        have S3 : w3.cell? ⟨w.heap.size, 0, none⟩ = some (.int .i64 2) := B3.out.cell 0 (by show some (Value.int .i64 d.kind) = _; rw [hk])
        have x1 : w3.cell? ⟨wx.heap.size, 2, none⟩ = some (.string ⟨#[108, 97, 98, 101, 108]⟩) := X3.cell 2 rfl
        clear X3 hb)))
  all_goals
    have c1 : w3.cell? ⟨w.heap.size, 1, none⟩ = some (.string d.name) := B3.out.cell 1 rfl
    have c2 : w3.cell? ⟨w.heap.size, 2, none⟩ = some (.int .i64 d.n) := B3.out.cell 2 rfl
    clear x1 k0
    have hl2 := hlen.out
    go_upto_region 5 with (fail)
    go_wp2_with fail
    refine (hr.out _).mono ?_
    rintro e w5 ⟨rfl, hb5⟩
    have Q5 := hid (bthen Q3.out hb5)
    clear hb5 c1 c2 S3
    go_wp2_with fail
    go_ret
    refine ⟨?_, Q5.out⟩
    rw [hl.out, ← ht'.out]
    congr 2

end Go.Proofs.YtnoieobjfihbeaaDoor

namespace Go.Proofs.YtnoieobjfihbeaaDoor
open Go.RowKit Go.Sort

theorem who_short {x : Po.Who} (hx : Ru.rightW x = true) (hn : x.name.size ≤ 140737488355328) {all : List UInt8} (ha : all.length ≤ 21) : (⟨(Pt.whoB all x).toArray⟩ : ByteArray).size ≤ 140737488355328 := by
  show (Pt.whoB all x).toArray.size ≤ 140737488355328
  rw [List.size_toArray]
  unfold Pt.whoB
  split
  · omega
  · rename_i h1
    split
    · rename_i h2
      have hb : Ru.num x.n = true := by
        unfold Ru.rightW at hx
        rw [if_neg h1, if_pos (by rw [h2]; rfl)] at hx
        exact hx
      obtain ⟨h3, h4⟩ := num_bounds hb
      have := Go.Lib.itoa_length_le x.n (by omega) (by omega)
      omega
    · rw [list_len]; exact hn
set_option maxRecDepth 100000 in
set_option maxHeartbeats 4000000 in
theorem rline_6 {d : Po.Decl} {v : Value} {w : World} (hk : d.kind = 6) (hm : Ru.may d = true) (hn : d.role.name.size ≤ 140737488355328) :
    Calls Tryd.prog 18 #[.agg (declCells d v)] w fun e w' => e = .returned (.string ⟨(Pt.lineB d).toArray⟩) ∧ Below w.heap.size w w' := by
  have hb : Ru.rightW d.role = true := by
    unfold Ru.may at hm
    rw [if_neg (by omega), if_neg (by omega), if_neg (by omega), if_pos hk] at hm
    simp only [Bool.and_eq_true] at hm
    exact hm.1.2
  have hr := hid (rwho_text hb ⟨#[97, 110, 121]⟩)
  have hlen := hid (who_short hb hn (all := (⟨#[97, 110, 121]⟩ : ByteArray).data.toList) (by decide))
  have hl := hid (show Pt.lineB d = [99, 108, 111, 97, 107] ++ [32, 114, 111, 108, 101, 32] ++ Pt.whoB (⟨#[97, 110, 121]⟩ : ByteArray).data.toList d.role ++ [59, 10] by
    unfold Pt.lineB Pt.firstB Pt.restB
    rw [hk]
    simp [Pt.put, Po.wRole, Po.wCloak, Po.wAny])
  obtain ⟨t, ht⟩ : ∃ t : ByteArray, (⟨(Pt.whoB (⟨#[97, 110, 121]⟩ : ByteArray).data.toList d.role).toArray⟩ : ByteArray) = t := ⟨_, rfl⟩
  rw [ht] at hr hlen
  have ht' := hid ht
  clear ht hm hb
  have Q0 := hid (balloc w (.cells (declCells d v) 44))
  have B0 := hid (Blk.new w (declCells d v) 44)
  have k0 := B0.out.cell 0 (v := .int .i64 d.kind) rfl
  rw [hk] at k0
  go_enter Tryd.func18, Tryd.ntmps18
  go_upto_region 1 with (fail)
  generalize hW : w.alloc _ = wx at *
  clear hW
  have S0 : wx.drew.cell? ⟨w.heap.size, 0, none⟩ = some (.int .i64 6) := k0
  go_region_with (first
    | ((go_at_call 33
        with_reducible refine (lwords_any _).mono ?_
        rintro en w3 ⟨⟨rfl, X3⟩, hb⟩
        have Q3 := hid (bthen Q0.out.drew hb)
        have B3 := hid ((Blk.drew B0.out).ext hb)
        have S3 : w3.cell? ⟨w.heap.size, 0, none⟩ = some (.int .i64 6) := B3.out.cell 0 (by show some (Value.int .i64 d.kind) = _; rw [hk])
        have x1 : w3.cell? ⟨wx.heap.size, 6, none⟩ = some (.string ⟨#[99, 108, 111, 97, 107]⟩) := X3.cell 6 rfl
        clear X3 hb)))
  all_goals
    have c4 : w3.cell? ⟨w.heap.size, 4, none⟩ = some (.bool d.role.any) := B3.out.cell 4 rfl
    have c5 : w3.cell? ⟨w.heap.size, 4 + 1, none⟩ = some (.string d.role.name) := B3.out.cell 5 rfl
    have c6 : w3.cell? ⟨w.heap.size, 4 + 1 + 1, none⟩ = some (.int .i64 d.role.n) := B3.out.cell 6 rfl
    have c7 : w3.cell? ⟨w.heap.size, 4 + 1 + 1 + 1, none⟩ = some (.int .i64 d.role.line) := B3.out.cell 7 rfl
    have c8 : w3.cell? ⟨w.heap.size, 4 + 1 + 1 + 1 + 1, none⟩ = some (.int .i64 d.role.col) := B3.out.cell 8 rfl
    clear x1 k0
    have hl2 := hlen.out
    go_upto_region 15 with (fail)
    go_wp2_with fail
    refine (hr.out _).mono ?_
    rintro e w5 ⟨rfl, hb5⟩
    have Q5 := hid (bthen Q3.out hb5)
    have S5 : w5.cell? ⟨w.heap.size, 0, none⟩ = some (.int .i64 6) := (B3.out.ext hb5).cell 0 (by show some (Value.int .i64 d.kind) = _; rw [hk])
    clear hb5 c4 c5 c6 c7 c8 S3
    go_wp2_with fail
    go_ret
    refine ⟨?_, Q5.out⟩
    rw [hl.out, ← ht'.out]
    congr 2

end Go.Proofs.YtnoieobjfihbeaaDoor

namespace Go.Proofs.YtnoieobjfihbeaaDoor
open Go.RowKit Go.Sort

theorem num_short {n : Int} (h : Ru.num n = true) : (⟨(Go.Lib.itoa n).toArray⟩ : ByteArray).size ≤ 21 := by
  obtain ⟨a0, a1⟩ := num_bounds h
  have h3 := Go.Lib.itoa_length_le n (by omega) (by omega)
  show (Go.Lib.itoa n).toArray.size ≤ 21
  rwa [List.size_toArray]
theorem tiers_short {lo hi : Int} (h1 : Ru.num lo = true) (h2 : Ru.num hi = true) : (⟨(Pt.tiersB lo hi).toArray⟩ : ByteArray).size ≤ 100 := by
  obtain ⟨a0, a1⟩ := num_bounds h1
  obtain ⟨b0, b1⟩ := num_bounds h2
  have h3 := Go.Lib.itoa_length_le lo (by omega) (by omega)
  have h4 := Go.Lib.itoa_length_le hi (by omega) (by omega)
  show (Pt.tiersB lo hi).toArray.size ≤ 100
  rw [List.size_toArray]
  unfold Pt.tiersB
  split
  · decide
  · split
    · omega
    · simp only [List.length_append, List.length_cons, List.length_nil]; omega
set_option maxRecDepth 100000 in
set_option maxHeartbeats 8000000 in
theorem rline_4 {d : Po.Decl} {v : Value} {w : World} (hk : d.kind = 4) (hm : Ru.may d = true) (hn1 : d.role.name.size ≤ 140737488355328) (hn2 : d.label.name.size ≤ 140737488355328) (hn3 : d.place.name.size ≤ 140737488355328) :
    Calls Tryd.prog 18 #[.agg (declCells d v)] w fun e w' => e = .returned (.string ⟨(Pt.lineB d).toArray⟩) ∧ Below w.heap.size w w' := by
  have hb : Ru.ruleD d = true := by
    unfold Ru.may at hm
    rw [if_neg (by omega), if_neg (by omega), if_pos (by omega)] at hm
    simp only [Bool.and_eq_true] at hm
    exact hm.2
  unfold Ru.ruleD at hb
  simp only [Bool.and_eq_true] at hb
  obtain ⟨⟨⟨r1, ⟨⟨l1, h1⟩, z1⟩⟩, b1⟩, p1⟩ := hb
  have p2 : Ru.rightW d.place = true := Pt.place_right p1
  have cR := hid (rwho_text r1 ⟨#[97, 110, 121]⟩)
  have cL := hid (rwho_text b1 ⟨#[97, 110, 121]⟩)
  have cP := hid (rwho_text p2 ⟨#[97, 108, 108]⟩)
  have cZ := hid (rtext_i (num_bounds z1).1 (num_bounds z1).2)
  have cLo := hid (rtext_i (num_bounds l1).1 (num_bounds l1).2)
  have cHi := hid (rtext_i (num_bounds h1).1 (num_bounds h1).2)
  obtain ⟨tR, eR⟩ : ∃ t : ByteArray, (⟨(Pt.whoB (⟨#[97, 110, 121]⟩ : ByteArray).data.toList d.role).toArray⟩ : ByteArray) = t := ⟨_, rfl⟩
  obtain ⟨tL, eL⟩ : ∃ t : ByteArray, (⟨(Pt.whoB (⟨#[97, 110, 121]⟩ : ByteArray).data.toList d.label).toArray⟩ : ByteArray) = t := ⟨_, rfl⟩
  obtain ⟨tP, eP⟩ : ∃ t : ByteArray, (⟨(Pt.whoB (⟨#[97, 108, 108]⟩ : ByteArray).data.toList d.place).toArray⟩ : ByteArray) = t := ⟨_, rfl⟩
  obtain ⟨tZ, eZ⟩ : ∃ t : ByteArray, (⟨(Go.Lib.itoa d.zoom).toArray⟩ : ByteArray) = t := ⟨_, rfl⟩
  obtain ⟨tA, eA⟩ : ∃ t : ByteArray, (⟨(Go.Lib.itoa d.lo).toArray⟩ : ByteArray) = t := ⟨_, rfl⟩
  obtain ⟨tB, eB⟩ : ∃ t : ByteArray, (⟨(Go.Lib.itoa d.hi).toArray⟩ : ByteArray) = t := ⟨_, rfl⟩
  obtain ⟨tT, eT⟩ : ∃ t : ByteArray, (⟨(Pt.tiersB d.lo d.hi).toArray⟩ : ByteArray) = t := ⟨_, rfl⟩
  have sR : tR.size ≤ 140737488355328 := eR ▸ who_short r1 hn1 (by decide)
  have sL : tL.size ≤ 140737488355328 := eL ▸ who_short b1 hn2 (by decide)
  have sP : tP.size ≤ 140737488355328 := eP ▸ who_short p2 hn3 (by decide)
  have sT : tT.size ≤ 100 := eT ▸ tiers_short l1 h1
  have sZ : tZ.size ≤ 21 := eZ ▸ num_short z1
  have sA : tA.size ≤ 21 := eA ▸ num_short l1
  have sB : tB.size ≤ 21 := eB ▸ num_short h1
  have hl := hid (show Pt.lineB d = [97, 108, 108, 111, 119] ++ [32, 114, 111, 108, 101, 32] ++ tR.data.toList ++ [32, 116, 105, 101, 114, 32] ++ tT.data.toList ++ [32, 108, 97, 98, 101, 108, 32] ++ tL.data.toList ++ [32, 105, 110, 32] ++ tP.data.toList ++ [32, 122, 111, 111, 109, 32] ++ tZ.data.toList ++ [59, 10] by
    rw [← eR, ← eL, ← eP, ← eZ, ← eT]
    unfold Pt.lineB Pt.firstB Pt.restB
    rw [hk]
    simp [Pt.put, Po.wRole, Po.wAllow, Po.wTier, Po.wLabel, Po.wIn, Po.wZoom, Po.wAny, Po.wAll])
  rw [eR] at cR
  rw [eL] at cL
  rw [eP] at cP
  rw [eZ] at cZ
  rw [eA] at cLo
  rw [eB] at cHi
  have hT : Hid (tT = if d.lo = 0 ∧ d.hi = 7 then ⟨#[97, 110, 121]⟩ else if d.lo = d.hi then tA else tA ++ ⟨#[46, 46]⟩ ++ tB) := hid (by
    rw [← eT, ← eA, ← eB]
    unfold Pt.tiersB
    split
    · rfl
    · split
      · rfl
      · apply ByteArray.ext
        simp)
  have cL2 := hid (show ∀ w, Calls Tryd.prog 35 #[.agg #[.bool d.label.any, .string d.label.name, .int .i64 d.label.n, .int .i64 d.label.line, .int .i64 d.label.col], .string ⟨#[97, 110, 121]⟩] w fun e w' => e = .returned (.string tL) ∧ Below w.heap.size w w' from cL.out)
  have cP2 := hid (show ∀ w, Calls Tryd.prog 35 #[.agg #[.bool d.place.any, .string d.place.name, .int .i64 d.place.n, .int .i64 d.place.line, .int .i64 d.place.col], .string ⟨#[97, 108, 108]⟩] w fun e w' => e = .returned (.string tP) ∧ Below w.heap.size w w' from cP.out)
  clear cL cP
  clear eR eL eP eZ eA eB eT hm r1 l1 h1 z1 b1 p1 p2
  have Q0 := hid (balloc w (.cells (declCells d v) 44))
  have B0 := hid (Blk.new w (declCells d v) 44)
  have k0 := B0.out.cell 0 (v := .int .i64 d.kind) rfl
  rw [hk] at k0
  go_enter Tryd.func18, Tryd.ntmps18
  go_upto_region 1 with (fail)
  generalize hW : w.alloc _ = wx at *
  clear hW
  have S0 : wx.drew.cell? ⟨w.heap.size, 0, none⟩ = some (.int .i64 4) := k0
  go_region_with (first
    | ((go_at_call 33
        with_reducible refine (lwords_any _).mono ?_
        rintro en w3 ⟨⟨rfl, X3⟩, hb⟩
        have Q3 := hid (bthen Q0.out.drew hb)
        have B3 := hid ((Blk.drew B0.out).ext hb)
        have S3 : w3.cell? ⟨w.heap.size, 0, none⟩ = some (.int .i64 4) := B3.out.cell 0 (by show some (Value.int .i64 d.kind) = _; rw [hk])
        have x1 : w3.cell? ⟨wx.heap.size, 4, none⟩ = some (.string ⟨#[97, 108, 108, 111, 119]⟩) := X3.cell 4 rfl
        clear X3 hb)))
  all_goals
    have c4 : w3.cell? ⟨w.heap.size, 4, none⟩ = some (.bool d.role.any) := B3.out.cell 4 rfl
    have c5 : w3.cell? ⟨w.heap.size, 4 + 1, none⟩ = some (.string d.role.name) := B3.out.cell 5 rfl
    have c6 : w3.cell? ⟨w.heap.size, 4 + 1 + 1, none⟩ = some (.int .i64 d.role.n) := B3.out.cell 6 rfl
    have c7 : w3.cell? ⟨w.heap.size, 4 + 1 + 1 + 1, none⟩ = some (.int .i64 d.role.line) := B3.out.cell 7 rfl
    have c8 : w3.cell? ⟨w.heap.size, 4 + 1 + 1 + 1 + 1, none⟩ = some (.int .i64 d.role.col) := B3.out.cell 8 rfl
    clear x1 k0
    go_upto_region 15 with (fail)
    go_wp2_with fail
    refine (cR.out _).mono ?_
    rintro e w5 ⟨rfl, hb5⟩
    have Q5 := hid (bthen Q3.out hb5)
    have B5 := hid (B3.out.ext hb5)
    have S5 : w5.cell? ⟨w.heap.size, 0, none⟩ = some (.int .i64 4) := B5.out.cell 0 (by show some (Value.int .i64 d.kind) = _; rw [hk])
    clear hb5 c4 c5 c6 c7 c8 S3 B3 Q3
    go_upto_region 18 with (fail)
    clear S5
    have q1 : ¬ (9223372036854775807 < tA.size + 2) := by omega
    have q2 : ¬ (9223372036854775807 < tA.size + 2 + tB.size) := by omega
    have F5 : w5.drew.cell? ⟨w.heap.size, 9, none⟩ = some (.int .i64 d.lo) ∧ w5.drew.cell? ⟨w.heap.size, 10, none⟩ = some (.int .i64 d.hi) := ⟨B5.out.cell 9 rfl, B5.out.cell 10 rfl⟩
    go_region_held3 (fun w' => w'.cell? ⟨w.heap.size, 9, none⟩ = some (.int .i64 d.lo) ∧ w'.cell? ⟨w.heap.size, 10, none⟩ = some (.int .i64 d.hi)) (first | with_reducible assumption | go_keep) (first
      | ((go_at_call 34
          with_reducible refine (cLo.out _).mono ?_
          rintro en w6 ⟨rfl, hb⟩
          have B6 := hid ((Blk.drew B5.out).ext hb)
          have Q6 := hid (bthen Q5.out.drew hb)
          have F6 : w6.cell? ⟨w.heap.size, 9, none⟩ = some (.int .i64 d.lo) ∧ w6.cell? ⟨w.heap.size, 10, none⟩ = some (.int .i64 d.hi) := ⟨B6.out.cell 9 rfl, B6.out.cell 10 rfl⟩
          clear hb F5))
      | ((go_at_call 34
          with_reducible refine (cHi.out _).mono ?_
          rintro en w7 ⟨rfl, hb⟩
          have B7 := hid (B6.out.ext hb)
          have Q7 := hid (bthen Q6.out hb)
          have F7 : w7.cell? ⟨w.heap.size, 9, none⟩ = some (.int .i64 d.lo) ∧ w7.cell? ⟨w.heap.size, 10, none⟩ = some (.int .i64 d.hi) := ⟨B7.out.cell 9 rfl, B7.out.cell 10 rfl⟩
          clear hb F6)))
    clear B5 B6 Q5 Q6 F7 cR cHi q1 q2
    obtain ⟨tS, hS⟩ : ∃ t : ByteArray, t = ⟨#[97, 108, 108, 111, 119]⟩ ++ ⟨#[32, 114, 111, 108, 101, 32]⟩ ++ tR := ⟨_, rfl⟩
    have sS : tS.size ≤ 140737488355328 + 100 := by
      have e1 : (⟨#[97, 108, 108, 111, 119]⟩ : ByteArray).size ≤ 5 := by decide
      have e2 : (⟨#[32, 114, 111, 108, 101, 32]⟩ : ByteArray).size = 6 := rfl
      rw [hS, ByteArray.size_append, ByteArray.size_append]
      omega
    have hS' := hid hS
    clear hS
    obtain ⟨tM, hM⟩ : ∃ t : ByteArray, t = (if d.lo = d.hi then tA else tA ++ ⟨#[46, 46]⟩ ++ tB) := ⟨_, rfl⟩
    have hM' := hid hM
    rw [← hM] at hT
    clear hM
    have c9 : w7.cell? ⟨w.heap.size, 9, none⟩ = some (.int .i64 d.lo) := B7.out.cell 9 rfl
    have c10 : w7.cell? ⟨w.heap.size, 10, none⟩ = some (.int .i64 d.hi) := B7.out.cell 10 rfl
    go_upto_if 96 with (fail)
    clear sR
    go_cut [3, 6] (fun s3 s6 wx => s3 = .string tS ∧ s6 = .string tM ∧ Blk wx w.heap.size (declCells d v) 44 ∧ Below w.heap.size w wx)
    case first =>
      by_cases he : d.lo = d.hi
      · obtain rfl : tM = tA := by rw [hM'.out, if_pos he]
        have heq : (d.lo == d.hi) = true := beq_iff_eq.2 he
        clear he hT hM'
        go_wp2_with fail
        refine (cLo.out _).mono ?_
        rintro e w8 ⟨rfl, hb8⟩
        have Q8 := hid (bthen Q7.out hb8)
        have B8 := hid (B7.out.ext hb8)
        clear hb8
        go_wp2_with fail
        go_meet
        case rel => exact ⟨congrArg Value.string hS'.out.symm, rfl, B8.out, Q8.out⟩
      · have heq : (d.lo == d.hi) = false := beq_eq_false_iff_ne.2 he
        obtain rfl : tM = tA ++ ⟨#[46, 46]⟩ ++ tB := by rw [hM'.out, if_neg he]
        clear he hT hM'
        go_wp2_with fail
        go_meet
        case rel => exact ⟨congrArg Value.string hS'.out.symm, rfl, B7.out, Q7.out⟩
    case rest =>
    obtain ⟨rfl, rfl, hB, hQ⟩ := hcut
    have B8 := hid hB
    have Q8 := hid hQ
    clear hB hQ B7 Q7 c9 c10 hM' cLo
    go_upto_region 21 with (fail)
    have c9 : wc.cell? ⟨w.heap.size, 9, none⟩ = some (.int .i64 d.lo) := B8.out.cell 9 rfl
    have c10 : wc.cell? ⟨w.heap.size, 10, none⟩ = some (.int .i64 d.hi) := B8.out.cell 10 rfl
    go_cut [107] (fun u wx => u = .bool (decide (d.lo = 0 ∧ d.hi = 7)) ∧ wx = wc)
    case first =>
      by_cases h0 : d.lo = 0
      · rw [h0] at c9
        by_cases h7 : d.hi = 7
        · rw [h7] at c10
          have hb := hid (show true = decide (d.lo = 0 ∧ d.hi = 7) from (decide_eq_true ⟨h0, h7⟩).symm)
          clear h0 h7 hT
          go_wp2_with fail
          go_meet
          case rel => exact ⟨congrArg Value.bool hb.out, rfl⟩
        · have heq : (d.hi == 7) = false := beq_eq_false_iff_ne.2 h7
          have hb := hid (show false = decide (d.lo = 0 ∧ d.hi = 7) from (decide_eq_false (fun h => h7 h.2)).symm)
          clear h0 h7 hT
          go_wp2_with fail
          go_meet
          case rel => exact ⟨congrArg Value.bool hb.out, rfl⟩
      · have heq : (d.lo == 0) = false := beq_eq_false_iff_ne.2 h0
        have hb := hid (show false = decide (d.lo = 0 ∧ d.hi = 7) from (decide_eq_false (fun h => h0 h.1)).symm)
        clear h0 hT
        go_wp2_with fail
        go_meet
        case rel => exact ⟨congrArg Value.bool hb.out, rfl⟩
    case rest =>
    obtain ⟨rfl, rfl⟩ := hcut
    clear c9 c10
    obtain ⟨tb, htb⟩ : ∃ b : Bool, b = decide (d.lo = 0 ∧ d.hi = 7) := ⟨_, rfl⟩
    have hT2 : Hid (tT = if tb then ⟨#[97, 110, 121]⟩ else tM) := hid (by
      rw [hT.out, htb]
      by_cases h : d.lo = 0 ∧ d.hi = 7 <;> simp [h])
    rw [← htb]
    clear htb hT
    go_upto_if 107 with (fail)
    go_cut [6] (fun s6 wx => s6 = .string tT ∧ wx = wc)
    case first =>
      cases tb with
      | true =>
        obtain rfl : tT = ⟨#[97, 110, 121]⟩ := hT2.out
        clear hT2
        go_wp2_with fail
        go_meet
        case rel => exact ⟨rfl, rfl⟩
      | false =>
        obtain rfl : tT = tM := hT2.out
        clear hT2
        go_wp2_with fail
        go_meet
        case rel => exact ⟨rfl, rfl⟩
    case rest =>
    obtain ⟨rfl, rfl⟩ := hcut
    clear hT2
    go_upto_region 23 with (fail)
    have q1 : ¬ (9223372036854775807 < tS.size + 6) := by omega
    have q2 : ¬ (9223372036854775807 < tS.size + 6 + tT.size) := by omega
    have q3 : ¬ (9223372036854775807 < tS.size + 6 + tT.size + 7) := by omega
    have q4 : ¬ (9223372036854775807 < tS.size + 6 + tT.size + 7 + tL.size) := by omega
    have q5 : ¬ (9223372036854775807 < tS.size + 6 + tT.size + 7 + tL.size + 4) := by omega
    have q6 : ¬ (9223372036854775807 < tS.size + 6 + tT.size + 7 + tL.size + 4 + tP.size) := by omega
    have q7 : ¬ (9223372036854775807 < tS.size + 6 + tT.size + 7 + tL.size + 4 + tP.size + 6) := by omega
    have q8 : ¬ (9223372036854775807 < tS.size + 6 + tT.size + 7 + tL.size + 4 + tP.size + 6 + tZ.size) := by omega
    have q9 : ¬ (9223372036854775807 < tS.size + 6 + tT.size + 7 + tL.size + 4 + tP.size + 6 + tZ.size + 2) := by omega
    have F8 : wc.drew.cell? ⟨w.heap.size, 11, none⟩ = some (.bool d.label.any) ∧ wc.drew.cell? ⟨w.heap.size, 11 + 1, none⟩ = some (.string d.label.name) ∧ wc.drew.cell? ⟨w.heap.size, 11 + 1 + 1, none⟩ = some (.int .i64 d.label.n) ∧ wc.drew.cell? ⟨w.heap.size, 11 + 1 + 1 + 1, none⟩ = some (.int .i64 d.label.line) ∧ wc.drew.cell? ⟨w.heap.size, 11 + 1 + 1 + 1 + 1, none⟩ = some (.int .i64 d.label.col) ∧ wc.drew.cell? ⟨w.heap.size, 16, none⟩ = some (.bool d.place.any) ∧ wc.drew.cell? ⟨w.heap.size, 16 + 1, none⟩ = some (.string d.place.name) ∧ wc.drew.cell? ⟨w.heap.size, 16 + 1 + 1, none⟩ = some (.int .i64 d.place.n) ∧ wc.drew.cell? ⟨w.heap.size, 16 + 1 + 1 + 1, none⟩ = some (.int .i64 d.place.line) ∧ wc.drew.cell? ⟨w.heap.size, 16 + 1 + 1 + 1 + 1, none⟩ = some (.int .i64 d.place.col) ∧ wc.drew.cell? ⟨w.heap.size, 21, none⟩ = some (.int .i64 d.zoom) := ⟨(Blk.drew B8.out).cell 11 rfl, (Blk.drew B8.out).cell 12 rfl, (Blk.drew B8.out).cell 13 rfl, (Blk.drew B8.out).cell 14 rfl, (Blk.drew B8.out).cell 15 rfl, (Blk.drew B8.out).cell 16 rfl, (Blk.drew B8.out).cell 17 rfl, (Blk.drew B8.out).cell 18 rfl, (Blk.drew B8.out).cell 19 rfl, (Blk.drew B8.out).cell 20 rfl, (Blk.drew B8.out).cell 21 rfl⟩
    go_region_held3 (fun w' => w'.cell? ⟨w.heap.size, 11, none⟩ = some (.bool d.label.any) ∧ w'.cell? ⟨w.heap.size, 11 + 1, none⟩ = some (.string d.label.name) ∧ w'.cell? ⟨w.heap.size, 11 + 1 + 1, none⟩ = some (.int .i64 d.label.n) ∧ w'.cell? ⟨w.heap.size, 11 + 1 + 1 + 1, none⟩ = some (.int .i64 d.label.line) ∧ w'.cell? ⟨w.heap.size, 11 + 1 + 1 + 1 + 1, none⟩ = some (.int .i64 d.label.col) ∧ w'.cell? ⟨w.heap.size, 16, none⟩ = some (.bool d.place.any) ∧ w'.cell? ⟨w.heap.size, 16 + 1, none⟩ = some (.string d.place.name) ∧ w'.cell? ⟨w.heap.size, 16 + 1 + 1, none⟩ = some (.int .i64 d.place.n) ∧ w'.cell? ⟨w.heap.size, 16 + 1 + 1 + 1, none⟩ = some (.int .i64 d.place.line) ∧ w'.cell? ⟨w.heap.size, 16 + 1 + 1 + 1 + 1, none⟩ = some (.int .i64 d.place.col) ∧ w'.cell? ⟨w.heap.size, 21, none⟩ = some (.int .i64 d.zoom)) (first | with_reducible assumption | go_keep) (first
      | ((go_at_call 35
          with_reducible refine (cL2.out _).mono ?_
          rintro en w9 ⟨rfl, hb⟩
          have B9 := hid ((Blk.drew B8.out).ext hb)
          have Q9 := hid (bthen Q8.out.drew hb)
          have F9 : w9.cell? ⟨w.heap.size, 11, none⟩ = some (.bool d.label.any) ∧ w9.cell? ⟨w.heap.size, 11 + 1, none⟩ = some (.string d.label.name) ∧ w9.cell? ⟨w.heap.size, 11 + 1 + 1, none⟩ = some (.int .i64 d.label.n) ∧ w9.cell? ⟨w.heap.size, 11 + 1 + 1 + 1, none⟩ = some (.int .i64 d.label.line) ∧ w9.cell? ⟨w.heap.size, 11 + 1 + 1 + 1 + 1, none⟩ = some (.int .i64 d.label.col) ∧ w9.cell? ⟨w.heap.size, 16, none⟩ = some (.bool d.place.any) ∧ w9.cell? ⟨w.heap.size, 16 + 1, none⟩ = some (.string d.place.name) ∧ w9.cell? ⟨w.heap.size, 16 + 1 + 1, none⟩ = some (.int .i64 d.place.n) ∧ w9.cell? ⟨w.heap.size, 16 + 1 + 1 + 1, none⟩ = some (.int .i64 d.place.line) ∧ w9.cell? ⟨w.heap.size, 16 + 1 + 1 + 1 + 1, none⟩ = some (.int .i64 d.place.col) ∧ w9.cell? ⟨w.heap.size, 21, none⟩ = some (.int .i64 d.zoom) := ⟨B9.out.cell 11 rfl, B9.out.cell 12 rfl, B9.out.cell 13 rfl, B9.out.cell 14 rfl, B9.out.cell 15 rfl, B9.out.cell 16 rfl, B9.out.cell 17 rfl, B9.out.cell 18 rfl, B9.out.cell 19 rfl, B9.out.cell 20 rfl, B9.out.cell 21 rfl⟩
          clear hb F8))
      | ((go_at_call 35
          with_reducible refine (cP2.out _).mono ?_
          rintro en w10 ⟨rfl, hb⟩
          have B10 := hid (B9.out.ext hb)
          have Q10 := hid (bthen Q9.out hb)
          have F10 : w10.cell? ⟨w.heap.size, 11, none⟩ = some (.bool d.label.any) ∧ w10.cell? ⟨w.heap.size, 11 + 1, none⟩ = some (.string d.label.name) ∧ w10.cell? ⟨w.heap.size, 11 + 1 + 1, none⟩ = some (.int .i64 d.label.n) ∧ w10.cell? ⟨w.heap.size, 11 + 1 + 1 + 1, none⟩ = some (.int .i64 d.label.line) ∧ w10.cell? ⟨w.heap.size, 11 + 1 + 1 + 1 + 1, none⟩ = some (.int .i64 d.label.col) ∧ w10.cell? ⟨w.heap.size, 16, none⟩ = some (.bool d.place.any) ∧ w10.cell? ⟨w.heap.size, 16 + 1, none⟩ = some (.string d.place.name) ∧ w10.cell? ⟨w.heap.size, 16 + 1 + 1, none⟩ = some (.int .i64 d.place.n) ∧ w10.cell? ⟨w.heap.size, 16 + 1 + 1 + 1, none⟩ = some (.int .i64 d.place.line) ∧ w10.cell? ⟨w.heap.size, 16 + 1 + 1 + 1 + 1, none⟩ = some (.int .i64 d.place.col) ∧ w10.cell? ⟨w.heap.size, 21, none⟩ = some (.int .i64 d.zoom) := ⟨B10.out.cell 11 rfl, B10.out.cell 12 rfl, B10.out.cell 13 rfl, B10.out.cell 14 rfl, B10.out.cell 15 rfl, B10.out.cell 16 rfl, B10.out.cell 17 rfl, B10.out.cell 18 rfl, B10.out.cell 19 rfl, B10.out.cell 20 rfl, B10.out.cell 21 rfl⟩
          clear hb F9))
      | ((go_at_call 34
          with_reducible refine (cZ.out _).mono ?_
          rintro en w11 ⟨rfl, hb⟩
          have B11 := hid (B10.out.ext hb)
          have Q11 := hid (bthen Q10.out hb)
          have F11 : w11.cell? ⟨w.heap.size, 11, none⟩ = some (.bool d.label.any) ∧ w11.cell? ⟨w.heap.size, 11 + 1, none⟩ = some (.string d.label.name) ∧ w11.cell? ⟨w.heap.size, 11 + 1 + 1, none⟩ = some (.int .i64 d.label.n) ∧ w11.cell? ⟨w.heap.size, 11 + 1 + 1 + 1, none⟩ = some (.int .i64 d.label.line) ∧ w11.cell? ⟨w.heap.size, 11 + 1 + 1 + 1 + 1, none⟩ = some (.int .i64 d.label.col) ∧ w11.cell? ⟨w.heap.size, 16, none⟩ = some (.bool d.place.any) ∧ w11.cell? ⟨w.heap.size, 16 + 1, none⟩ = some (.string d.place.name) ∧ w11.cell? ⟨w.heap.size, 16 + 1 + 1, none⟩ = some (.int .i64 d.place.n) ∧ w11.cell? ⟨w.heap.size, 16 + 1 + 1 + 1, none⟩ = some (.int .i64 d.place.line) ∧ w11.cell? ⟨w.heap.size, 16 + 1 + 1 + 1 + 1, none⟩ = some (.int .i64 d.place.col) ∧ w11.cell? ⟨w.heap.size, 21, none⟩ = some (.int .i64 d.zoom) := ⟨B11.out.cell 11 rfl, B11.out.cell 12 rfl, B11.out.cell 13 rfl, B11.out.cell 14 rfl, B11.out.cell 15 rfl, B11.out.cell 16 rfl, B11.out.cell 17 rfl, B11.out.cell 18 rfl, B11.out.cell 19 rfl, B11.out.cell 20 rfl, B11.out.cell 21 rfl⟩
          clear hb F10)))
    clear B8 B9 B10 B11 Q8 Q9 Q10 F11
    go_wp2_with fail
    go_ret
    refine ⟨ret_str ?_, Q11.out⟩
    rw [hl.out, hS'.out]
    apply ByteArray.ext
    simp

end Go.Proofs.YtnoieobjfihbeaaDoor
