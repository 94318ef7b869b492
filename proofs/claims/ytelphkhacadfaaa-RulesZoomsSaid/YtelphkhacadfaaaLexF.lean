/- The walks of package lex: mark. -/
import Derived.Test.YtelphkhacadfaaaLexE
namespace Go.Proofs.Ytelphkhacadfaaa
open Go.RowKit Go.Sort

def badRes : Value := .tuple #[tokV 0 ⟨#[]⟩ 0 0 0, .int .i64 30]
def markRes (t : ByteArray) : Value := .tuple #[tokV 4 t 0 0 0, .int .i64 0]

set_option maxHeartbeats 4000000 in
theorem mark_one {b : Nat} {s : ByteArray} {i : Nat} {w : World} (hr : RdP w b s i) (hi : i < s.size) (hs : s.size ≤ 140737488355328)
    (hc : ((s[i].toNat : Int) == 61) = true ∨ (((s[i].toNat : Int) == 61) = false ∧ ((s[i].toNat : Int) == 43) = true) ∨ (((s[i].toNat : Int) == 61) = false ∧ ((s[i].toNat : Int) == 43) = false ∧ ((s[i].toNat : Int) == 59) = true)) :
    Calls Try.prog 99 #[.pointer (some ⟨b, 0, none⟩)] w fun e w' =>
      e = .returned (markRes (s.extract i (i + 1))) ∧ RdP w' b s (i + 1) ∧ Touch b w w' := by
  have hr' := hid hr
  have hlb := RdP.lt hr
  obtain ⟨hz, h0, h1, h2, h3, f1, f2, f3⟩ := Rd.f hr
  clear hr h2 h3 f1 f2 f3
  have nn : w.heap.size ≠ b := Nat.ne_of_gt hlb
  rcases hc with hc1 | ⟨hc1, hc2⟩ | ⟨hc1, hc2, hc3⟩
  all_goals
    go_enter Try.func99, Try.ntmps99
    go_wp2_with fail
    go_quiet (fail)
    go_wp2_with fail
    have q1 : IntKind.i64.wrap ((i : Int) + 1) = (i : Int) + 1 := IntWalk.i64_in _ (by omega)
    have q2 : (0 : Int) ≤ (i : Int) + 1 := by omega
    have q3 : ((i : Int) + 1).toNat = i + 1 := by omega
    have q4 : (i : Int) ≤ (i : Int) + 1 := by omega
    have q5 : (i : Int) + 1 ≤ (s.size : Int) := by omega
    have q6 : i + 1 ≤ s.size := by omega
    go_region_held3 (fun w' => w'.cell? ⟨b, 0, none⟩ = some (.string s) ∧ w'.cell? ⟨b, 1, none⟩ = some (.int .i64 i)) (go_keep) (first | fail)
    clear q1 q2 q3 q4 q5
    go_wp2_with fail
    go_loopw [64] (fun u wr => ∃ k : Nat, k ≤ 1 ∧ u = .int .i64 k ∧ RdP wr b s (i + k) ∧ Touch b w wr ∧ Blk wr w.heap.size #[.int .i64 0, .string ⟨#[]⟩, .int .i64 0, .int .i64 0, .int .i64 0] 109 ∧
      Blk wr (w.heap.size + 1) #[.int .i64 4, .string (s.extract i (i + 1)), .int .i64 0, .int .i64 0, .int .i64 0] 109) (fun u _ => 1 - (intOf u).toNat)
    case atStart =>
      refine ⟨0, Nat.zero_le _, rfl, ?_, ?_, ?_, ?_⟩
      · exact ((hr'.out.alloc _).drewN _).alloc _
      · exact (((Touch.refl b w).alloc _).drewN _).alloc _
      · exact ((Blk.new w _ _).drewN _).alloc _
      · exact Blk.newAt (by simp) _ _
    case round =>
      obtain ⟨k, hk, rfl, hrk, htk, hB, hT⟩ := hrel
      have hrk' := hid hrk
      have htk' := hid htk
      have hB' := hid hB
      have hT' := hid hT
      clear hrk htk hB hT
      by_cases hlt : k < 1
      · go_wp2_with fail
        refine (step_any hrk'.out (by omega) hs).mono ?_
        rintro e w2 ⟨rfl, hr2, ht2⟩
        have hr2' := hid hr2
        clear hr2
        go_wp2_with fail
        go_roundw
        case rel => exact ⟨k + 1, by omega, by go_num, hr2'.out, htk'.out.trans ht2, hB'.out.touch ht2 (by omega), hT'.out.touch ht2 (by omega)⟩
        case measure => simp [intOf]; omega
      · obtain rfl : k = 1 := by omega
        obtain ⟨c0, c1, c2, c3, c4, cf, cz⟩ := hT'.out.five
        obtain ⟨d0, d1, d2, d3, d4, df, dz⟩ := hB'.out.five
        have hne2 : b ≠ w.heap.size := by omega
        have hn2 := Nat.le_refl w.heap.size
        go_wp2_with fail
        exact bodyPost_ret (v := markRes (s.extract i (i + 1))) (by simp [results, Try.results99, go_sem, markRes, tokV, d0, d1, d2, d3, d4]) rfl ⟨rfl, (by unfold RdP Rd; simp only [Blk.setOther_iff hne2]; exact hrk'.out), (by simp only [Touch.setNew_iff hn2]; exact htk'.out)⟩

set_option maxHeartbeats 4000000 in
theorem mark_two {b : Nat} {s : ByteArray} {i : Nat} {w : World} (hr : RdP w b s i) (hi : i + 1 < s.size) (hs : s.size ≤ 140737488355328)
    (hc1 : ((s[i].toNat : Int) == 61) = false) (hc2 : ((s[i].toNat : Int) == 43) = false) (hc3 : ((s[i].toNat : Int) == 59) = false) (hc4 : ((s[i].toNat : Int) == 46) = true) (hc5 : ((s[i + 1].toNat : Int) != 46) = false) :
    Calls Try.prog 99 #[.pointer (some ⟨b, 0, none⟩)] w fun e w' =>
      e = .returned (markRes (s.extract i (i + 2))) ∧ RdP w' b s (i + 2) ∧ Touch b w w' := by
  have hr' := hid hr
  have hlb := RdP.lt hr
  obtain ⟨hz, h0, h1, h2, h3, f1, f2, f3⟩ := Rd.f hr
  clear hr h2 h3 f1 f2 f3
  have nn : w.heap.size ≠ b := Nat.ne_of_gt hlb
  have hd : ((i : Int) + 1 == s.size) = false := by rw [beq_eq_false_iff_ne]; omega
  have hi0 : i < s.size := by omega
  go_enter Try.func99, Try.ntmps99
  go_wp2_with fail
  go_quiet (fail)
  go_wp2_with fail
  have p1 : IntKind.i64.wrap ((i : Int) + 1) = (i : Int) + 1 := IntWalk.i64_in _ (by omega)
  have p2 : (0 : Int) ≤ (i : Int) + 1 := by omega
  have p3 : ((i : Int) + 1).toNat = i + 1 := by omega
  have p4 : (i : Int) + 1 < (s.size : Int) := by omega
  go_quiet (fail)
  (try clear p1); (try clear p3); (try clear p2)
  go_wp2_with fail
  have q1 : IntKind.i64.wrap ((i : Int) + 2) = (i : Int) + 2 := IntWalk.i64_in _ (by omega)
  have q2 : (0 : Int) ≤ (i : Int) + 2 := by omega
  have q3 : ((i : Int) + 2).toNat = i + 2 := by omega
  have q4 : (i : Int) ≤ (i : Int) + 2 := by omega
  have q5 : (i : Int) + 2 ≤ (s.size : Int) := by omega
  have q6 : i + 2 ≤ s.size := by omega
  go_region_held3 (fun w' => w'.cell? ⟨b, 0, none⟩ = some (.string s) ∧ w'.cell? ⟨b, 1, none⟩ = some (.int .i64 i)) (go_keep) (first | fail)
  clear q1 q2 q3 q4 q5
  go_wp2_with fail
  go_loopw [64] (fun u wr => ∃ k : Nat, k ≤ 2 ∧ u = .int .i64 k ∧ RdP wr b s (i + k) ∧ Touch b w wr ∧ Blk wr w.heap.size #[.int .i64 0, .string ⟨#[]⟩, .int .i64 0, .int .i64 0, .int .i64 0] 109 ∧
    Blk wr (w.heap.size + 1) #[.int .i64 4, .string (s.extract i (i + 2)), .int .i64 0, .int .i64 0, .int .i64 0] 109) (fun u _ => 2 - (intOf u).toNat)
  case atStart =>
    refine ⟨0, Nat.zero_le _, rfl, ?_, ?_, ?_, ?_⟩
    · exact ((hr'.out.alloc _).drewN _).alloc _
    · exact (((Touch.refl b w).alloc _).drewN _).alloc _
    · exact ((Blk.new w _ _).drewN _).alloc _
    · exact Blk.newAt (by simp) _ _
  case round =>
    obtain ⟨k, hk, rfl, hrk, htk, hB, hT⟩ := hrel
    have hrk' := hid hrk
    have htk' := hid htk
    have hB' := hid hB
    have hT' := hid hT
    clear hrk htk hB hT
    by_cases hlt : k < 2
    · go_wp2_with fail
      refine (step_any hrk'.out (by omega) hs).mono ?_
      rintro e w2 ⟨rfl, hr2, ht2⟩
      have hr2' := hid hr2
      clear hr2
      go_wp2_with fail
      go_roundw
      case rel => exact ⟨k + 1, by omega, by go_num, hr2'.out, htk'.out.trans ht2, hB'.out.touch ht2 (by omega), hT'.out.touch ht2 (by omega)⟩
      case measure => simp [intOf]; omega
    · obtain rfl : k = 2 := by omega
      obtain ⟨c0, c1, c2, c3, c4, cf, cz⟩ := hT'.out.five
      obtain ⟨d0, d1, d2, d3, d4, df, dz⟩ := hB'.out.five
      have hne2 : b ≠ w.heap.size := by omega
      have hn2 := Nat.le_refl w.heap.size
      go_wp2_with fail
      exact bodyPost_ret (v := markRes (s.extract i (i + 2))) (by simp [results, Try.results99, go_sem, markRes, tokV, d0, d1, d2, d3, d4]) rfl ⟨rfl, (by unfold RdP Rd; simp only [Blk.setOther_iff hne2]; exact hrk'.out), (by simp only [Touch.setNew_iff hn2]; exact htk'.out)⟩

end Go.Proofs.Ytelphkhacadfaaa
