/- The walks of package lex: skip, begin, End, Word, Name, number. -/
import Derived.Test.YtelphkhacadfaaaLexA
namespace Go.Proofs.Ytelphkhacadfaaa
open Go.RowKit Go.Sort

theorem skip_any {b : Nat} {s : ByteArray} {i : Nat} {w : World} (hr : RdP w b s i) (hi : i ≤ s.size) (hs : s.size ≤ 140737488355328) :
    Calls Try.prog 76 #[.pointer (some ⟨b, 0, none⟩)] w fun e w' =>
      e = .returned (.tuple #[]) ∧ RdP w' b s (i + Lx.skipN false (s.data.toList.drop i)) ∧ Touch b w w' := by
  have hr' := hid hr
  clear hr
  go_enter Try.func76, Try.ntmps76
  go_wp2
  go_loopg [3] (s.size - i) (fun k _ wr => ∃ j, i ≤ j ∧ j ≤ s.size ∧ k = s.size - j ∧ RdP wr b s j ∧ Touch b w wr ∧ j + Lx.skipN false (s.data.toList.drop j) = i + Lx.skipN false (s.data.toList.drop i))
  case atStart => exact ⟨i, Nat.le_refl _, hi, rfl, hr'.out, Touch.refl _ _, rfl⟩
  case round =>
    obtain ⟨j, hij, hjs, hk, hrj, htj, hsum⟩ := hrel
    have hsum' := hid hsum
    have hk' := hid hk
    have hrj' := hid hrj
    clear hsum hk hrj
    have hblk := Lx.skipN_blanks (s.data.toList.drop j)
    have hle := Lx.runN_le Lx.blank (s.data.toList.drop j)
    rw [List.length_drop, list_len] at hle
    rw [List.drop_drop] at hblk
    go_wp2_with fail
    refine (while_any _ holds_blank hrj'.out hjs hs).mono ?_
    rintro e w1 ⟨rfl, hr1, ht1⟩
    generalize hm : Lx.runN Lx.blank (s.data.toList.drop j) = m at *
    have hm' := hid hm
    have hblk' := hid hblk
    have hr1' := hid hr1
    clear hm hblk hr1
    go_wp2_with fail
    refine (more_any _ holds_35 hr1'.out).mono ?_
    rintro e w2 ⟨rfl, hb2⟩
    have hr2' := hid (RdP.ext hr1'.out hb2)
    by_cases hh : Lx.hdIs (· == 35) (s.data.toList.drop (j + m)) = true
    · have hrem := Lx.skipN_remark hh
      have hle2 := Lx.runN_le Lx.not10 (s.data.toList.drop (j + m))
      rw [List.length_drop, list_len] at hle2
      rw [List.drop_drop] at hrem
      have hrem' := hid hrem
      clear hrem
      have hpos : 0 < Lx.runN Lx.not10 (s.data.toList.drop (j + m)) := by
        have hlt := Lx.lt_of_hdIs hh
        rw [Lx.hdIs_lt hlt] at hh
        have h35 : s.data.toList[j + m] = 35 := by simpa using hh
        rw [Lx.runN_step (by rw [Lx.hdIs_lt hlt, h35]; rfl)]; omega
      go_wp2_with fail
      refine (while_any _ holds_not10 hr2'.out (by omega) hs).mono ?_
      rintro e w3 ⟨rfl, hr3, ht3⟩
      generalize hn : Lx.runN Lx.not10 (s.data.toList.drop (j + m)) = n at *
      have hn' := hid hn
      have hr3' := hid hr3
      clear hn hr3
      go_wp2_with fail
      go_roundg (s.size - (j + m + n))
      case measure => have := hk'.out; omega
      case rel => exact ⟨j + m + n, by omega, by omega, rfl, hr3'.out, ((htj.trans ht1).below hb2).trans ht3, by have := hsum'.out; have := hblk'.out; have := hrem'.out; omega⟩
    · have hh' : Lx.hdIs (· == 35) (s.data.toList.drop (j + m)) = false := by simpa using hh
      have hz : Lx.skipN false (s.data.toList.drop (j + m)) = 0 := by
        refine Lx.skipN_stop ?_ hh'
        have := Lx.hdIs_drop_runN Lx.blank (s.data.toList.drop j)
        rwa [hm'.out, List.drop_drop] at this
      have hfin := hid (show i + Lx.skipN false (s.data.toList.drop i) = j + m by have := hsum'.out; have := hblk'.out; omega)
      clear hh hz
      go_wp2
      refine bodyPost_ret (results_none rfl _ _ _) rfl ?_
      rw [hfin.out]
      exact ⟨rfl, hr2'.out, (htj.trans ht1).below hb2⟩

theorem begin_any (s : ByteArray) (w : World) :
    Calls Try.prog 74 #[.string s] w fun e w' => ∃ b, e = .returned (.pointer (some ⟨b, 0, none⟩)) ∧ w.heap.size ≤ b ∧ RdP w' b s 0 ∧ Below w.heap.size w w' := by
  go_enter Try.func74, Try.ntmps74
  go_wp2
  go_ret
  exact ⟨_, rfl, Nat.le_refl _, Blk.new _ _ _, balloc _ _⟩

theorem end_any (s : ByteArray) (w : World) (hs : s.size ≤ 140737488355328) :
    Calls Try.prog 55 #[.string s] w fun e w' => e = .returned (.agg #[.int .i64 (Lx.posOf s.data.toList).1, .int .i64 (Lx.posOf s.data.toList).2]) ∧ Below w.heap.size w w' := by
  have hall : Lx.runN (fun _ => true) s.data.toList = s.size := by
    unfold Lx.runN
    have : ∀ l : Lx.Bytes, (l.takeWhile fun _ => true) = l := fun l => by induction l with | nil => rfl | cons c l ih => simp [ih]
    rw [this]
    simp
  have htk : s.data.toList.take s.size = s.data.toList := List.take_of_length_le (by simp)
  have hall' := hid hall
  have htk' := hid htk
  clear hall htk
  go_enter Try.func55, Try.ntmps55
  go_wp2_with fail
  have B0 := hid (Blk.new w #[.int .i64 0, .int .i64 0] 27)
  refine (begin_any s _).mono ?_
  rintro e w1 ⟨b, rfl, hlb, hr1, hb1⟩
  simp only [World.size_alloc] at hlb
  have hr1' := hid hr1
  have B1 := hid (B0.out.ext hb1)
  clear hr1
  go_wp2_with fail
  refine (while_any _ holds_all hr1'.out (Nat.zero_le _) hs).mono ?_
  rintro e w2 ⟨rfl, hr2, ht2⟩
  have B2 := hid (B1.out.touch ht2 (by omega))
  have hr2' : Hid (RdP w2 b s s.size) := by have h := hr2; rw [List.drop_zero, hall'.out, Nat.zero_add] at h; exact h
  clear hr2
  go_wp2_with fail
  refine (place_any hr2'.out).mono ?_
  rintro e w3 ⟨rfl, hb3⟩
  have B3 := hid (B2.out.ext hb3)
  obtain ⟨c0, c1, f, hz3⟩ := B3.out.two
  go_wp2
  rw [htk'.out]
  refine bodyPost_ret (v := .agg #[.int .i64 (Lx.posOf s.data.toList).1, .int .i64 (Lx.posOf s.data.toList).2]) (by simp [results, Try.results55, go_sem, c0, c1]) rfl ⟨rfl, ?_⟩
  have h1 : Below w.heap.size w w1 := (balloc w _).trans (hb1.mono (by simp))
  have h2 : Below w.heap.size w w2 := h1.trans (ht2.to_below h1.size (by omega))
  exact bset (bset (h2.trans (hb3.mono h2.size)) (Nat.le_refl _) _) (Nat.le_refl _) _

end Go.Proofs.Ytelphkhacadfaaa
