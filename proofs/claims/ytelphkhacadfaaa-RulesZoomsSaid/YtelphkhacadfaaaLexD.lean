/- The walks of package lex: name, digits, mark, next. -/
import Derived.Test.YtelphkhacadfaaaLexC
namespace Go.Proofs.Ytelphkhacadfaaa
open Go.RowKit Go.Sort

/-- a token's value -/
def tokV (k : Nat) (t : ByteArray) (n l c : Nat) : Value := .agg #[.int .i64 k, .string t, .int .i64 n, .int .i64 l, .int .i64 c]

theorem extract_list (s : ByteArray) (i j : Nat) : (s.extract i j).data.toList = (s.data.toList.drop i).take (j - i) := by
  rw [ByteArray.data_extract, Array.toList_extract]
theorem extract_size' (s : ByteArray) (i n : Nat) (h : i + n ≤ s.size) : (s.extract i (i + n)).size = n := by
  rw [ByteArray.size_extract]; omega
theorem take_runN (p : UInt8 → Bool) (l : Lx.Bytes) : l.take (Lx.runN p l) = l.takeWhile p := by
  have h := List.takeWhile_append_dropWhile (p := p) (l := l)
  have h2 := congrArg (List.take (Lx.runN p l)) h
  unfold Lx.runN at *
  rw [List.take_left] at h2
  exact h2.symm
theorem extract_run (s : ByteArray) (i : Nat) (p : UInt8 → Bool) : (s.extract i (i + Lx.runN p (s.data.toList.drop i))).data.toList = (s.data.toList.drop i).takeWhile p := by
  rw [extract_list, Nat.add_sub_cancel_left, take_runN]

/-- what 'name' gives back -/
def nameRes (s : ByteArray) (i : Nat) : Value :=
  .tuple #[tokV (if Lx.isWord ((s.data.toList.drop i).takeWhile Lx.inner) then 2 else 1) (s.extract i (i + Lx.runN Lx.inner (s.data.toList.drop i))) 0 0 0,
    .int .i64 (if 16 < Lx.runN Lx.inner (s.data.toList.drop i) then 2 else 0)]

set_option maxHeartbeats 1000000 in
theorem lexname_any {b : Nat} {s : ByteArray} {i : Nat} {w : World} (hr : RdP w b s i) (hi : i < s.size) (hs : s.size ≤ 140737488355328) :
    Calls Try.prog 100 #[.pointer (some ⟨b, 0, none⟩)] w fun e w' =>
      e = .returned (nameRes s i) ∧ RdP w' b s (i + Lx.runN Lx.inner (s.data.toList.drop i)) ∧ Touch b w w' := by
  have hle := Lx.runN_le Lx.inner (s.data.toList.drop i)
  rw [List.length_drop, list_len] at hle
  have hx := hid (extract_run s i Lx.inner)
  have hxs := extract_size' s i (Lx.runN Lx.inner (s.data.toList.drop i)) (by omega)
  have hr' := hid hr
  have hlb := RdP.lt hr
  clear hr
  go_enter Try.func100, Try.ntmps100
  go_wp2_with fail
  have B0 := hid (Blk.new w #[.int .i64 0, .string ⟨#[]⟩, .int .i64 0, .int .i64 0, .int .i64 0] 109)
  refine (while_any _ holds_inner (RdP.ext hr'.out (balloc _ _)) (by omega) hs).mono ?_
  rintro e w1 ⟨rfl, hr1, ht1⟩
  have hres0 := hid (show nameRes s i = .tuple #[tokV (if Lx.isWord ((s.data.toList.drop i).takeWhile Lx.inner) then 2 else 1) (s.extract i (i + Lx.runN Lx.inner (s.data.toList.drop i))) 0 0 0, .int .i64 (if 16 < Lx.runN Lx.inner (s.data.toList.drop i) then 2 else 0)] from rfl)
  rw [← hx.out] at hres0
  generalize hn : Lx.runN Lx.inner (s.data.toList.drop i) = n at *
  generalize htx : s.extract i (i + n) = tx at *
  have hr1' := hid hr1
  have hn' := hid hn
  have B1 := hid (B0.out.touch ht1 (by omega))
  clear hr1 hn htx
  go_wp2_with fail
  have hz1 := ht1.size
  simp only [World.size_alloc] at hz1
  have T1 := hid (Blk.new w1 #[.int .i64 1, .string tx, .int .i64 0, .int .i64 0, .int .i64 0] 109)
  refine (word_any _ _).mono ?_
  rintro e w2 ⟨rfl, hb2⟩
  have hr2' := hid (RdP.ext (RdP.ext hr1'.out (balloc w1 _)) hb2)
  have T2 := hid (T1.out.ext hb2)
  have B2 := hid ((B1.out.alloc _).ext hb2)
  have Q2 := hid ((((Touch.refl b w).alloc _).trans ht1).alloc _ |>.below hb2)
  have hbb : b < w1.heap.size := RdP.lt hr1'.out
  obtain ⟨c0, c1, c2, c3, c4, cf, cz⟩ := T2.out.five
  obtain ⟨d0, d1, d2, d3, d4, df, dz⟩ := B2.out.five
  have hne1 : b ≠ w1.heap.size := by omega
  have hne2 : b ≠ w.heap.size := by omega
  have hn1 : w.heap.size ≤ w1.heap.size := by omega
  have hn2 := Nat.le_refl w.heap.size
  by_cases hisw : Lx.isWord tx.data.toList = true
  · by_cases h16 : 16 < n
    · have hres := hid (show nameRes s i = .tuple #[tokV 2 tx 0 0 0, .int .i64 2] by rw [hres0.out, hisw, if_pos h16]; rfl)
      clear hres0
      go_wp2_with fail
      rw [hn'.out, hres.out]
      exact bodyPost_ret (v := .tuple #[tokV 2 tx 0 0 0, .int .i64 2]) (by simp [results, Try.results100, go_sem, tokV, d0, d1, d2, d3, d4]) rfl ⟨rfl, (by unfold RdP Rd; simp only [Blk.setOther_iff hne1, Blk.setOther_iff hne2]; exact hr2'.out), (by simp only [Touch.setNew_iff hn1, Touch.setNew_iff hn2]; exact Q2.out)⟩
    · have hres := hid (show nameRes s i = .tuple #[tokV 2 tx 0 0 0, .int .i64 0] by rw [hres0.out, hisw, if_neg h16]; rfl)
      clear hres0
      go_wp2_with fail
      rw [hn'.out, hres.out]
      exact bodyPost_ret (v := .tuple #[tokV 2 tx 0 0 0, .int .i64 0]) (by simp [results, Try.results100, go_sem, tokV, d0, d1, d2, d3, d4]) rfl ⟨rfl, (by unfold RdP Rd; simp only [Blk.setOther_iff hne1, Blk.setOther_iff hne2]; exact hr2'.out), (by simp only [Touch.setNew_iff hn1, Touch.setNew_iff hn2]; exact Q2.out)⟩
  · have hisw' : Lx.isWord tx.data.toList = false := by simpa using hisw
    clear hisw
    by_cases h16 : 16 < n
    · have hres := hid (show nameRes s i = .tuple #[tokV 1 tx 0 0 0, .int .i64 2] by rw [hres0.out, hisw', if_pos h16]; rfl)
      clear hres0
      go_wp2_with fail
      rw [hn'.out, hres.out]
      exact bodyPost_ret (v := .tuple #[tokV 1 tx 0 0 0, .int .i64 2]) (by simp [results, Try.results100, go_sem, tokV, d0, d1, d2, d3, d4]) rfl ⟨rfl, (by unfold RdP Rd; simp only [Blk.setOther_iff hne2]; exact hr2'.out), (by simp only [Touch.setNew_iff hn2]; exact Q2.out)⟩
    · have hres := hid (show nameRes s i = .tuple #[tokV 1 tx 0 0 0, .int .i64 0] by rw [hres0.out, hisw', if_neg h16]; rfl)
      clear hres0
      go_wp2_with fail
      rw [hn'.out, hres.out]
      exact bodyPost_ret (v := .tuple #[tokV 1 tx 0 0 0, .int .i64 0]) (by simp [results, Try.results100, go_sem, tokV, d0, d1, d2, d3, d4]) rfl ⟨rfl, (by unfold RdP Rd; simp only [Blk.setOther_iff hne2]; exact hr2'.out), (by simp only [Touch.setNew_iff hn2]; exact Q2.out)⟩

end Go.Proofs.Ytelphkhacadfaaa
