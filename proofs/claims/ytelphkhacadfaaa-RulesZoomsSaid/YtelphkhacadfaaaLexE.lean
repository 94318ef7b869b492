/- The walks of package lex: digits, mark, next. -/
import Derived.Test.YtelphkhacadfaaaLexD
namespace Go.Proofs.Ytelphkhacadfaaa
open Go.RowKit Go.Sort

/-- what 'digits' gives back -/
def digitsRes (s : ByteArray) (i : Nat) : Value :=
  .tuple #[tokV 3 (s.extract i (i + Lx.runN Lx.digit (s.data.toList.drop i))) (if (Lx.number ((s.data.toList.drop i).takeWhile Lx.digit)).isSome then Lx.numRet ((s.data.toList.drop i).takeWhile Lx.digit) else 0) 0 0,
    .int .i64 (if (Lx.number ((s.data.toList.drop i).takeWhile Lx.digit)).isSome then 0 else 10)]

theorem digits_all {s : ByteArray} {l : Lx.Bytes} (h : s.data.toList = l.takeWhile Lx.digit) : ∀ (k : Nat) (hk : k < s.size), Lx.digit s[k] = true := by
  intro k hk
  have hm : s[k] ∈ l.takeWhile Lx.digit := by rw [← h, ← list_get s k hk]; exact List.getElem_mem _
  have : ∀ (l : Lx.Bytes) (x : UInt8), x ∈ l.takeWhile Lx.digit → Lx.digit x = true := by
    intro l
    induction l with
    | nil => intro x hx; simp at hx
    | cons c l ih =>
      intro x hx
      by_cases hc : Lx.digit c = true
      · rw [List.takeWhile_cons_of_pos hc] at hx
        rcases List.mem_cons.1 hx with rfl | hx
        · exact hc
        · exact ih x hx
      · rw [List.takeWhile_cons_of_neg hc] at hx; simp at hx
  exact this l _ hm

set_option maxHeartbeats 1000000 in
theorem lexdigits_any {b : Nat} {s : ByteArray} {i : Nat} {w : World} (hr : RdP w b s i) (hi : i < s.size) (hs : s.size ≤ 140737488355328) :
    Calls Try.prog 102 #[.pointer (some ⟨b, 0, none⟩)] w fun e w' =>
      e = .returned (digitsRes s i) ∧ RdP w' b s (i + Lx.runN Lx.digit (s.data.toList.drop i)) ∧ Touch b w w' := by
  have hle := Lx.runN_le Lx.digit (s.data.toList.drop i)
  rw [List.length_drop, list_len] at hle
  have hx := hid (extract_run s i Lx.digit)
  have hxs := extract_size' s i (Lx.runN Lx.digit (s.data.toList.drop i)) (by omega)
  have hr' := hid hr
  have hlb := RdP.lt hr
  clear hr
  go_enter Try.func102, Try.ntmps102
  go_wp2_with fail
  have B0 := hid (Blk.new w #[.int .i64 0, .string ⟨#[]⟩, .int .i64 0, .int .i64 0, .int .i64 0] 109)
  refine (while_any _ holds_digit (RdP.ext hr'.out (balloc _ _)) (by omega) hs).mono ?_
  rintro e w1 ⟨rfl, hr1, ht1⟩
  have hres0 := hid (show digitsRes s i = .tuple #[tokV 3 (s.extract i (i + Lx.runN Lx.digit (s.data.toList.drop i))) (if (Lx.number ((s.data.toList.drop i).takeWhile Lx.digit)).isSome then Lx.numRet ((s.data.toList.drop i).takeWhile Lx.digit) else 0) 0 0,
    .int .i64 (if (Lx.number ((s.data.toList.drop i).takeWhile Lx.digit)).isSome then 0 else 10)] from rfl)
  rw [← hx.out] at hres0
  generalize hn : Lx.runN Lx.digit (s.data.toList.drop i) = n at *
  generalize htx : s.extract i (i + n) = tx at *
  have hr1' := hid hr1
  have hn' := hid hn
  have B1 := hid (B0.out.touch ht1 (by omega))
  have hda := hid (digits_all hx.out)
  clear hr1 hn htx
  go_wp2_with fail
  have hz1 := ht1.size
  simp only [World.size_alloc] at hz1
  refine (number_any _ _ hda.out (by omega)).mono ?_
  rintro e w2 ⟨rfl, rfl⟩
  have Q1 := hid (((Touch.refl b w).alloc _).trans ht1)
  have hbb : b < w1.heap.size := RdP.lt hr1'.out
  obtain ⟨d0, d1, d2, d3, d4, df, dz⟩ := B1.out.five
  have hne1 : b ≠ w1.heap.size := by omega
  have hne2 : b ≠ w.heap.size := by omega
  have hn1 : w.heap.size ≤ w1.heap.size := by omega
  have hn2 := Nat.le_refl w.heap.size
  cases hok : (Lx.number tx.data.toList).isSome with
  | true =>
    have hres := hid (show digitsRes s i = .tuple #[tokV 3 tx (Lx.numRet tx.data.toList) 0 0, .int .i64 0] by rw [hres0.out, hok]; rfl)
    clear hres0
    go_wp2_with fail
    rw [hn'.out, hres.out]
    exact bodyPost_ret (v := .tuple #[tokV 3 tx (Lx.numRet tx.data.toList) 0 0, .int .i64 0]) (by simp [results, Try.results102, go_sem, tokV, d0, d1, d2, d3, d4, dz]) rfl ⟨rfl, Blk.alloc (by simp only [Blk.setOther_iff hne2]; exact hr1'.out) _, Touch.alloc (by simp only [Touch.setNew_iff hn2]; exact Q1.out) _⟩
  | false =>
    have hres := hid (show digitsRes s i = .tuple #[tokV 3 tx 0 0 0, .int .i64 10] by rw [hres0.out, hok]; rfl)
    clear hres0
    go_wp2_with fail
    rw [hn'.out, hres.out]
    exact bodyPost_ret (v := .tuple #[tokV 3 tx 0 0 0, .int .i64 10]) (by simp [results, Try.results102, go_sem, tokV, d0, d1, d2, d3, d4, dz]) rfl ⟨rfl, Blk.alloc (by simp only [Blk.setOther_iff hne2]; exact hr1'.out) _, Touch.alloc (by simp only [Touch.setNew_iff hn2]; exact Q1.out) _⟩

end Go.Proofs.Ytelphkhacadfaaa
