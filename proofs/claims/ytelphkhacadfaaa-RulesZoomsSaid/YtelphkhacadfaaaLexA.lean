/- The walks of package lex: bytes, the reader's methods. -/
import Derived.Test.YtelphkhacadfaaaBase
import Derived.Test.YtelphkhacadfaaaLexSpec
namespace Go.Proofs.Ytelphkhacadfaaa
open Go.RowKit Go.Sort

theorem u8_le (k : UInt8) (n : Int) (h : (k.toNat : Int) = n) (c : UInt8) : decide (k ≤ c) = decide (n ≤ c.toNat) := by
  subst h
  simp only [UInt8.le_iff_toNat_le, Int.ofNat_le]
theorem u8_ge (k : UInt8) (n : Int) (h : (k.toNat : Int) = n) (c : UInt8) : decide (c ≤ k) = decide ((c.toNat : Int) ≤ n) := by
  subst h
  simp only [UInt8.le_iff_toNat_le, Int.ofNat_le]
theorem u8_eq (k : UInt8) (n : Int) (h : (k.toNat : Int) = n) (c : UInt8) : (c == k) = ((c.toNat : Int) == n) := by
  subst h
  by_cases h' : c = k
  · subst h'; simp
  · have : c.toNat ≠ k.toNat := fun e => h' (UInt8.toNat_inj.1 e)
    rw [beq_eq_false_iff_ne.2 h', beq_eq_false_iff_ne.2 (by omega)]
theorem letter_eq (c : UInt8) : Lx.letter c = (decide ((97 : Int) ≤ c.toNat) && decide ((c.toNat : Int) ≤ 122)) := by
  unfold Lx.letter; rw [u8_le 97 97 rfl, u8_ge 122 122 rfl]
theorem digit_eq (c : UInt8) : Lx.digit c = (decide ((48 : Int) ≤ c.toNat) && decide ((c.toNat : Int) ≤ 57)) := by
  unfold Lx.digit; rw [u8_le 48 48 rfl, u8_ge 57 57 rfl]
theorem blank_eq (c : UInt8) : Lx.blank c = (((c.toNat : Int) == 32) || ((c.toNat : Int) == 10)) := by
  unfold Lx.blank; rw [u8_eq 32 32 rfl, u8_eq 10 10 rfl]

theorem letter_any (c : UInt8) (w : World) : Calls Try.prog 88 #[.int .u8 c.toNat] w fun e w' => e = .returned (.bool (Lx.letter c)) ∧ w = w' := by
  rw [letter_eq]
  go_enter Try.func88, Try.ntmps88
  go_wp2
  all_goals (go_ret; exact ⟨ret_bool (by first | rfl | (rw [Bool.eq_iff_iff]; simp; done) | (rw [Bool.eq_iff_iff]; simp; omega)), rfl⟩)
theorem digit_any (c : UInt8) (w : World) : Calls Try.prog 101 #[.int .u8 c.toNat] w fun e w' => e = .returned (.bool (Lx.digit c)) ∧ w = w' := by
  rw [digit_eq]
  go_enter Try.func101, Try.ntmps101
  go_wp2
  all_goals (go_ret; exact ⟨ret_bool (by first | rfl | (rw [Bool.eq_iff_iff]; simp; done) | (rw [Bool.eq_iff_iff]; simp; omega)), rfl⟩)
theorem blank_any (c : UInt8) (w : World) : Calls Try.prog 95 #[.int .u8 c.toNat] w fun e w' => e = .returned (.bool (Lx.blank c)) ∧ w = w' := by
  rw [blank_eq]
  go_enter Try.func95, Try.ntmps95
  go_wp2
  all_goals (go_ret; exact ⟨ret_bool (by first | rfl | (rw [Bool.eq_iff_iff]; simp; done) | (rw [Bool.eq_iff_iff]; simp; omega)), rfl⟩)
theorem is35_any (c : UInt8) (w : World) : Calls Try.prog 97 #[.int .u8 c.toNat] w fun e w' => e = .returned (.bool (c == 35)) ∧ w = w' := by
  rw [u8_eq 35 35 rfl]
  go_enter Try.func97, Try.ntmps97
  go_wp2
  all_goals (go_ret; exact ⟨rfl, rfl⟩)
theorem not10_any (c : UInt8) (w : World) : Calls Try.prog 98 #[.int .u8 c.toNat] w fun e w' => e = .returned (.bool (Lx.not10 c)) ∧ w = w' := by
  unfold Lx.not10
  rw [bne, u8_eq 10 10 rfl]
  go_enter Try.func98, Try.ntmps98
  go_wp2
  all_goals (go_ret; exact ⟨rfl, rfl⟩)
theorem all_any (c : UInt8) (w : World) : Calls Try.prog 79 #[.int .u8 c.toNat] w fun e w' => e = .returned (.bool ((fun _ => true) c)) ∧ w = w' := by
  go_enter Try.func79, Try.ntmps79
  go_wp2
  all_goals (go_ret; exact ⟨rfl, rfl⟩)
theorem inner_any (c : UInt8) (w : World) : Calls Try.prog 90 #[.int .u8 c.toNat] w fun e w' => e = .returned (.bool (Lx.inner c)) ∧ w = w' := by
  unfold Lx.inner
  rw [u8_eq 45 45 rfl]
  go_enter Try.func90, Try.ntmps90
  go_wp2_with (first | (go_at_call 88; refine (letter_any _ _).mono ?_; rintro e w' ⟨rfl, rfl⟩) | (go_at_call 101; refine (digit_any _ _).mono ?_; rintro e w' ⟨rfl, rfl⟩))
  all_goals (go_ret; exact ⟨ret_bool (by simp [*]), rfl⟩)

/-- the reader stands at byte i of s -/
def Rd (w : World) (b : Nat) (s : ByteArray) (i line col : Nat) : Prop := Blk w b #[.string s, .int .i64 i, .int .i64 line, .int .i64 col] 107
def RdP (w : World) (b : Nat) (s : ByteArray) (i : Nat) : Prop := Rd w b s i (Lx.posOf (s.data.toList.take i)).1 (Lx.posOf (s.data.toList.take i)).2

structure RdF (w : World) (b : Nat) (s : ByteArray) (i line col : Nat) : Prop where
  lt : b < w.heap.size
  c0 : w.cell? ⟨b, 0, none⟩ = some (.string s)
  c1 : w.cell? ⟨b, 1, none⟩ = some (.int .i64 i)
  c2 : w.cell? ⟨b, 2, none⟩ = some (.int .i64 line)
  c3 : w.cell? ⟨b, 3, none⟩ = some (.int .i64 col)
  f1 : w.frozen? ⟨b, 1, none⟩ = false
  f2 : w.frozen? ⟨b, 2, none⟩ = false
  f3 : w.frozen? ⟨b, 3, none⟩ = false
theorem Rd.f {w : World} {b : Nat} {s : ByteArray} {i line col : Nat} (h : Rd w b s i line col) : RdF w b s i line col :=
  ⟨Blk.lt h, Blk.cell h 0 rfl, Blk.cell h 1 rfl, Blk.cell h 2 rfl, Blk.cell h 3 rfl, Blk.free h 1, Blk.free h 2, Blk.free h 3⟩
theorem Rd.ext {w w' : World} {b : Nat} {s : ByteArray} {i line col : Nat} (h : Rd w b s i line col) (hb : Below w.heap.size w w') : Rd w' b s i line col := Blk.ext h hb
theorem RdP.ext {w w' : World} {b : Nat} {s : ByteArray} {i : Nat} (h : RdP w b s i) (hb : Below w.heap.size w w') : RdP w' b s i := Blk.ext h hb
theorem RdP.lt {w : World} {b : Nat} {s : ByteArray} {i : Nat} (h : RdP w b s i) : b < w.heap.size := Blk.lt h

theorem list_get (s : ByteArray) (i : Nat) (h : i < s.size) : s.data.toList[i]'(by simpa using h) = s[i] := rfl
theorem list_len (s : ByteArray) : s.data.toList.length = s.size := by simp

theorem step_any {b : Nat} {s : ByteArray} {i : Nat} {w : World} (hr : RdP w b s i) (hl : i < s.size) (hs : s.size ≤ 140737488355328) :
    Calls Try.prog 103 #[.pointer (some ⟨b, 0, none⟩)] w fun e w' => e = .returned (.tuple #[]) ∧ RdP w' b s (i + 1) ∧ Touch b w w' := by
  have hp := Lx.posOf_le (s.data.toList.take i)
  have ht : (s.data.toList.take i).length = i := by rw [List.length_take, list_len]; omega
  have hq := hid (Lx.posOf_succ (L := s.data.toList) (i := i) (by simpa using hl))
  rw [ht] at hp
  unfold RdP at hr ⊢
  generalize hg : Lx.posOf (s.data.toList.take i) = p at *
  obtain ⟨line, col⟩ := p
  simp only at hr hp
  clear hg ht
  have H := hid hr
  obtain ⟨hz, h0, h1, h2, h3, f1, f2, f3⟩ := hr.f
  clear hr
  go_enter Try.func103, Try.ntmps103
  go_wp2
  go_quiet (fail)
  go_wp2
  · have e : s[i] = 10 := by rename_i h; rw [← u8_eq 10 10 rfl] at h; simpa using h
    go_end0
    refine ⟨rfl, ?_, ((((Touch.refl b w).setCell 3 _).drewN nq).setCell 2 _ |>.setCell 3 _).setCell 1 _⟩
    rw [hq.out, list_get _ _ hl]
    simp only [Lx.adv, e, if_true]
    exact (((H.out.set 3 _).drewN nq).set 2 _ |>.set 3 _).set 1 _
  · have e : ¬ s[i] = 10 := by rename_i h; rw [← u8_eq 10 10 rfl] at h; simpa using h
    go_end0
    refine ⟨rfl, ?_, (((Touch.refl b w).setCell 3 _).drewN nq).setCell 1 _⟩
    rw [hq.out, list_get _ _ hl]
    simp only [Lx.adv, e, if_false]
    exact ((H.out.set 3 _).drewN nq).set 1 _

theorem place_any {b : Nat} {s : ByteArray} {i line col : Nat} {w : World} (hr : Rd w b s i line col) :
    Calls Try.prog 75 #[.pointer (some ⟨b, 0, none⟩)] w fun e w' => e = .returned (.agg #[.int .i64 line, .int .i64 col]) ∧ Below w.heap.size w w' := by
  obtain ⟨hz, h0, h1, h2, h3, f1, f2, f3⟩ := hr.f
  clear hr
  go_enter Try.func75, Try.ntmps75
  go_wp2
  go_region
  go_wp2
  exact bodyPost_ret (v := .agg #[.int .i64 line, .int .i64 col]) (by simp [results, Try.results75, go_sem]) rfl ⟨rfl, (balloc w _).drew⟩

/-- a contract of a function on bytes -/
structure Holds (g : Nat) (p : UInt8 → Bool) : Prop where
  enter : ∀ (args : Array Value) (w : World), Sem.run Try.prog (callFunc g args) w = .ok (.enter g args) w
  run : ∀ (c : UInt8) (w : World), Calls Try.prog g #[.int .u8 c.toNat] w fun e w' => e = .returned (.bool (p c)) ∧ w = w'
theorem holds_letter : Holds 88 Lx.letter := ⟨fun _ _ => by kernel_rfl, letter_any⟩
theorem holds_digit : Holds 101 Lx.digit := ⟨fun _ _ => by kernel_rfl, digit_any⟩
theorem holds_inner : Holds 90 Lx.inner := ⟨fun _ _ => by kernel_rfl, inner_any⟩
theorem holds_blank : Holds 95 Lx.blank := ⟨fun _ _ => by kernel_rfl, blank_any⟩
theorem holds_35 : Holds 97 (· == 35) := ⟨fun _ _ => by kernel_rfl, is35_any⟩
theorem holds_not10 : Holds 98 Lx.not10 := ⟨fun _ _ => by kernel_rfl, not10_any⟩
theorem holds_all : Holds 79 (fun _ => true) := ⟨fun _ _ => by kernel_rfl, all_any⟩

theorem more_any {b : Nat} {s : ByteArray} {i line col : Nat} {w : World} (g : Nat) {p : UInt8 → Bool} (hp : Holds g p) (hr : Rd w b s i line col) :
    Calls Try.prog 96 #[.pointer (some ⟨b, 0, none⟩), .func (.func g) #[] #[]] w fun e w' => e = .returned (.bool (Lx.hdIs p (s.data.toList.drop i))) ∧ Below w.heap.size w w' := by
  obtain ⟨hz, h0, h1, h2, h3, f1, f2, f3⟩ := hr.f
  clear hr
  by_cases hlt : i < s.size
  · rw [Lx.hdIs_lt (by simpa using hlt), list_get _ _ hlt]
    have hen := hp.enter
    have hru := hid hp.run
    clear hp
    go_enter Try.func96, Try.ntmps96
    go_wp2
    go_quiet ((exact Calls.quiet_of_same ((hru.out _ _).mono fun _ _ h => ⟨h.1, h.2.symm⟩)))
    go_wp2
    go_ret
    exact ⟨rfl, bdrewN (Below.refl _ _) _⟩
  · rw [Lx.hdIs_ge (by simpa using hlt)]
    have hd : decide (i < s.size) = false := by simpa using hlt
    go_enter Try.func96, Try.ntmps96
    go_wp2
    go_quiet (fail)
    go_wp2
    go_ret
    exact ⟨rfl, bdrewN (Below.refl _ _) _⟩

theorem while_any {b : Nat} {s : ByteArray} {i : Nat} {w : World} (g : Nat) {p : UInt8 → Bool} (hp : Holds g p) (hr : RdP w b s i) (hi : i ≤ s.size) (hs : s.size ≤ 140737488355328) :
    Calls Try.prog 78 #[.pointer (some ⟨b, 0, none⟩), .func (.func g) #[] #[]] w fun e w' =>
      e = .returned (.string (s.extract i (i + Lx.runN p (s.data.toList.drop i)))) ∧ RdP w' b s (i + Lx.runN p (s.data.toList.drop i)) ∧ Touch b w w' := by
  have hp' := hid hp
  have hr' := hid hr
  obtain ⟨hz, h0, h1, h2, h3, f1, f2, f3⟩ := Rd.f hr
  clear hp hr
  go_enter Try.func78, Try.ntmps78
  go_wp2
  go_loopg [12] (s.size - i) (fun k _ wr => ∃ j, i ≤ j ∧ j ≤ s.size ∧ k = s.size - j ∧ RdP wr b s j ∧ Touch b w wr ∧ j + Lx.runN p (s.data.toList.drop j) = i + Lx.runN p (s.data.toList.drop i))
  case atStart => exact ⟨i, Nat.le_refl _, hi, rfl, hr'.out, Touch.refl _ _, rfl⟩
  case round =>
    obtain ⟨j, hij, hjs, hk, hrj, htj, hsum⟩ := hrel
    have hsum' := hid hsum
    have hk' := hid hk
    have hrj' := hid hrj
    clear hsum hk
    go_wp2_with fail
    refine (more_any _ hp'.out hrj).mono ?_
    rintro e w1 ⟨rfl, hb1⟩
    have hr1 := hid (RdP.ext hrj hb1)
    clear hrj
    by_cases hh : Lx.hdIs p (s.data.toList.drop j) = true
    · have hlt : j < s.size := by simpa using Lx.lt_of_hdIs hh
      go_wp2_with fail
      refine (step_any hr1.out hlt hs).mono ?_
      rintro e w2 ⟨rfl, hr2, ht2⟩
      have hr2' := hid hr2
      clear hr2
      go_wp2_with fail
      go_roundg (s.size - (j + 1))
      case measure => have := hk'.out; omega
      case rel => exact ⟨j + 1, by omega, by omega, rfl, hr2'.out, (htj.below hb1).trans ht2, by have := Lx.runN_step hh; have := hsum'.out; omega⟩
    · have hh' : Lx.hdIs p (s.data.toList.drop j) = false := by simpa using hh
      have hz := Lx.runN_stop hh'
      have hsum := hsum'.out
      have hj : i + Lx.runN p (s.data.toList.drop i) = j := by omega
      clear hh hsum hz hsum'
      have hj' := hid hj
      clear hj
      obtain ⟨hz, g0, g1, g2, g3, k1, k2, k3⟩ := Rd.f hr1.out
      go_wp2
      go_quiet (fail)
      go_wp2
      go_ret
      rw [hj'.out]
      exact ⟨rfl, hr1.out.drewN _, (htj.below hb1).drewN _⟩

end Go.Proofs.Ytelphkhacadfaaa
