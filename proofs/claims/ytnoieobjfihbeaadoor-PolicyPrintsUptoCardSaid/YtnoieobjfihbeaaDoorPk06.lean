/-
  The walks of package lex: bytes, the reader's methods.
  The walks of package lex: skip, begin, End, Word, Name, number.
  The walks of package lex: words, Word, Name, number.
  The walks of package lex: name, digits, mark, next.
  The walks of package lex: digits, mark, next.
-/
import Derived.Test.YtnoieobjfihbeaaDoorPk05
import Derived.Test.YtnoieobjfihbeaaDoorPk01

namespace Go.Proofs.YtnoieobjfihbeaaDoor
open Go.RowKit Go.Sort

theorem u8_le (k : UInt8) (n : Int) (h : (k.toNat : Int) = n) (c : UInt8) : decide (k ≤ c) = decide (n ≤ c.toNat) := by
  subst h
  simp only [UInt8.le_iff_toNat_le, Int.ofNat_le]
theorem u8_ge (k : UInt8) (n : Int) (h : (k.toNat : Int) = n) (c : UInt8) : decide (c ≤ k) = decide ((c.toNat : Int) ≤ n) := by
  subst h
  simp only [UInt8.le_iff_toNat_le, Int.ofNat_le]
theorem u8_eq (k : UInt8) (n : Int) (h : (k.toNat : Int) = n) (c : UInt8) : (c == k) = ((c.toNat : Int) == n) := by
  subst h
  by_cases h' : c = k
  · subst h'; simp
  · have : c.toNat ≠ k.toNat := fun e => h' (UInt8.toNat_inj.1 e)
    rw [beq_eq_false_iff_ne.2 h', beq_eq_false_iff_ne.2 (by omega)]
theorem letter_eq (c : UInt8) : Lx.letter c = (decide ((97 : Int) ≤ c.toNat) && decide ((c.toNat : Int) ≤ 122)) := by
  unfold Lx.letter; rw [u8_le 97 97 rfl, u8_ge 122 122 rfl]
theorem digit_eq (c : UInt8) : Lx.digit c = (decide ((48 : Int) ≤ c.toNat) && decide ((c.toNat : Int) ≤ 57)) := by
  unfold Lx.digit; rw [u8_le 48 48 rfl, u8_ge 57 57 rfl]
theorem blank_eq (c : UInt8) : Lx.blank c = (((c.toNat : Int) == 32) || ((c.toNat : Int) == 10)) := by
  unfold Lx.blank; rw [u8_eq 32 32 rfl, u8_eq 10 10 rfl]

theorem letter_any (c : UInt8) (w : World) : Calls Tryd.prog 68 #[.int .u8 c.toNat] w fun e w' => e = .returned (.bool (Lx.letter c)) ∧ w = w' := by
  rw [letter_eq]
  go_enter Tryd.func68, Tryd.ntmps68
  go_wp2
  all_goals (go_ret; exact ⟨ret_bool (by first | rfl | (rw [Bool.eq_iff_iff]; simp; done) | (rw [Bool.eq_iff_iff]; simp; omega)), rfl⟩)
theorem digit_any (c : UInt8) (w : World) : Calls Tryd.prog 80 #[.int .u8 c.toNat] w fun e w' => e = .returned (.bool (Lx.digit c)) ∧ w = w' := by
  rw [digit_eq]
  go_enter Tryd.func80, Tryd.ntmps80
  go_wp2
  all_goals (go_ret; exact ⟨ret_bool (by first | rfl | (rw [Bool.eq_iff_iff]; simp; done) | (rw [Bool.eq_iff_iff]; simp; omega)), rfl⟩)
theorem blank_any (c : UInt8) (w : World) : Calls Tryd.prog 74 #[.int .u8 c.toNat] w fun e w' => e = .returned (.bool (Lx.blank c)) ∧ w = w' := by
  rw [blank_eq]
  go_enter Tryd.func74, Tryd.ntmps74
  go_wp2
  all_goals (go_ret; exact ⟨ret_bool (by first | rfl | (rw [Bool.eq_iff_iff]; simp; done) | (rw [Bool.eq_iff_iff]; simp; omega)), rfl⟩)
theorem is35_any (c : UInt8) (w : World) : Calls Tryd.prog 76 #[.int .u8 c.toNat] w fun e w' => e = .returned (.bool (c == 35)) ∧ w = w' := by
  rw [u8_eq 35 35 rfl]
  go_enter Tryd.func76, Tryd.ntmps76
  go_wp2
  all_goals (go_ret; exact ⟨rfl, rfl⟩)
theorem not10_any (c : UInt8) (w : World) : Calls Tryd.prog 77 #[.int .u8 c.toNat] w fun e w' => e = .returned (.bool (Lx.not10 c)) ∧ w = w' := by
  unfold Lx.not10
  rw [bne, u8_eq 10 10 rfl]
  go_enter Tryd.func77, Tryd.ntmps77
  go_wp2
  all_goals (go_ret; exact ⟨rfl, rfl⟩)
theorem all_any (c : UInt8) (w : World) : Calls Tryd.prog 55 #[.int .u8 c.toNat] w fun e w' => e = .returned (.bool ((fun _ => true) c)) ∧ w = w' := by
  go_enter Tryd.func55, Tryd.ntmps55
  go_wp2
  all_goals (go_ret; exact ⟨rfl, rfl⟩)
theorem inner_any (c : UInt8) (w : World) : Calls Tryd.prog 70 #[.int .u8 c.toNat] w fun e w' => e = .returned (.bool (Lx.inner c)) ∧ w = w' := by
  unfold Lx.inner
  rw [u8_eq 45 45 rfl]
  go_enter Tryd.func70, Tryd.ntmps70
  go_wp2_with (first | (go_at_call 68; refine (letter_any _ _).mono ?_; rintro e w' ⟨rfl, rfl⟩) | (go_at_call 80; refine (digit_any _ _).mono ?_; rintro e w' ⟨rfl, rfl⟩))
  all_goals (go_ret; exact ⟨ret_bool (by simp [*]), rfl⟩)

/-- the reader stands at byte i of s -/
def Rd (w : World) (b : Nat) (s : ByteArray) (i line col : Nat) : Prop := Blk w b #[.string s, .int .i64 i, .int .i64 line, .int .i64 col] 90
def RdP (w : World) (b : Nat) (s : ByteArray) (i : Nat) : Prop := Rd w b s i (Lx.posOf (s.data.toList.take i)).1 (Lx.posOf (s.data.toList.take i)).2

structure RdF (w : World) (b : Nat) (s : ByteArray) (i line col : Nat) : Prop where
  lt : b < w.heap.size
  c0 : w.cell? ⟨b, 0, none⟩ = some (.string s)
  c1 : w.cell? ⟨b, 1, none⟩ = some (.int .i64 i)
  c2 : w.cell? ⟨b, 2, none⟩ = some (.int .i64 line)
  c3 : w.cell? ⟨b, 3, none⟩ = some (.int .i64 col)
  f1 : w.frozen? ⟨b, 1, none⟩ = false
  f2 : w.frozen? ⟨b, 2, none⟩ = false
  f3 : w.frozen? ⟨b, 3, none⟩ = false
theorem Rd.f {w : World} {b : Nat} {s : ByteArray} {i line col : Nat} (h : Rd w b s i line col) : RdF w b s i line col :=
  ⟨Blk.lt h, Blk.cell h 0 rfl, Blk.cell h 1 rfl, Blk.cell h 2 rfl, Blk.cell h 3 rfl, Blk.free h 1, Blk.free h 2, Blk.free h 3⟩
theorem Rd.ext {w w' : World} {b : Nat} {s : ByteArray} {i line col : Nat} (h : Rd w b s i line col) (hb : Below w.heap.size w w') : Rd w' b s i line col := Blk.ext h hb
theorem RdP.ext {w w' : World} {b : Nat} {s : ByteArray} {i : Nat} (h : RdP w b s i) (hb : Below w.heap.size w w') : RdP w' b s i := Blk.ext h hb
theorem RdP.lt {w : World} {b : Nat} {s : ByteArray} {i : Nat} (h : RdP w b s i) : b < w.heap.size := Blk.lt h

theorem list_get (s : ByteArray) (i : Nat) (h : i < s.size) : s.data.toList[i]'(by simpa using h) = s[i] := rfl
theorem list_len (s : ByteArray) : s.data.toList.length = s.size := by simp

theorem step_any {b : Nat} {s : ByteArray} {i : Nat} {w : World} (hr : RdP w b s i) (hl : i < s.size) (hs : s.size ≤ 140737488355328) :
    Calls Tryd.prog 82 #[.pointer (some ⟨b, 0, none⟩)] w fun e w' => e = .returned (.tuple #[]) ∧ RdP w' b s (i + 1) ∧ Touch b w w' := by
  have hp := Lx.posOf_le (s.data.toList.take i)
  have ht : (s.data.toList.take i).length = i := by rw [List.length_take, list_len]; omega
  have hq := hid (Lx.posOf_succ (L := s.data.toList) (i := i) (by simpa using hl))
  rw [ht] at hp
  unfold RdP at hr ⊢
  generalize hg : Lx.posOf (s.data.toList.take i) = p at *
  obtain ⟨line, col⟩ := p
  simp only at hr hp
  clear hg ht
  have H := hid hr
  obtain ⟨hz, h0, h1, h2, h3, f1, f2, f3⟩ := hr.f
  clear hr
  go_enter Tryd.func82, Tryd.ntmps82
  go_wp2
  go_quiet (fail)
  go_wp2
  · have e : s[i] = 10 := by rename_i h; rw [← u8_eq 10 10 rfl] at h; simpa using h
    go_end0
    refine ⟨rfl, ?_, ((((Touch.refl b w).setCell 3 _).drewN nq).setCell 2 _ |>.setCell 3 _).setCell 1 _⟩
    rw [hq.out, list_get _ _ hl]
    simp only [Lx.adv, e, if_true]
    exact (((H.out.set 3 _).drewN nq).set 2 _ |>.set 3 _).set 1 _
  · have e : ¬ s[i] = 10 := by rename_i h; rw [← u8_eq 10 10 rfl] at h; simpa using h
    go_end0
    refine ⟨rfl, ?_, (((Touch.refl b w).setCell 3 _).drewN nq).setCell 1 _⟩
    rw [hq.out, list_get _ _ hl]
    simp only [Lx.adv, e, if_false]
    exact ((H.out.set 3 _).drewN nq).set 1 _

theorem place_any {b : Nat} {s : ByteArray} {i line col : Nat} {w : World} (hr : Rd w b s i line col) :
    Calls Tryd.prog 51 #[.pointer (some ⟨b, 0, none⟩)] w fun e w' => e = .returned (.agg #[.int .i64 line, .int .i64 col]) ∧ Below w.heap.size w w' := by
  obtain ⟨hz, h0, h1, h2, h3, f1, f2, f3⟩ := hr.f
  clear hr
  go_enter Tryd.func51, Tryd.ntmps51
  go_wp2
  go_region
  go_wp2
  exact bodyPost_ret (v := .agg #[.int .i64 line, .int .i64 col]) (by simp [results, Tryd.results51, go_sem]) rfl ⟨rfl, (balloc w _).drew⟩

/-- a contract of a function on bytes -/
structure Holds (g : Nat) (p : UInt8 → Bool) : Prop where
  enter : ∀ (args : Array Value) (w : World), Sem.run Tryd.prog (callFunc g args) w = .ok (.enter g args) w
  run : ∀ (c : UInt8) (w : World), Calls Tryd.prog g #[.int .u8 c.toNat] w fun e w' => e = .returned (.bool (p c)) ∧ w = w'
theorem holds_letter : Holds 68 Lx.letter := ⟨fun _ _ => by kernel_rfl, letter_any⟩
theorem holds_digit : Holds 80 Lx.digit := ⟨fun _ _ => by kernel_rfl, digit_any⟩
theorem holds_inner : Holds 70 Lx.inner := ⟨fun _ _ => by kernel_rfl, inner_any⟩
theorem holds_blank : Holds 74 Lx.blank := ⟨fun _ _ => by kernel_rfl, blank_any⟩
theorem holds_35 : Holds 76 (· == 35) := ⟨fun _ _ => by kernel_rfl, is35_any⟩
theorem holds_not10 : Holds 77 Lx.not10 := ⟨fun _ _ => by kernel_rfl, not10_any⟩
theorem holds_all : Holds 55 (fun _ => true) := ⟨fun _ _ => by kernel_rfl, all_any⟩

theorem more_any {b : Nat} {s : ByteArray} {i line col : Nat} {w : World} (g : Nat) {p : UInt8 → Bool} (hp : Holds g p) (hr : Rd w b s i line col) :
    Calls Tryd.prog 75 #[.pointer (some ⟨b, 0, none⟩), .func (.func g) #[] #[]] w fun e w' => e = .returned (.bool (Lx.hdIs p (s.data.toList.drop i))) ∧ Below w.heap.size w w' := by
  obtain ⟨hz, h0, h1, h2, h3, f1, f2, f3⟩ := hr.f
  clear hr
  by_cases hlt : i < s.size
  · rw [Lx.hdIs_lt (by simpa using hlt), list_get _ _ hlt]
    have hen := hp.enter
    have hru := hid hp.run
    clear hp
    go_enter Tryd.func75, Tryd.ntmps75
    go_wp2
    go_quiet ((exact Calls.quiet_of_same ((hru.out _ _).mono fun _ _ h => ⟨h.1, h.2.symm⟩)))
    go_wp2
    go_ret
    exact ⟨rfl, bdrewN (Below.refl _ _) _⟩
  · rw [Lx.hdIs_ge (by simpa using hlt)]
    have hd : decide (i < s.size) = false := by simpa using hlt
    go_enter Tryd.func75, Tryd.ntmps75
    go_wp2
    go_quiet (fail)
    go_wp2
    go_ret
    exact ⟨rfl, bdrewN (Below.refl _ _) _⟩

theorem while_any {b : Nat} {s : ByteArray} {i : Nat} {w : World} (g : Nat) {p : UInt8 → Bool} (hp : Holds g p) (hr : RdP w b s i) (hi : i ≤ s.size) (hs : s.size ≤ 140737488355328) :
    Calls Tryd.prog 54 #[.pointer (some ⟨b, 0, none⟩), .func (.func g) #[] #[]] w fun e w' =>
      e = .returned (.string (s.extract i (i + Lx.runN p (s.data.toList.drop i)))) ∧ RdP w' b s (i + Lx.runN p (s.data.toList.drop i)) ∧ Touch b w w' := by
  have hp' := hid hp
  have hr' := hid hr
  obtain ⟨hz, h0, h1, h2, h3, f1, f2, f3⟩ := Rd.f hr
  clear hp hr
  go_enter Tryd.func54, Tryd.ntmps54
  go_wp2
  go_loopg [12] (s.size - i) (fun k _ wr => ∃ j, i ≤ j ∧ j ≤ s.size ∧ k = s.size - j ∧ RdP wr b s j ∧ Touch b w wr ∧ j + Lx.runN p (s.data.toList.drop j) = i + Lx.runN p (s.data.toList.drop i))
  case atStart => exact ⟨i, Nat.le_refl _, hi, rfl, hr'.out, Touch.refl _ _, rfl⟩
  case round =>
    obtain ⟨j, hij, hjs, hk, hrj, htj, hsum⟩ := hrel
    have hsum' := hid hsum
    have hk' := hid hk
    have hrj' := hid hrj
    clear hsum hk
    go_wp2_with fail
    refine (more_any _ hp'.out hrj).mono ?_
    rintro e w1 ⟨rfl, hb1⟩
    have hr1 := hid (RdP.ext hrj hb1)
    clear hrj
    by_cases hh : Lx.hdIs p (s.data.toList.drop j) = true
    · have hlt : j < s.size := by simpa using Lx.lt_of_hdIs hh
      go_wp2_with fail
      refine (step_any hr1.out hlt hs).mono ?_
      rintro e w2 ⟨rfl, hr2, ht2⟩
      have hr2' := hid hr2
      clear hr2
      go_wp2_with fail
      go_roundg (s.size - (j + 1))
      case measure => have := hk'.out; omega
      case rel => exact ⟨j + 1, by omega, by omega, rfl, hr2'.out, (htj.below hb1).trans ht2, by have := Lx.runN_step hh; have := hsum'.out; omega⟩
    · have hh' : Lx.hdIs p (s.data.toList.drop j) = false := by simpa using hh
      have hz := Lx.runN_stop hh'
      have hsum := hsum'.out
      have hj : i + Lx.runN p (s.data.toList.drop i) = j := by omega
      clear hh hsum hz hsum'
      have hj' := hid hj
      clear hj
      obtain ⟨hz, g0, g1, g2, g3, k1, k2, k3⟩ := Rd.f hr1.out
      go_wp2
      go_quiet (fail)
      go_wp2
      go_ret
      rw [hj'.out]
      exact ⟨rfl, hr1.out.drewN _, (htj.below hb1).drewN _⟩

end Go.Proofs.YtnoieobjfihbeaaDoor

namespace Go.Proofs.YtnoieobjfihbeaaDoor
open Go.RowKit Go.Sort

theorem skip_any {b : Nat} {s : ByteArray} {i : Nat} {w : World} (hr : RdP w b s i) (hi : i ≤ s.size) (hs : s.size ≤ 140737488355328) :
    Calls Tryd.prog 52 #[.pointer (some ⟨b, 0, none⟩)] w fun e w' =>
      e = .returned (.tuple #[]) ∧ RdP w' b s (i + Lx.skipN false (s.data.toList.drop i)) ∧ Touch b w w' := by
  have hr' := hid hr
  clear hr
  go_enter Tryd.func52, Tryd.ntmps52
  go_wp2
  go_loopg [3] (s.size - i) (fun k _ wr => ∃ j, i ≤ j ∧ j ≤ s.size ∧ k = s.size - j ∧ RdP wr b s j ∧ Touch b w wr ∧ j + Lx.skipN false (s.data.toList.drop j) = i + Lx.skipN false (s.data.toList.drop i))
  case atStart => exact ⟨i, Nat.le_refl _, hi, rfl, hr'.out, Touch.refl _ _, rfl⟩
  case round =>
    obtain ⟨j, hij, hjs, hk, hrj, htj, hsum⟩ := hrel
    have hsum' := hid hsum
    have hk' := hid hk
    have hrj' := hid hrj
    clear hsum hk hrj
    have hblk := Lx.skipN_blanks (s.data.toList.drop j)
    have hle := Lx.runN_le Lx.blank (s.data.toList.drop j)
    rw [List.length_drop, list_len] at hle
    rw [List.drop_drop] at hblk
    go_wp2_with fail
    refine (while_any _ holds_blank hrj'.out hjs hs).mono ?_
    rintro e w1 ⟨rfl, hr1, ht1⟩
    generalize hm : Lx.runN Lx.blank (s.data.toList.drop j) = m at *
    have hm' := hid hm
    have hblk' := hid hblk
    have hr1' := hid hr1
    clear hm hblk hr1
    go_wp2_with fail
    refine (more_any _ holds_35 hr1'.out).mono ?_
    rintro e w2 ⟨rfl, hb2⟩
    have hr2' := hid (RdP.ext hr1'.out hb2)
    by_cases hh : Lx.hdIs (· == 35) (s.data.toList.drop (j + m)) = true
    · have hrem := Lx.skipN_remark hh
      have hle2 := Lx.runN_le Lx.not10 (s.data.toList.drop (j + m))
      rw [List.length_drop, list_len] at hle2
      rw [List.drop_drop] at hrem
      have hrem' := hid hrem
      clear hrem
      have hpos : 0 < Lx.runN Lx.not10 (s.data.toList.drop (j + m)) := by
        have hlt := Lx.lt_of_hdIs hh
        rw [Lx.hdIs_lt hlt] at hh
        have h35 : s.data.toList[j + m] = 35 := by simpa using hh
        rw [Lx.runN_step (by rw [Lx.hdIs_lt hlt, h35]; rfl)]; omega
      go_wp2_with fail
      refine (while_any _ holds_not10 hr2'.out (by omega) hs).mono ?_
      rintro e w3 ⟨rfl, hr3, ht3⟩
      generalize hn : Lx.runN Lx.not10 (s.data.toList.drop (j + m)) = n at *
      have hn' := hid hn
      have hr3' := hid hr3
      clear hn hr3
      go_wp2_with fail
      go_roundg (s.size - (j + m + n))
      case measure => have := hk'.out; omega
      case rel => exact ⟨j + m + n, by omega, by omega, rfl, hr3'.out, ((htj.trans ht1).below hb2).trans ht3, by have := hsum'.out; have := hblk'.out; have := hrem'.out; omega⟩
    · have hh' : Lx.hdIs (· == 35) (s.data.toList.drop (j + m)) = false := by simpa using hh
      have hz : Lx.skipN false (s.data.toList.drop (j + m)) = 0 := by
        refine Lx.skipN_stop ?_ hh'
        have := Lx.hdIs_drop_runN Lx.blank (s.data.toList.drop j)
        rwa [hm'.out, List.drop_drop] at this
      have hfin := hid (show i + Lx.skipN false (s.data.toList.drop i) = j + m by have := hsum'.out; have := hblk'.out; omega)
      clear hh hz
      go_wp2
      refine bodyPost_ret (results_none rfl _ _ _) rfl ?_
      rw [hfin.out]
      exact ⟨rfl, hr2'.out, (htj.trans ht1).below hb2⟩

theorem begin_any (s : ByteArray) (w : World) :
    Calls Tryd.prog 50 #[.string s] w fun e w' => ∃ b, e = .returned (.pointer (some ⟨b, 0, none⟩)) ∧ w.heap.size ≤ b ∧ RdP w' b s 0 ∧ Below w.heap.size w w' := by
  go_enter Tryd.func50, Tryd.ntmps50
  go_wp2
  go_ret
  exact ⟨_, rfl, Nat.le_refl _, Blk.new _ _ _, balloc _ _⟩

theorem end_any (s : ByteArray) (w : World) (hs : s.size ≤ 140737488355328) :
    Calls Tryd.prog 25 #[.string s] w fun e w' => e = .returned (.agg #[.int .i64 (Lx.posOf s.data.toList).1, .int .i64 (Lx.posOf s.data.toList).2]) ∧ Below w.heap.size w w' := by
  have hall : Lx.runN (fun _ => true) s.data.toList = s.size := by
    unfold Lx.runN
    have : ∀ l : Lx.Bytes, (l.takeWhile fun _ => true) = l := fun l => by induction l with | nil => rfl | cons c l ih => simp [ih]
    rw [this]
    simp
  have htk : s.data.toList.take s.size = s.data.toList := List.take_of_length_le (by simp)
  have hall' := hid hall
  have htk' := hid htk
  clear hall htk
  go_enter Tryd.func25, Tryd.ntmps25
  go_wp2_with fail
  have B0 := hid (Blk.new w #[.int .i64 0, .int .i64 0] 30)
  refine (begin_any s _).mono ?_
  rintro e w1 ⟨b, rfl, hlb, hr1, hb1⟩
  simp only [World.size_alloc] at hlb
  have hr1' := hid hr1
  have B1 := hid (B0.out.ext hb1)
  clear hr1
  go_wp2_with fail
  refine (while_any _ holds_all hr1'.out (Nat.zero_le _) hs).mono ?_
  rintro e w2 ⟨rfl, hr2, ht2⟩
  have B2 := hid (B1.out.touch ht2 (by omega))
  have hr2' : Hid (RdP w2 b s s.size) := by have h := hr2; rw [List.drop_zero, hall'.out, Nat.zero_add] at h; exact h
  clear hr2
  go_wp2_with fail
  refine (place_any hr2'.out).mono ?_
  rintro e w3 ⟨rfl, hb3⟩
  have B3 := hid (B2.out.ext hb3)
  obtain ⟨c0, c1, f, hz3⟩ := B3.out.two
  go_wp2
  rw [htk'.out]
  refine bodyPost_ret (v := .agg #[.int .i64 (Lx.posOf s.data.toList).1, .int .i64 (Lx.posOf s.data.toList).2]) (by simp [results, Tryd.results25, go_sem, c0, c1]) rfl ⟨rfl, ?_⟩
  have h1 : Below w.heap.size w w1 := (balloc w _).trans (hb1.mono (by simp))
  have h2 : Below w.heap.size w w2 := h1.trans (ht2.to_below h1.size (by omega))
  exact bset (bset (h2.trans (hb3.mono h2.size)) (Nat.le_refl _) _) (Nat.le_refl _) _

end Go.Proofs.YtnoieobjfihbeaaDoor

namespace Go.Proofs.YtnoieobjfihbeaaDoor
open Go.RowKit Go.Sort

def wordAt (k : Nat) : Lx.Bytes := Lx.words.getD k []
def wordsArr : Array Value := #[.string ⟨(wordAt 0).toArray⟩, .string ⟨(wordAt 1).toArray⟩, .string ⟨(wordAt 2).toArray⟩, .string ⟨(wordAt 3).toArray⟩, .string ⟨(wordAt 4).toArray⟩,
  .string ⟨(wordAt 5).toArray⟩, .string ⟨(wordAt 6).toArray⟩, .string ⟨(wordAt 7).toArray⟩, .string ⟨(wordAt 8).toArray⟩, .string ⟨(wordAt 9).toArray⟩, .string ⟨(wordAt 10).toArray⟩]

theorem words_any (w : World) : Calls Tryd.prog 91 #[] w fun e w' => e = .returned (.agg wordsArr) ∧ Below w.heap.size w w' := by
  go_enter Tryd.func91, Tryd.ntmps91
  go_wp2
  exact bodyPost_ret (v := .agg wordsArr) (by simp [results, Tryd.results91, go_sem]; rfl) rfl ⟨rfl, balloc _ _⟩

theorem words_index : ∀ (k : Nat), k < 11 → ∀ w, (Instr.index 112 (.agg wordsArr) (.int .i64 k)).run Tryd.prog w = .ok (.string ⟨(wordAt k).toArray⟩) w
  | 0, _ | 1, _ | 2, _ | 3, _ | 4, _ | 5, _ | 6, _ | 7, _ | 8, _ | 9, _ | 10, _ => fun _ => by kernel_rfl

theorem word_take {L : Lx.Bytes} {k : Nat} (hk : k < 11) (h : (Lx.words.take k).contains L = false) (hn : (L == wordAt k) = false) : (Lx.words.take (k + 1)).contains L = false := by
  have hlen : k < Lx.words.length := hk
  have e : wordAt k = Lx.words[k] := by simp [wordAt, List.getD, hlen]
  rw [List.take_succ_eq_append_getElem hlen, List.contains_append, h, ← e]
  simpa using hn
theorem word_found {L : Lx.Bytes} {k : Nat} (hk : k < 11) (hn : (L == wordAt k) = true) : Lx.isWord L = true := by
  have hlen : k < Lx.words.length := hk
  have e : wordAt k = Lx.words[k] := by simp [wordAt, List.getD, hlen]
  have : L = wordAt k := by simpa using hn
  unfold Lx.isWord
  rw [this, e]
  simp

theorem word_any (s : ByteArray) (w : World) : Calls Tryd.prog 69 #[.string s] w fun e w' => e = .returned (.bool (Lx.isWord s.data.toList)) ∧ Below w.heap.size w w' := by
  go_enter Tryd.func69, Tryd.ntmps69
  go_wp2_with fail
  go_step3
  go_wp2_with fail
  go_step3
  go_wp2_with fail
  refine (words_any _).mono ?_
  rintro e w1 ⟨rfl, hb1⟩
  go_wp2_with fail
  go_loop [3, 7] (fun f i => ∃ k : Nat, k ≤ 11 ∧ i = .int .i64 k ∧ f = .bool false ∧ (Lx.words.take k).contains s.data.toList = false) (fun _ i => 11 - (intOf i).toNat)
  case atStart => exact ⟨0, by omega, rfl, rfl, rfl⟩
  case round =>
    obtain ⟨k, hk, rfl, rfl, hno⟩ := hrel
    have hno' := hid hno
    clear hno
    by_cases hlt : k < 11
    · have hix := words_index k hlt
      have hsl : s.toList = s.data.toList := ByteArray.toList_eq s
      by_cases hw : (s.data.toList == wordAt k) = true
      · have hf := hid (word_found hlt hw)
        go_wp2
        go_ret
        exact ⟨ret_bool hf.out.symm, hb1⟩
      · have hw' : (s.data.toList == wordAt k) = false := by simpa using hw
        have ht := hid (word_take hlt hno'.out hw')
        clear hw
        go_wp2
        go_round
        case rel => exact ⟨k + 1, by omega, by go_num, rfl, ht.out⟩
        case measure => simp [intOf]; omega
    · obtain rfl : k = 11 := by omega
      have hf := hid (show Lx.isWord s.data.toList = false from hno'.out)
      go_wp2
      go_ret
      exact ⟨ret_bool hf.out.symm, hb1⟩

theorem name_go {s : ByteArray} {k : Nat} (hk : k < s.size) (h : (s.data.toList.take k).all Lx.inner = true) (hn : Lx.inner s[k] = true) : (s.data.toList.take (k + 1)).all Lx.inner = true := by
  have hlen : k < s.data.toList.length := by simpa using hk
  rw [List.take_succ_eq_append_getElem hlen, List.all_append, h, list_get _ _ hk]
  simp [hn]
theorem name_no {s : ByteArray} {k : Nat} (hk : k < s.size) (hn : Lx.inner s[k] = false) : s.data.toList.all Lx.inner = false := by
  have hlen : k < s.data.toList.length := by simpa using hk
  rw [List.all_eq_false]
  exact ⟨_, List.getElem_mem hlen, by rw [list_get _ _ hk, hn]; simp⟩

theorem isName_eq (s : ByteArray) (h : 0 < s.size) : Lx.isName s.data.toList = (decide (s.size ≤ 16) && Lx.letter s[0] && s.data.toList.all Lx.inner && !Lx.isWord s.data.toList) := by
  have hl : 0 < s.data.toList.length := by simpa using h
  have e : s.data.toList = s[0] :: s.data.toList.drop 1 := by
    have := Lx.drop_cons hl
    rw [List.drop_zero] at this
    exact this
  unfold Lx.isName
  rw [← list_len]
  split
  · rename_i h'; rw [h'] at hl; simp at hl
  · rename_i c l h'
    have : c = s[0] := by rw [h'] at e; exact (List.cons.inj e).1
    rw [this]

theorem name_any (s : ByteArray) (w : World) (hs : s.size ≤ 140737488355328) : Calls Tryd.prog 36 #[.string s] w fun e w' => e = .returned (.bool (Lx.isName s.data.toList)) ∧ Below w.heap.size w w' := by
  have hsl : s.toList = s.data.toList := ByteArray.toList_eq s
  by_cases h0 : s.size = 0
  · have e : s.data.toList = [] := List.eq_nil_of_length_eq_zero (by simpa using h0)
    have hn := hid (show Lx.isName s.data.toList = false by rw [e]; rfl)
    have e' : s.data.toList.isEmpty = true := by rw [e]; rfl
    clear e
    go_enter Tryd.func36, Tryd.ntmps36
    go_wp2_with fail
    go_ret
    exact ⟨ret_bool hn.out.symm, Below.refl _ _⟩
  · have hpos : 0 < s.size := by omega
    have he : s.data.toList.isEmpty = false := by
      cases h : s.data.toList with
      | nil => have := list_len s; rw [h] at this; simp at this; omega
      | cons c l => rfl
    have hn := hid (isName_eq s hpos)
    clear h0
    by_cases h16 : 16 < s.size
    · go_enter Tryd.func36, Tryd.ntmps36
      go_wp2_with fail
      go_ret
      exact ⟨ret_bool (by rw [hn.out, decide_eq_false (by omega)]; rfl), Below.refl _ _⟩
    · by_cases hc : Lx.letter s[0] = true
      · go_enter Tryd.func36, Tryd.ntmps36
        go_wp2_with fail
        refine (letter_any _ _).mono ?_
        rintro e w1 ⟨rfl, rfl⟩
        go_wp2_with fail
        refine (word_any _ _).mono ?_
        rintro e w1 ⟨rfl, hb1⟩
        by_cases hw : Lx.isWord s.data.toList = true
        · go_wp2_with fail
          go_ret
          exact ⟨ret_bool (by rw [hn.out, hw]; simp), hb1⟩
        · have hw' : Lx.isWord s.data.toList = false := by simpa using hw
          clear hw
          go_wp2_with fail
          go_loop [23] (fun i => ∃ k : Nat, k ≤ s.size ∧ i = .int .i64 k ∧ (s.data.toList.take k).all Lx.inner = true) (fun i => s.size - (intOf i).toNat)
          case atStart => exact ⟨0, Nat.zero_le _, rfl, rfl⟩
          case round =>
            obtain ⟨k, hk, rfl, hall⟩ := hrel
            have hall' := hid hall
            clear hall
            by_cases hlt : k < s.size
            · go_wp2_with fail
              refine (inner_any _ _).mono ?_
              rintro e w2 ⟨rfl, rfl⟩
              by_cases hi : Lx.inner s[k] = true
              · go_wp2_with fail
                go_round
                case rel => exact ⟨k + 1, by omega, by go_num, name_go hlt hall'.out hi⟩
                case measure => simp [intOf]; omega
              · have hi' : Lx.inner s[k] = false := by simpa using hi
                clear hi
                go_wp2_with fail
                go_ret
                exact ⟨ret_bool (by rw [hn.out, name_no hlt hi']; simp), hb1⟩
            · obtain rfl : k = s.size := by omega
              have hf := hid (show s.data.toList.all Lx.inner = true by have := hall'.out; rwa [List.take_of_length_le (by simp)] at this)
              go_wp2_with fail
              go_ret
              exact ⟨ret_bool (by rw [hn.out, hf.out, hc, hw', decide_eq_true (by omega)]; rfl), hb1⟩
      · have hc' : Lx.letter s[0] = false := by simpa using hc
        clear hc
        go_enter Tryd.func36, Tryd.ntmps36
        go_wp2_with fail
        refine (letter_any _ _).mono ?_
        rintro e w1 ⟨rfl, rfl⟩
        go_wp2_with fail
        go_ret
        exact ⟨ret_bool (by rw [hn.out, hc']; simp), Below.refl _ _⟩

theorem head_eq (s : ByteArray) (h : 0 < s.size) : s.data.toList.head? = some s[0] := by
  have hl : 0 < s.data.toList.length := by simpa using h
  have := Lx.drop_cons hl
  rw [List.drop_zero] at this
  rw [this]; rfl

theorem number_go {s : ByteArray} {k : Nat} (hk : k < s.size) (hd : 48 ≤ s[k].toNat) :
    min 65536 (10 * min 65536 (Lx.numAcc 0 (s.data.toList.take k)) + (s[k].toNat - 48)) = min 65536 (Lx.numAcc 0 (s.data.toList.take (k + 1))) := by
  rw [Lx.numAcc_succ (by simpa using hk), list_get _ _ hk]
  omega

theorem number_any (s : ByteArray) (w : World) (hd : ∀ (k : Nat) (hk : k < s.size), Lx.digit s[k] = true) (hs : s.size ≤ 140737488355328) :
    Calls Tryd.prog 93 #[.string s] w fun e w' => e = .returned (.tuple #[.int .i64 (Lx.numRet s.data.toList), .bool (Lx.number s.data.toList).isSome]) ∧ w = w' := by
  have hd' := hid hd
  clear hd
  by_cases hz : 1 < s.data.toList.length ∧ s.data.toList.head? = some 48
  · have h1 : 1 < s.size := by simpa using hz.1
    have h48 : ((s[0].toNat : Int) == 48) = true := by have := hz.2; rw [head_eq s (by omega)] at this; rw [← u8_eq 48 48 rfl]; simpa using this
    have e1 := hid (show Lx.numRet s.data.toList = 0 by unfold Lx.numRet; rw [if_pos hz])
    have e2 := hid (show (Lx.number s.data.toList).isSome = false by unfold Lx.number; rw [if_pos (Or.inl hz)]; rfl)
    clear hz
    go_enter Tryd.func93, Tryd.ntmps93
    go_wp2_with fail
    go_ret2
    rw [e1.out, e2.out]
    exact ⟨rfl, rfl⟩
  · have e1 := hid (show Lx.numRet s.data.toList = min 65536 (Lx.numAcc 0 s.data.toList) by unfold Lx.numRet; rw [if_neg hz])
    have e2 := hid (Lx.number_ok hz)
    have hh : decide ((1 : Int) < s.size) = false ∨ ∃ h : 1 < s.size, ((s[0].toNat : Int) == 48) = false := by
      by_cases h1 : 1 < s.size
      · refine Or.inr ⟨h1, ?_⟩
        rw [← u8_eq 48 48 rfl]
        have : ¬ s[0] = 48 := fun e => hz ⟨by simpa using h1, by rw [head_eq s (by omega), e]⟩
        simpa using this
      · exact Or.inl (decide_eq_false (by omega))
    clear hz
    rcases hh with h1 | ⟨h1, h48⟩
    all_goals
      go_enter Tryd.func93, Tryd.ntmps93
      go_wp2_with fail
      go_loop [4, 16] (fun n i => ∃ k : Nat, k ≤ s.size ∧ i = .int .i64 k ∧ n = .int .i64 ((min 65536 (Lx.numAcc 0 (s.data.toList.take k)) : Nat) : Int)) (fun _ i => s.size - (intOf i).toNat)
      case atStart => exact ⟨0, Nat.zero_le _, rfl, rfl⟩
      case round =>
        obtain ⟨k, hk, rfl, rfl⟩ := hrel
        by_cases hlt : k < s.size
        · have hdk := hd'.out k hlt
          rw [digit_eq] at hdk
          simp only [Bool.and_eq_true, decide_eq_true_eq] at hdk
          obtain ⟨hd1, hd2⟩ := hdk
          have hgo := hid (number_go hlt (by omega))
          have hm := Nat.min_le_left 65536 (Lx.numAcc 0 (s.data.toList.take k))
          generalize hmm : min 65536 (Lx.numAcc 0 (s.data.toList.take k)) = m at *
          clear hmm
          go_wp2_with fail
          go_round
          case rel => exact ⟨k + 1, by omega, by go_num, by rw [← hgo.out]; congr 1; first | (split <;> omega) | omega⟩
          case measure => simp [intOf]; omega
        · obtain rfl : k = s.size := by omega
          have hf := hid (show s.data.toList.take s.size = s.data.toList from List.take_of_length_le (by simp))
          go_wp2_with fail
          go_ret2
          rw [e1.out, e2.out, hf.out]
          exact ⟨ret_eq (by simp; omega), rfl⟩

end Go.Proofs.YtnoieobjfihbeaaDoor

namespace Go.Proofs.YtnoieobjfihbeaaDoor
open Go.RowKit Go.Sort

/-- a token's value -/
def tokV (k : Nat) (t : ByteArray) (n l c : Nat) : Value := .agg #[.int .i64 k, .string t, .int .i64 n, .int .i64 l, .int .i64 c]

theorem extract_list (s : ByteArray) (i j : Nat) : (s.extract i j).data.toList = (s.data.toList.drop i).take (j - i) := by
  rw [ByteArray.data_extract, Array.toList_extract]
theorem extract_size' (s : ByteArray) (i n : Nat) (h : i + n ≤ s.size) : (s.extract i (i + n)).size = n := by
  rw [ByteArray.size_extract]; omega
theorem take_runN (p : UInt8 → Bool) (l : Lx.Bytes) : l.take (Lx.runN p l) = l.takeWhile p := by
  have h := List.takeWhile_append_dropWhile (p := p) (l := l)
  have h2 := congrArg (List.take (Lx.runN p l)) h
  unfold Lx.runN at *
  rw [List.take_left] at h2
  exact h2.symm
theorem extract_run (s : ByteArray) (i : Nat) (p : UInt8 → Bool) : (s.extract i (i + Lx.runN p (s.data.toList.drop i))).data.toList = (s.data.toList.drop i).takeWhile p := by
  rw [extract_list, Nat.add_sub_cancel_left, take_runN]

/-- what 'name' gives back -/
def nameRes (s : ByteArray) (i : Nat) : Value :=
  .tuple #[tokV (if Lx.isWord ((s.data.toList.drop i).takeWhile Lx.inner) then 2 else 1) (s.extract i (i + Lx.runN Lx.inner (s.data.toList.drop i))) 0 0 0,
    .int .i64 (if 16 < Lx.runN Lx.inner (s.data.toList.drop i) then 2 else 0)]

set_option maxHeartbeats 1000000 in
theorem lexname_any {b : Nat} {s : ByteArray} {i : Nat} {w : World} (hr : RdP w b s i) (hi : i < s.size) (hs : s.size ≤ 140737488355328) :
    Calls Tryd.prog 79 #[.pointer (some ⟨b, 0, none⟩)] w fun e w' =>
      e = .returned (nameRes s i) ∧ RdP w' b s (i + Lx.runN Lx.inner (s.data.toList.drop i)) ∧ Touch b w w' := by
  have hle := Lx.runN_le Lx.inner (s.data.toList.drop i)
  rw [List.length_drop, list_len] at hle
  have hx := hid (extract_run s i Lx.inner)
  have hxs := extract_size' s i (Lx.runN Lx.inner (s.data.toList.drop i)) (by omega)
  have hr' := hid hr
  have hlb := RdP.lt hr
  clear hr
  go_enter Tryd.func79, Tryd.ntmps79
  go_wp2_with fail
  have B0 := hid (Blk.new w #[.int .i64 0, .string ⟨#[]⟩, .int .i64 0, .int .i64 0, .int .i64 0] 92)
  refine (while_any _ holds_inner (RdP.ext hr'.out (balloc _ _)) (by omega) hs).mono ?_
  rintro e w1 ⟨rfl, hr1, ht1⟩
  have hres0 := hid (show nameRes s i = .tuple #[tokV (if Lx.isWord ((s.data.toList.drop i).takeWhile Lx.inner) then 2 else 1) (s.extract i (i + Lx.runN Lx.inner (s.data.toList.drop i))) 0 0 0, .int .i64 (if 16 < Lx.runN Lx.inner (s.data.toList.drop i) then 2 else 0)] from rfl)
  rw [← hx.out] at hres0
  generalize hn : Lx.runN Lx.inner (s.data.toList.drop i) = n at *
  generalize htx : s.extract i (i + n) = tx at *
  have hr1' := hid hr1
  have hn' := hid hn
  have B1 := hid (B0.out.touch ht1 (by omega))
  clear hr1 hn htx
  go_wp2_with fail
  have hz1 := ht1.size
  simp only [World.size_alloc] at hz1
  have T1 := hid (Blk.new w1 #[.int .i64 1, .string tx, .int .i64 0, .int .i64 0, .int .i64 0] 92)
  refine (word_any _ _).mono ?_
  rintro e w2 ⟨rfl, hb2⟩
  have hr2' := hid (RdP.ext (RdP.ext hr1'.out (balloc w1 _)) hb2)
  have T2 := hid (T1.out.ext hb2)
  have B2 := hid ((B1.out.alloc _).ext hb2)
  have Q2 := hid ((((Touch.refl b w).alloc _).trans ht1).alloc _ |>.below hb2)
  have hbb : b < w1.heap.size := RdP.lt hr1'.out
  obtain ⟨c0, c1, c2, c3, c4, cf, cz⟩ := T2.out.five
  obtain ⟨d0, d1, d2, d3, d4, df, dz⟩ := B2.out.five
  have hne1 : b ≠ w1.heap.size := by omega
  have hne2 : b ≠ w.heap.size := by omega
  have hn1 : w.heap.size ≤ w1.heap.size := by omega
  have hn2 := Nat.le_refl w.heap.size
  by_cases hisw : Lx.isWord tx.data.toList = true
  · by_cases h16 : 16 < n
    · have hres := hid (show nameRes s i = .tuple #[tokV 2 tx 0 0 0, .int .i64 2] by rw [hres0.out, hisw, if_pos h16]; rfl)
      clear hres0
      go_wp2_with fail
      rw [hn'.out, hres.out]
      exact bodyPost_ret (v := .tuple #[tokV 2 tx 0 0 0, .int .i64 2]) (by simp [results, Tryd.results79, go_sem, tokV, d0, d1, d2, d3, d4]) rfl ⟨rfl, (by unfold RdP Rd; simp only [Blk.setOther_iff hne1, Blk.setOther_iff hne2]; exact hr2'.out), (by simp only [Touch.setNew_iff hn1, Touch.setNew_iff hn2]; exact Q2.out)⟩
    · have hres := hid (show nameRes s i = .tuple #[tokV 2 tx 0 0 0, .int .i64 0] by rw [hres0.out, hisw, if_neg h16]; rfl)
      clear hres0
      go_wp2_with fail
      rw [hn'.out, hres.out]
      exact bodyPost_ret (v := .tuple #[tokV 2 tx 0 0 0, .int .i64 0]) (by simp [results, Tryd.results79, go_sem, tokV, d0, d1, d2, d3, d4]) rfl ⟨rfl, (by unfold RdP Rd; simp only [Blk.setOther_iff hne1, Blk.setOther_iff hne2]; exact hr2'.out), (by simp only [Touch.setNew_iff hn1, Touch.setNew_iff hn2]; exact Q2.out)⟩
  · have hisw' : Lx.isWord tx.data.toList = false := by simpa using hisw
    clear hisw
    by_cases h16 : 16 < n
    · have hres := hid (show nameRes s i = .tuple #[tokV 1 tx 0 0 0, .int .i64 2] by rw [hres0.out, hisw', if_pos h16]; rfl)
      clear hres0
      go_wp2_with fail
      rw [hn'.out, hres.out]
      exact bodyPost_ret (v := .tuple #[tokV 1 tx 0 0 0, .int .i64 2]) (by simp [results, Tryd.results79, go_sem, tokV, d0, d1, d2, d3, d4]) rfl ⟨rfl, (by unfold RdP Rd; simp only [Blk.setOther_iff hne2]; exact hr2'.out), (by simp only [Touch.setNew_iff hn2]; exact Q2.out)⟩
    · have hres := hid (show nameRes s i = .tuple #[tokV 1 tx 0 0 0, .int .i64 0] by rw [hres0.out, hisw', if_neg h16]; rfl)
      clear hres0
      go_wp2_with fail
      rw [hn'.out, hres.out]
      exact bodyPost_ret (v := .tuple #[tokV 1 tx 0 0 0, .int .i64 0]) (by simp [results, Tryd.results79, go_sem, tokV, d0, d1, d2, d3, d4]) rfl ⟨rfl, (by unfold RdP Rd; simp only [Blk.setOther_iff hne2]; exact hr2'.out), (by simp only [Touch.setNew_iff hn2]; exact Q2.out)⟩

end Go.Proofs.YtnoieobjfihbeaaDoor

namespace Go.Proofs.YtnoieobjfihbeaaDoor
open Go.RowKit Go.Sort

/-- what 'digits' gives back -/
def digitsRes (s : ByteArray) (i : Nat) : Value :=
  .tuple #[tokV 3 (s.extract i (i + Lx.runN Lx.digit (s.data.toList.drop i))) (if (Lx.number ((s.data.toList.drop i).takeWhile Lx.digit)).isSome then Lx.numRet ((s.data.toList.drop i).takeWhile Lx.digit) else 0) 0 0,
    .int .i64 (if (Lx.number ((s.data.toList.drop i).takeWhile Lx.digit)).isSome then 0 else 10)]

theorem digits_all {s : ByteArray} {l : Lx.Bytes} (h : s.data.toList = l.takeWhile Lx.digit) : ∀ (k : Nat) (hk : k < s.size), Lx.digit s[k] = true := by
  intro k hk
  have hm : s[k] ∈ l.takeWhile Lx.digit := by rw [← h, ← list_get s k hk]; exact List.getElem_mem _
  have : ∀ (l : Lx.Bytes) (x : UInt8), x ∈ l.takeWhile Lx.digit → Lx.digit x = true := by
    intro l
    induction l with
    | nil => intro x hx; simp at hx
    | cons c l ih =>
      intro x hx
      by_cases hc : Lx.digit c = true
      · rw [List.takeWhile_cons_of_pos hc] at hx
        rcases List.mem_cons.1 hx with rfl | hx
        · exact hc
        · exact ih x hx
      · rw [List.takeWhile_cons_of_neg hc] at hx; simp at hx
  exact this l _ hm

set_option maxHeartbeats 1000000 in
theorem lexdigits_any {b : Nat} {s : ByteArray} {i : Nat} {w : World} (hr : RdP w b s i) (hi : i < s.size) (hs : s.size ≤ 140737488355328) :
    Calls Tryd.prog 81 #[.pointer (some ⟨b, 0, none⟩)] w fun e w' =>
      e = .returned (digitsRes s i) ∧ RdP w' b s (i + Lx.runN Lx.digit (s.data.toList.drop i)) ∧ Touch b w w' := by
  have hle := Lx.runN_le Lx.digit (s.data.toList.drop i)
  rw [List.length_drop, list_len] at hle
  have hx := hid (extract_run s i Lx.digit)
  have hxs := extract_size' s i (Lx.runN Lx.digit (s.data.toList.drop i)) (by omega)
  have hr' := hid hr
  have hlb := RdP.lt hr
  clear hr
  go_enter Tryd.func81, Tryd.ntmps81
  go_wp2_with fail
  have B0 := hid (Blk.new w #[.int .i64 0, .string ⟨#[]⟩, .int .i64 0, .int .i64 0, .int .i64 0] 92)
  refine (while_any _ holds_digit (RdP.ext hr'.out (balloc _ _)) (by omega) hs).mono ?_
  rintro e w1 ⟨rfl, hr1, ht1⟩
  have hres0 := hid (show digitsRes s i = .tuple #[tokV 3 (s.extract i (i + Lx.runN Lx.digit (s.data.toList.drop i))) (if (Lx.number ((s.data.toList.drop i).takeWhile Lx.digit)).isSome then Lx.numRet ((s.data.toList.drop i).takeWhile Lx.digit) else 0) 0 0,
    .int .i64 (if (Lx.number ((s.data.toList.drop i).takeWhile Lx.digit)).isSome then 0 else 10)] from rfl)
  rw [← hx.out] at hres0
  generalize hn : Lx.runN Lx.digit (s.data.toList.drop i) = n at *
  generalize htx : s.extract i (i + n) = tx at *
  have hr1' := hid hr1
  have hn' := hid hn
  have B1 := hid (B0.out.touch ht1 (by omega))
  have hda := hid (digits_all hx.out)
  clear hr1 hn htx
  go_wp2_with fail
  have hz1 := ht1.size
  simp only [World.size_alloc] at hz1
  refine (number_any _ _ hda.out (by omega)).mono ?_
  rintro e w2 ⟨rfl, rfl⟩
  have Q1 := hid (((Touch.refl b w).alloc _).trans ht1)
  have hbb : b < w1.heap.size := RdP.lt hr1'.out
  obtain ⟨d0, d1, d2, d3, d4, df, dz⟩ := B1.out.five
  have hne1 : b ≠ w1.heap.size := by omega
  have hne2 : b ≠ w.heap.size := by omega
  have hn1 : w.heap.size ≤ w1.heap.size := by omega
  have hn2 := Nat.le_refl w.heap.size
  cases hok : (Lx.number tx.data.toList).isSome with
  | true =>
    have hres := hid (show digitsRes s i = .tuple #[tokV 3 tx (Lx.numRet tx.data.toList) 0 0, .int .i64 0] by rw [hres0.out, hok]; rfl)
    clear hres0
    go_wp2_with fail
    rw [hn'.out, hres.out]
    exact bodyPost_ret (v := .tuple #[tokV 3 tx (Lx.numRet tx.data.toList) 0 0, .int .i64 0]) (by simp [results, Tryd.results81, go_sem, tokV, d0, d1, d2, d3, d4, dz]) rfl ⟨rfl, Blk.alloc (by simp only [Blk.setOther_iff hne2]; exact hr1'.out) _, Touch.alloc (by simp only [Touch.setNew_iff hn2]; exact Q1.out) _⟩
  | false =>
    have hres := hid (show digitsRes s i = .tuple #[tokV 3 tx 0 0 0, .int .i64 10] by rw [hres0.out, hok]; rfl)
    clear hres0
    go_wp2_with fail
    rw [hn'.out, hres.out]
    exact bodyPost_ret (v := .tuple #[tokV 3 tx 0 0 0, .int .i64 10]) (by simp [results, Tryd.results81, go_sem, tokV, d0, d1, d2, d3, d4, dz]) rfl ⟨rfl, Blk.alloc (by simp only [Blk.setOther_iff hne2]; exact hr1'.out) _, Touch.alloc (by simp only [Touch.setNew_iff hn2]; exact Q1.out) _⟩

end Go.Proofs.YtnoieobjfihbeaaDoor
