/-
  The walks of the lexer's reference: bytes, run, Word, Name, number, Place, skip.
  The walks of the document's own small, nothing, May (layer 11).
-/
import Derived.Test.YtnoieobjfihbeaaDoorPk07
import Derived.Test.YtnoieobjfihbeaaDoorPk15

namespace Go.Proofs.YtnoieobjfihbeaaDoor
open Go.RowKit Go.Sort

theorem rletter_any (c : UInt8) (w : World) : Calls Tryd.prog 64 #[.int .u8 c.toNat] w fun e w' => e = .returned (.bool (Lx.letter c)) ∧ w = w' := by
  rw [letter_eq]
  go_enter Tryd.func64, Tryd.ntmps64
  go_wp2
  all_goals (go_ret; exact ⟨ret_bool (by first | rfl | (rw [Bool.eq_iff_iff]; simp; done) | (rw [Bool.eq_iff_iff]; simp; omega)), rfl⟩)
theorem rdigit_any (c : UInt8) (w : World) : Calls Tryd.prog 90 #[.int .u8 c.toNat] w fun e w' => e = .returned (.bool (Lx.digit c)) ∧ w = w' := by
  rw [digit_eq]
  go_enter Tryd.func90, Tryd.ntmps90
  go_wp2
  all_goals (go_ret; exact ⟨ret_bool (by first | rfl | (rw [Bool.eq_iff_iff]; simp; done) | (rw [Bool.eq_iff_iff]; simp; omega)), rfl⟩)

def runP (d : Bool) : UInt8 → Bool := if d then Lx.digit else Lx.inner
/-- how far the run has come -/
def Running (p : UInt8 → Bool) (L : Lx.Bytes) (a n : Nat) : Prop := a + n ≤ L.length ∧ n + Lx.runN p (L.drop (a + n)) = Lx.runN p (L.drop a)
theorem Running.begin (p : UInt8 → Bool) {L : Lx.Bytes} {a : Nat} (h : a ≤ L.length) : Running p L a 0 := ⟨by omega, by simp⟩
theorem Running.step {p : UInt8 → Bool} {s : ByteArray} {a n : Nat} (h : Running p s.data.toList a n) (hlt : a + n < s.size) (hp : p s[a + n] = true) : Running p s.data.toList a (n + 1) := by
  have hh : Lx.hdIs p (s.data.toList.drop (a + n)) = true := by rw [Lx.hdIs_lt (by simpa using hlt)]; exact hp
  refine ⟨by simp; omega, ?_⟩
  have := h.2
  rw [Lx.runN_step hh] at this
  rw [show a + (n + 1) = a + n + 1 by omega]
  omega
theorem Running.stop {p : UInt8 → Bool} {s : ByteArray} {a n : Nat} (h : Running p s.data.toList a n) (hlt : a + n < s.size) (hp : p s[a + n] = false) : Lx.runN p (s.data.toList.drop a) = n := by
  have hh : Lx.hdIs p (s.data.toList.drop (a + n)) = false := by rw [Lx.hdIs_lt (by simpa using hlt)]; exact hp
  have := h.2
  rw [Lx.runN_stop hh] at this
  omega
theorem Running.over {p : UInt8 → Bool} {s : ByteArray} {a n : Nat} (h : Running p s.data.toList a n) (hlt : ¬ a + n < s.size) : Lx.runN p (s.data.toList.drop a) = n := by
  have := h.2
  rw [Lx.runN_stop (Lx.hdIs_ge (by simp; omega))] at this
  omega

set_option maxHeartbeats 2000000 in
theorem run_any (s : ByteArray) (a : Int) (d : Bool) (w : World) (h0 : 0 ≤ a) (h1 : a ≤ s.size) (hs : s.size ≤ 140737488355328) :
    Calls Tryd.prog 65 #[.string s, .int .i64 a, .bool d] w fun e w' => e = .returned (.int .i64 (Lx.runN (runP d) (s.data.toList.drop a.toNat))) ∧ w = w' := by
  obtain ⟨a, rfl⟩ := Int.eq_ofNat_of_zero_le h0
  rw [Int.toNat_natCast]
  have ha : a ≤ s.size := by omega
  clear h0 h1
  go_enter Tryd.func65, Tryd.ntmps65
  go_wp2_with fail
  go_loop [7] (fun u => ∃ n : Nat, u = .int .i64 n ∧ a + n ≤ s.size ∧ Running (runP d) s.data.toList a n) (fun u => s.size - (intOf u).toNat)
  case atStart => exact ⟨0, rfl, by omega, Running.begin _ (by simpa using ha)⟩
  case round =>
    obtain ⟨n, rfl, hle, hr⟩ := hrel
    have hr' := hid hr
    clear hr
    by_cases hlt : a + n < s.size
    · have hst := hid (fun h => hr'.out.step (s := s) hlt h)
      have hsp := hid (fun h => hr'.out.stop (s := s) hlt h)
      cases hdg : Lx.digit s[a + n] with
      | true =>
        have hp := hid (show runP d s[a + n] = true by unfold runP; cases d <;> simp [Lx.inner, hdg])
        go_wp2_with (first | (go_at_call 90; refine (rdigit_any _ _).mono ?_; rintro e w1 ⟨rfl, rfl⟩) | (go_at_call 64; refine (rletter_any _ _).mono ?_; rintro e w1 ⟨rfl, rfl⟩))
        go_round
        case rel => exact ⟨n + 1, by go_num, by omega, hst.out hp.out⟩
        case measure => simp [intOf]; omega
      | false =>
        cases d with
        | true =>
          have hp := hid (show runP true s[a + n] = false by unfold runP; simp [hdg])
          go_wp2_with (first | (go_at_call 90; refine (rdigit_any _ _).mono ?_; rintro e w1 ⟨rfl, rfl⟩) | (go_at_call 64; refine (rletter_any _ _).mono ?_; rintro e w1 ⟨rfl, rfl⟩))
          go_ret
          rw [hsp.out hp.out]
          exact ⟨rfl, rfl⟩
        | false =>
          cases hlt2 : Lx.letter s[a + n] with
          | true =>
            have hp := hid (show runP false s[a + n] = true by unfold runP; simp [Lx.inner, hlt2])
            go_wp2_with (first | (go_at_call 90; refine (rdigit_any _ _).mono ?_; rintro e w1 ⟨rfl, rfl⟩) | (go_at_call 64; refine (rletter_any _ _).mono ?_; rintro e w1 ⟨rfl, rfl⟩))
            go_round
            case rel => exact ⟨n + 1, by go_num, by omega, hst.out hp.out⟩
            case measure => simp [intOf]; omega
          | false =>
            cases h45 : ((s[a + n].toNat : Int) == 45) with
            | true =>
              have hp := hid (show runP false s[a + n] = true by unfold runP; rw [← u8_eq 45 45 rfl] at h45; simp [Lx.inner, h45])
              go_wp2_with (first | (go_at_call 90; refine (rdigit_any _ _).mono ?_; rintro e w1 ⟨rfl, rfl⟩) | (go_at_call 64; refine (rletter_any _ _).mono ?_; rintro e w1 ⟨rfl, rfl⟩))
              go_round
              case rel => exact ⟨n + 1, by go_num, by omega, hst.out hp.out⟩
              case measure => simp [intOf]; omega
            | false =>
              have hp := hid (show runP false s[a + n] = false by unfold runP; rw [← u8_eq 45 45 rfl] at h45; simp [Lx.inner, hlt2, hdg, h45])
              go_wp2_with (first | (go_at_call 90; refine (rdigit_any _ _).mono ?_; rintro e w1 ⟨rfl, rfl⟩) | (go_at_call 64; refine (rletter_any _ _).mono ?_; rintro e w1 ⟨rfl, rfl⟩))
              go_ret
              rw [hsp.out hp.out]
              exact ⟨rfl, rfl⟩
    · have hd : decide ((a : Int) + n < s.size) = false := decide_eq_false (by omega)
      have hf := hid (hr'.out.over hlt)
      go_wp2_with fail
      go_ret
      rw [hf.out]
      exact ⟨rfl, rfl⟩

theorem rword_any (s : ByteArray) (w : World) : Calls Tryd.prog 66 #[.string s] w fun e w' => e = .returned (.bool (Lx.isWord s.data.toList)) ∧ Below w.heap.size w w' := by
  have hcell : ∀ k, k < 11 → (w.alloc (.cells wordsArr 9)).cell? ⟨w.heap.size, k, none⟩ = some (.string ⟨(wordAt k).toArray⟩) := by
    intro k hk
    refine (Blk.new w wordsArr 9).cell k ?_
    match k, hk with
    | 0, _ | 1, _ | 2, _ | 3, _ | 4, _ | 5, _ | 6, _ | 7, _ | 8, _ | 9, _ | 10, _ => rfl
  have hcell' := hid hcell
  clear hcell
  have hb := hid (balloc w (.cells wordsArr 9))
  go_enter Tryd.func66, Tryd.ntmps66
  go_wp2_with fail
  change Code.wp _ _ _ _ (w.alloc (.cells wordsArr 9))
  generalize w.alloc (.cells wordsArr 9) = w1 at *
  go_loop [4] (fun i => ∃ k : Nat, k ≤ 11 ∧ i = .int .i64 k ∧ (Lx.words.take k).contains s.data.toList = false) (fun i => 11 - (intOf i).toNat)
  case atStart => exact ⟨0, by omega, rfl, rfl⟩
  case round =>
    obtain ⟨k, hk, rfl, hno⟩ := hrel
    have hno' := hid hno
    clear hno
    by_cases hlt : k < 11
    · have hix := hcell'.out k hlt
      have hsl : s.toList = s.data.toList := ByteArray.toList_eq s
      by_cases hw : (wordAt k == s.data.toList) = true
      · have hf := hid (word_found hlt (show (s.data.toList == wordAt k) = true by rw [beq_iff_eq] at hw ⊢; exact hw.symm))
        go_wp2
        go_ret
        exact ⟨ret_bool hf.out.symm, hb.out⟩
      · have hw' : (wordAt k == s.data.toList) = false := by simpa using hw
        have ht := hid (word_take hlt hno'.out (show (s.data.toList == wordAt k) = false by rw [beq_eq_false_iff_ne] at hw' ⊢; exact fun e => hw' e.symm))
        clear hw
        go_wp2
        go_round
        case rel => exact ⟨k + 1, by omega, by go_num, ht.out⟩
        case measure => simp [intOf]; omega
    · obtain rfl : k = 11 := by omega
      have hf := hid (show Lx.isWord s.data.toList = false from hno'.out)
      go_wp2
      go_ret
      exact ⟨ret_bool hf.out.symm, hb.out⟩

theorem runN_all {p : UInt8 → Bool} {s : ByteArray} : ((Lx.runN p s.data.toList : Int) == s.size) = s.data.toList.all p := by
  have : ∀ l : Lx.Bytes, (Lx.runN p l = l.length) ↔ l.all p = true := by
    intro l
    induction l with
    | nil => simp [Lx.runN]
    | cons c l ih =>
      by_cases hc : p c = true
      · have e : Lx.runN p (c :: l) = Lx.runN p l + 1 := by unfold Lx.runN; rw [List.takeWhile_cons_of_pos hc, List.length_cons]
        rw [e]; simp [hc, ih]
      · have e : Lx.runN p (c :: l) = 0 := by unfold Lx.runN; rw [List.takeWhile_cons_of_neg hc]; rfl
        rw [e]; simp [hc]
  have h := this s.data.toList
  rw [list_len] at h
  rw [Bool.eq_iff_iff, beq_iff_eq, ← h]
  omega

set_option maxHeartbeats 1000000 in
theorem rname_any (s : ByteArray) (w : World) (hs : s.size ≤ 140737488355328) : Calls Tryd.prog 29 #[.string s] w fun e w' => e = .returned (.bool (Lx.isName s.data.toList)) ∧ Below w.heap.size w w' := by
  have hra := hid (@runN_all Lx.inner s)
  by_cases h0 : s.size = 0
  · have e : s.data.toList = [] := List.eq_nil_of_length_eq_zero (by simpa using h0)
    have hn := hid (show Lx.isName s.data.toList = false by rw [e]; rfl)
    have hd : decide ((0 : Int) < s.size) = false := decide_eq_false (by omega)
    have hd2 : decide (0 < s.size) = false := decide_eq_false (by omega)
    clear e
    go_enter Tryd.func29, Tryd.ntmps29
    go_wp2_with fail
    go_ret
    exact ⟨ret_bool hn.out.symm, Below.refl _ _⟩
  · have hpos : 0 < s.size := by omega
    have hn := hid (isName_eq s hpos)
    clear h0
    by_cases h16 : 16 < s.size
    · have hd : decide ((s.size : Int) ≤ 16) = false := decide_eq_false (by omega)
      go_enter Tryd.func29, Tryd.ntmps29
      go_wp2_with fail
      go_ret
      exact ⟨ret_bool (by rw [hn.out, decide_eq_false (by omega)]; rfl), Below.refl _ _⟩
    · have h16' : s.size ≤ 16 := by omega
      cases hc : Lx.letter s[0] with
      | true =>
        cases hal : s.data.toList.all Lx.inner with
        | true =>
          have hq : ((Lx.runN (runP false) s.data.toList : Int) == s.size) = true := hra.out.trans hal
          have hal' := hid hal
          clear hal
          cases hw : Lx.isWord s.data.toList with
          | true =>
            go_enter Tryd.func29, Tryd.ntmps29
            go_wp2_with (first | (go_at_call 64; refine (rletter_any _ _).mono ?_; rintro e w1 ⟨rfl, rfl⟩) | (go_at_call 65; refine (run_any s 0 false _ (by omega) (by omega) hs).mono ?_; rintro e w1 ⟨rfl, rfl⟩) | (go_at_call 66; refine (rword_any _ _).mono ?_; rintro e w1 ⟨rfl, hb1⟩))
            go_ret
            exact ⟨ret_bool (by rw [hn.out, hw]; simp), hb1⟩
          | false =>
            go_enter Tryd.func29, Tryd.ntmps29
            go_wp2_with (first | (go_at_call 64; refine (rletter_any _ _).mono ?_; rintro e w1 ⟨rfl, rfl⟩) | (go_at_call 65; refine (run_any s 0 false _ (by omega) (by omega) hs).mono ?_; rintro e w1 ⟨rfl, rfl⟩) | (go_at_call 66; refine (rword_any _ _).mono ?_; rintro e w1 ⟨rfl, hb1⟩))
            go_ret
            exact ⟨ret_bool (by rw [hn.out, hw, hc, hal'.out, decide_eq_true h16']; rfl), hb1⟩
        | false =>
          have hq : ((Lx.runN (runP false) s.data.toList : Int) == s.size) = false := hra.out.trans hal
          have hal' := hid hal
          clear hal
          go_enter Tryd.func29, Tryd.ntmps29
          go_wp2_with (first | (go_at_call 64; refine (rletter_any _ _).mono ?_; rintro e w1 ⟨rfl, rfl⟩) | (go_at_call 65; refine (run_any s 0 false _ (by omega) (by omega) hs).mono ?_; rintro e w1 ⟨rfl, rfl⟩))
          go_ret
          exact ⟨ret_bool (by rw [hn.out, hal'.out]; simp), Below.refl _ _⟩
      | false =>
        go_enter Tryd.func29, Tryd.ntmps29
        go_wp2_with (first | (go_at_call 64; refine (rletter_any _ _).mono ?_; rintro e w1 ⟨rfl, rfl⟩))
        go_ret
        exact ⟨ret_bool (by rw [hn.out, hc]; simp), Below.refl _ _⟩

/-- the reference's number: the number; above 65535: none -/
def rnum (L : Lx.Bytes) : Nat := if (1 < L.length ∧ L.head? = some 48) ∨ 5 < L.length then 65536 else Lx.numAcc 0 L
theorem numAcc_ge (l : Lx.Bytes) : ∀ n, n * 10 ^ l.length ≤ Lx.numAcc n l := by
  induction l with
  | nil => intro n; simp [Lx.numAcc]
  | cons c l ih =>
    intro n
    have h1 := ih (10 * n + (c.toNat - 48))
    have e : Lx.numAcc n (c :: l) = Lx.numAcc (10 * n + (c.toNat - 48)) l := rfl
    rw [e]
    refine Nat.le_trans ?_ h1
    rw [List.length_cons, Nat.pow_succ]
    have : n * (10 ^ l.length * 10) = (10 * n) * 10 ^ l.length := by rw [Nat.mul_comm (10 ^ l.length) 10, ← Nat.mul_assoc, Nat.mul_comm n 10]
    rw [this]
    exact Nat.mul_le_mul_right _ (by omega)
theorem numAcc_lt (l : Lx.Bytes) : ∀ n, (∀ c ∈ l, c.toNat ≤ 57) → Lx.numAcc n l < (n + 1) * 10 ^ l.length := by
  induction l with
  | nil => intro n _; simp [Lx.numAcc]
  | cons c l ih =>
    intro n hd
    have h1 := ih (10 * n + (c.toNat - 48)) (fun x hx => hd x (List.mem_cons_of_mem _ hx))
    have hc := hd c List.mem_cons_self
    have e : Lx.numAcc n (c :: l) = Lx.numAcc (10 * n + (c.toNat - 48)) l := rfl
    rw [e]
    refine Nat.lt_of_lt_of_le h1 ?_
    rw [List.length_cons, Nat.pow_succ]
    have : (n + 1) * (10 ^ l.length * 10) = (10 * (n + 1)) * 10 ^ l.length := by rw [Nat.mul_comm (10 ^ l.length) 10, ← Nat.mul_assoc, Nat.mul_comm (n + 1) 10]
    rw [this]
    exact Nat.mul_le_mul_right _ (by omega)
/-- digits: the reference's number is the lexer's -/
theorem rnum_eq {L : Lx.Bytes} (hd : ∀ c ∈ L, Lx.digit c = true) (hne : L ≠ []) : (65535 < rnum L ↔ Lx.number L = none) ∧ ∀ n, Lx.number L = some n → rnum L = n := by
  have hd1 : ∀ c ∈ L, 48 ≤ c.toNat ∧ c.toNat ≤ 57 := by
    intro c hc
    have := hd c hc
    rw [digit_eq] at this
    simp only [Bool.and_eq_true, decide_eq_true_eq] at this
    omega
  by_cases hz : 1 < L.length ∧ L.head? = some 48
  · have e1 : rnum L = 65536 := by unfold rnum; rw [if_pos (Or.inl hz)]
    have e2 : Lx.number L = none := by unfold Lx.number; rw [if_pos (Or.inl hz)]
    rw [e1, e2]; exact ⟨by simp, fun n h => by cases h⟩
  · by_cases h5 : 5 < L.length
    · have e1 : rnum L = 65536 := by unfold rnum; rw [if_pos (Or.inr h5)]
      have hbig : 65535 < Lx.numAcc 0 L := by
        cases L with
        | nil => simp at hne
        | cons c l =>
          have hc := hd1 c List.mem_cons_self
          have hc48 : c.toNat ≠ 48 := fun e => hz ⟨by simp only [List.length_cons] at h5 ⊢; omega, by rw [List.head?_cons]; exact congrArg some (UInt8.toNat_inj.1 e)⟩
          have h1 := numAcc_ge l (10 * 0 + (c.toNat - 48))
          have e : Lx.numAcc 0 (c :: l) = Lx.numAcc (10 * 0 + (c.toNat - 48)) l := rfl
          rw [e]
          refine Nat.lt_of_lt_of_le ?_ h1
          have h2 : 10 ^ 5 ≤ 10 ^ l.length := Nat.pow_le_pow_right (by omega) (by simp only [List.length_cons] at h5; omega)
          have h3 : 1 * 10 ^ l.length ≤ (10 * 0 + (c.toNat - 48)) * 10 ^ l.length := Nat.mul_le_mul_right _ (by omega)
          omega
      have e2 : Lx.number L = none := by unfold Lx.number; rw [if_pos (Or.inr hbig)]
      rw [e1, e2]; exact ⟨by simp, fun n h => by cases h⟩
    · have e1 : rnum L = Lx.numAcc 0 L := by unfold rnum; rw [if_neg (by intro h; rcases h with h | h <;> contradiction)]
      rw [e1]
      unfold Lx.number
      by_cases hb : 65535 < Lx.numAcc 0 L
      · rw [if_pos (Or.inr hb)]; exact ⟨by simp [hb], fun n h => by cases h⟩
      · rw [if_neg (by intro h; rcases h with h | h <;> contradiction)]; exact ⟨by simp [hb], fun n h => Option.some.inj h⟩

end Go.Proofs.YtnoieobjfihbeaaDoor

namespace Go.Proofs.YtnoieobjfihbeaaDoor
open Go.RowKit Go.Sort

theorem rsmall_any (n : Int) (w : World) : Calls Tryd.prog 30 #[.int .i64 n] w fun e w' => e = .returned (.bool (Ru.num n)) ∧ Below w.heap.size w w' := by
  refine same_below ?_
  by_cases h0 : 0 ≤ n
  · go_enter Tryd.func30, Tryd.ntmps30
    go_wp2_with fail
    go_ret
    exact ⟨ret_bool (by unfold Ru.num; simp [h0]), rfl⟩
  · go_enter Tryd.func30, Tryd.ntmps30
    go_wp2_with fail
    go_ret
    exact ⟨ret_bool (by unfold Ru.num; simp; omega), rfl⟩

theorem rnothing_any (x : Po.Who) (w : World) : Calls Tryd.prog 32 #[.agg (whoArr x)] w fun e w' => e = .returned (.bool (Ru.zeroW x)) ∧ Below w.heap.size w w' := by
  have e := hid (show Ru.zeroW x = _ from by unfold Ru.zeroW; rw [← empty_eq])
  obtain ⟨any, name, n, line, col⟩ := x
  simp only at e
  unfold whoArr
  simp only
  go_enter Tryd.func32, Tryd.ntmps32
  go_wp2
  all_goals
    go_ret
    rw [e.out]
    refine ⟨ret_bool ?_, balloc w _⟩
    clear e
    simp_all

set_option maxHeartbeats 1000000 in
theorem rmay_any (x : Po.Who) (w : World) (hs : x.name.size ≤ 140737488355328) : Calls Tryd.prog 31 #[.agg (whoArr x)] w fun e w' => e = .returned (.bool (Ru.rMay x)) ∧ Below w.heap.size w w' := by
  have e := hid (show Ru.rMay x = _ from by unfold Ru.rMay; rw [← empty_eq])
  have hnm := hid (rname_any x.name)
  have Q0 := hid (balloc w (.cells (whoArr x) 42))
  have B0 := hid (Blk.new w (whoArr x) 42)
  obtain ⟨any, name, n, line, col⟩ := x
  simp only at e hs hnm Q0
  unfold whoArr at *
  simp only at Q0 B0 ⊢
  cases any with
  | true =>
    go_enter Tryd.func31, Tryd.ntmps31
    go_wp2_with fail
    all_goals
      go_ret
      rw [e.out]
      refine ⟨ret_bool ?_, balloc w _⟩
      clear e hnm Q0 B0
      simp_all
  | false =>
    cases hem : name.toList.isEmpty with
    | true =>
      have hem' : name.toList = [] := by simpa using hem
      have hz := hid (show Lx.isName name.data.toList = false by rw [← ByteArray.toList_eq, hem']; rfl)
      have e2 := hid (show Ru.rMay ⟨false, name, n, line, col⟩ = Ru.num n by rw [e.out, hem, hz.out]; simp)
      clear e hem
      go_enter Tryd.func31, Tryd.ntmps31
      go_wp2_with fail
      refine (rsmall_any n _).mono ?_
      rintro en w1 ⟨rfl, hb1⟩
      have Q1 := hid (bthen Q0.out hb1)
      have B1 := hid (B0.out.ext hb1)
      clear hb1
      cases hn : Ru.num n with
      | true =>
        rw [hn] at e2
        go_wp2_with fail
        go_ret
        exact ⟨ret_bool e2.out.symm, Q1.out⟩
      | false =>
        rw [hn] at e2
        obtain ⟨x0, x1, x2, x3, x4, xf, xz⟩ := B1.out.five
        have hnm2 := hid (fun w => hnm.out w hs)
        rw [hz.out] at hnm2
        go_wp2_with fail
        refine (hnm2.out _).mono ?_
        rintro en w2 ⟨rfl, hb2⟩
        go_wp2_with fail
        go_ret
        exact ⟨ret_bool e2.out.symm, bthen Q1.out hb2⟩
    | false =>
      have hem' : ¬ name.toList = [] := by simpa using hem
      have hem2 : (name.toList == []) = false := beq_eq_false_iff_ne.2 hem'
      have e2 := hid (show Ru.rMay ⟨false, name, n, line, col⟩ = (Lx.isName name.data.toList && n == 0) by rw [e.out, hem]; simp)
      have hnm2 := hid (fun w => hnm.out w hs)
      clear e hem
      cases hi : Lx.isName name.data.toList with
      | false =>
        rw [hi] at e2 hnm2
        go_enter Tryd.func31, Tryd.ntmps31
        go_wp2_with fail
        refine (hnm2.out _).mono ?_
        rintro en w1 ⟨rfl, hb1⟩
        go_wp2_with fail
        go_ret
        exact ⟨ret_bool e2.out.symm, bthen Q0.out hb1⟩
      | true =>
        rw [hi] at e2 hnm2
        by_cases hn : n = 0
        · have kn : (n == 0) = true := beq_iff_eq.2 hn
          rw [kn] at e2
          clear hn
          go_enter Tryd.func31, Tryd.ntmps31
          go_wp2_with fail
          refine (hnm2.out _).mono ?_
          rintro en w1 ⟨rfl, hb1⟩
          obtain ⟨x0, x1, x2, x3, x4, xf, xz⟩ := (B0.out.ext hb1).five
          go_wp2_with fail
          go_ret
          exact ⟨ret_bool e2.out.symm, bthen Q0.out hb1⟩
        · have kn : (n == 0) = false := beq_eq_false_iff_ne.2 hn
          rw [kn] at e2
          clear hn
          go_enter Tryd.func31, Tryd.ntmps31
          go_wp2_with fail
          refine (hnm2.out _).mono ?_
          rintro en w1 ⟨rfl, hb1⟩
          obtain ⟨x0, x1, x2, x3, x4, xf, xz⟩ := (B0.out.ext hb1).five
          go_wp2_with fail
          go_ret
          exact ⟨ret_bool e2.out.symm, bthen Q0.out hb1⟩

/-! ### a declaration: the last part of what it may be -/
def restA (d : Po.Decl) : Bool := Ru.zeroW d.label && Ru.zeroW d.place && d.lo == 0 && d.hi == 0 && d.zoom == 0
def restB (d : Po.Decl) : Bool := Ru.rMay d.label && Ru.rMay d.place && (d.place.any || d.place.name.data.toList != []) && Ru.num d.lo && Ru.num d.hi && Ru.num d.zoom
theorem rRight_eq {d : Po.Decl} (h1 : ¬ d.kind < 1) (h2 : ¬ 6 < d.kind) : Ru.rRight d = (Ru.rNamed d && Ru.rNumber d && Ru.rBoxes d && Ru.rRole d && if d.kind = 4 ∨ d.kind = 5 then restB d else restA d) := by
  unfold Ru.rRight Ru.rRest restA restB
  rw [if_neg (fun h => h.elim h1 h2)]
theorem rBoxes_step {d : Po.Decl} {i : Nat} {c : Bool} (hi : i < d.boxes.length) (h : (d.boxes.take i).foldl (fun b x => b && Ru.boxN x) (Ru.rBoxes0 d) = c) : (d.boxes.take (i + 1)).foldl (fun b x => b && Ru.boxN x) (Ru.rBoxes0 d) = (c && Ru.boxN d.boxes[i]) := by
  rw [List.take_succ_eq_append_getElem hi, List.foldl_append, h]; rfl

end Go.Proofs.YtnoieobjfihbeaaDoor
