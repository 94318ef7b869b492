/- The walks of the lexer's reference: number, Place, skip. -/
import Derived.Test.YtoegepgdfnokdaaLexR
namespace Go.Proofs.Ytoegepgdfnokdaa
open Go.RowKit Go.Sort

theorem acc_go {s : ByteArray} {k : Nat} (hk : k < s.size) (hd : 48 ≤ s[k].toNat) : (10 * (Lx.numAcc 0 (s.data.toList.take k) : Int) + s[k].toNat - 48) = (Lx.numAcc 0 (s.data.toList.take (k + 1)) : Nat) := by
  rw [Lx.numAcc_succ (by simpa using hk), list_get _ _ hk]
  omega
theorem acc_bound {s : ByteArray} (hd : ∀ (k : Nat) (hk : k < s.size), Lx.digit s[k] = true) (k : Nat) (hk : k ≤ 5) : Lx.numAcc 0 (s.data.toList.take k) ≤ 100000 := by
  have h := numAcc_lt (s.data.toList.take k) 0 (by
    intro c hc
    have hm := List.mem_of_mem_take hc
    obtain ⟨j, hj, rfl⟩ := List.getElem_of_mem hm
    have h1 : j < s.size := by simpa using hj
    have := hd j h1
    rw [digit_eq] at this
    simp only [Bool.and_eq_true, decide_eq_true_eq] at this
    rw [list_get s j h1]
    omega)
  have h2 : 10 ^ (s.data.toList.take k).length ≤ 10 ^ 5 := Nat.pow_le_pow_right (by omega) (by rw [List.length_take]; omega)
  omega

set_option maxHeartbeats 1000000 in
theorem rnumber_any (s : ByteArray) (w : World) (hd : ∀ (k : Nat) (hk : k < s.size), Lx.digit s[k] = true) (hs : s.size ≤ 140737488355328) :
    Calls Try.prog 41 #[.string s] w fun e w' => e = .returned (.int .i64 (rnum s.data.toList)) ∧ w = w' := by
  have hd' := hid hd
  clear hd
  by_cases hz : (1 < s.data.toList.length ∧ s.data.toList.head? = some 48) ∨ 5 < s.data.toList.length
  · have e1 := hid (show rnum s.data.toList = 65536 by unfold rnum; rw [if_pos hz])
    have hh : (∃ h : 1 < s.size, ((s[0].toNat : Int) == 48) = true) ∨ ((decide ((1 : Int) < s.size) = false ∨ ∃ h : 1 < s.size, ((s[0].toNat : Int) == 48) = false) ∧ 5 < s.size) := by
      by_cases h1 : 1 < s.size
      · cases h48 : ((s[0].toNat : Int) == 48) with
        | true => exact Or.inl ⟨h1, h48⟩
        | false =>
          refine Or.inr ⟨Or.inr ⟨h1, h48⟩, ?_⟩
          rcases hz with hz | hz
          · have := hz.2; rw [head_eq s (by omega)] at this; rw [← u8_eq 48 48 rfl] at h48; rw [Option.some.inj this] at h48; cases h48
          · simpa using hz
      · refine Or.inr ⟨Or.inl (decide_eq_false (by omega)), ?_⟩
        rcases hz with hz | hz
        · have := hz.1; simp at this; omega
        · simpa using hz
    clear hz
    rcases hh with ⟨h1, h48⟩ | ⟨h1 | ⟨h1, h48⟩, h5⟩
    all_goals
      go_enter Try.func41, Try.ntmps41
      go_wp2_with fail
      go_ret
      rw [e1.out]
      exact ⟨rfl, rfl⟩
  · have e1 := hid (show rnum s.data.toList = Lx.numAcc 0 s.data.toList by unfold rnum; rw [if_neg hz])
    have h5 : s.size ≤ 5 := by
      have : ¬ 5 < s.data.toList.length := fun h => hz (Or.inr h)
      rw [list_len] at this; omega
    have hh : decide ((1 : Int) < s.size) = false ∨ ∃ h : 1 < s.size, ((s[0].toNat : Int) == 48) = false := by
      by_cases h1 : 1 < s.size
      · refine Or.inr ⟨h1, ?_⟩
        rw [← u8_eq 48 48 rfl]
        have : ¬ s[0] = 48 := fun e => hz (Or.inl ⟨by simpa using h1, by rw [head_eq s (by omega), e]⟩)
        simpa using this
      · exact Or.inl (decide_eq_false (by omega))
    clear hz
    rcases hh with h1 | ⟨h1, h48⟩
    all_goals
      go_enter Try.func41, Try.ntmps41
      go_wp2_with fail
      go_loop [3, 4] (fun n i => ∃ k : Nat, k ≤ s.size ∧ i = .int .i64 k ∧ n = .int .i64 ((Lx.numAcc 0 (s.data.toList.take k) : Nat) : Int)) (fun _ i => s.size - (intOf i).toNat)
      case atStart => exact ⟨0, Nat.zero_le _, rfl, rfl⟩
      case round =>
        obtain ⟨k, hk, rfl, rfl⟩ := hrel
        by_cases hlt : k < s.size
        · have hdk := hd'.out k hlt
          rw [digit_eq] at hdk
          simp only [Bool.and_eq_true, decide_eq_true_eq] at hdk
          obtain ⟨hd1, hd2⟩ := hdk
          have hgo := hid (acc_go hlt (by omega))
          have hm := acc_bound hd'.out k (by omega)
          generalize hmm : Lx.numAcc 0 (s.data.toList.take k) = m at *
          clear hmm
          go_wp2_with fail
          go_round
          case rel => exact ⟨k + 1, by omega, by go_num, by rw [← hgo.out]⟩
          case measure => simp [intOf]; omega
        · obtain rfl : k = s.size := by omega
          have hf := hid (show s.data.toList.take s.size = s.data.toList from List.take_of_length_le (by simp))
          go_wp2_with fail
          go_ret
          rw [e1.out, hf.out]
          exact ⟨rfl, rfl⟩

set_option maxHeartbeats 1000000 in
theorem rplace_any (s : ByteArray) (a : Int) (w : World) (h0 : 0 ≤ a) (h1 : a ≤ s.size) (hs : s.size ≤ 140737488355328) :
    Calls Try.prog 12 #[.string s, .int .i64 a] w fun e w' =>
      e = .returned (.agg #[.int .i64 (Lx.posOf (s.data.toList.take a.toNat)).1, .int .i64 (Lx.posOf (s.data.toList.take a.toNat)).2]) ∧ Below w.heap.size w w' := by
  obtain ⟨a, rfl⟩ := Int.eq_ofNat_of_zero_le h0
  rw [Int.toNat_natCast]
  have ha : a ≤ s.size := by omega
  have hn2 := Nat.le_refl w.heap.size
  have hn1 : w.heap.size ≤ w.heap.size + 1 := by omega
  clear h0 h1
  go_enter Try.func12, Try.ntmps12
  go_wp2_with fail
  go_loopw [6] (fun u wr => ∃ k : Nat, k ≤ a ∧ u = .int .i64 k ∧ Blk wr w.heap.size #[.int .i64 0, .int .i64 0] 25 ∧ Blk wr (w.heap.size + 1) #[.int .i64 (Lx.posOf (s.data.toList.take k)).1, .int .i64 (Lx.posOf (s.data.toList.take k)).2] 25 ∧ Below w.heap.size w wr) (fun u _ => a - (intOf u).toNat)
  case atStart => exact ⟨0, Nat.zero_le _, rfl, (Blk.new w _ _).alloc _, Blk.newAt (by simp) _ _, (balloc w _).alloc (by simp) _⟩
  case round =>
    obtain ⟨k, hk, rfl, hB, hP, hQ⟩ := hrel
    have hB' := hid hB
    have hP' := hid hP
    have hQ' := hid hQ
    clear hB hP hQ
    by_cases hlt : k < a
    · have hlt2 : k < s.size := by omega
      have hp := Lx.posOf_le (s.data.toList.take k)
      rw [List.length_take, list_len] at hp
      have hq := hid (Lx.posOf_succ (L := s.data.toList) (i := k) (by simpa using hlt2))
      generalize hg : Lx.posOf (s.data.toList.take k) = p at *
      obtain ⟨line, col⟩ := p
      simp only at hp
      clear hg
      obtain ⟨c0, c1, cf, cz⟩ := hP'.out.two
      cases h10 : ((s[k].toNat : Int) == 10) with
      | true =>
        have e : s[k] = 10 := by rw [← u8_eq 10 10 rfl] at h10; simpa using h10
        go_wp2_with fail
        go_roundw
        case rel =>
          refine ⟨k + 1, by omega, by go_num, ?_, ?_, ?_⟩
          · simp only [Blk.setOther_iff (show w.heap.size ≠ w.heap.size + 1 by omega)]; exact hB'.out
          · rw [hq.out, list_get _ _ hlt2]
            simp only [Lx.adv, e, if_true]
            exact ((hP'.out.set 1 _).set 0 _).set 1 _
          · exact (by simp only [below_setNew_iff hn1]; exact hQ'.out)
        case measure => simp [intOf]; omega
      | false =>
        have e : ¬ s[k] = 10 := by rw [← u8_eq 10 10 rfl] at h10; simpa using h10
        go_wp2_with fail
        go_roundw
        case rel =>
          refine ⟨k + 1, by omega, by go_num, ?_, ?_, ?_⟩
          · simp only [Blk.setOther_iff (show w.heap.size ≠ w.heap.size + 1 by omega)]; exact hB'.out
          · rw [hq.out, list_get _ _ hlt2]
            simp only [Lx.adv, e, if_false]
            exact hP'.out.set 1 _
          · exact (by simp only [below_setNew_iff hn1]; exact hQ'.out)
        case measure => simp [intOf]; omega
    · obtain rfl : k = a := by omega
      obtain ⟨c0, c1, cf, cz⟩ := hP'.out.two
      obtain ⟨d0, d1, df, dz⟩ := hB'.out.two
      go_wp2_with fail
      exact bodyPost_ret (v := .agg #[.int .i64 (Lx.posOf (s.data.toList.take k)).1, .int .i64 (Lx.posOf (s.data.toList.take k)).2]) (by simp [results, Try.results12, go_sem, d0, d1]) rfl ⟨rfl, (by simp only [below_setNew_iff hn2]; exact hQ'.out)⟩

/-- how far the skipping has come; the Bool: in a remark -/
def Skipping (L : Lx.Bytes) (i a : Nat) (rm : Bool) : Prop := i ≤ a ∧ a ≤ L.length ∧ a + Lx.skipN rm (L.drop a) = i + Lx.skipN false (L.drop i)
theorem Skipping.begin {L : Lx.Bytes} {i : Nat} (h : i ≤ L.length) : Skipping L i i false := ⟨Nat.le_refl _, h, rfl⟩
theorem Skipping.rm {s : ByteArray} {i a : Nat} (h : Skipping s.data.toList i a true) (hlt : a < s.size) : Skipping s.data.toList i (a + 1) (s[a] != 10) := by
  obtain ⟨h1, h2, h3⟩ := h
  refine ⟨by omega, by simp; omega, ?_⟩
  rw [Lx.drop_cons (show a < s.data.toList.length by simpa using hlt)] at h3
  simp only [Lx.skipN, list_get s a hlt] at h3
  omega
theorem Skipping.hash {s : ByteArray} {i a : Nat} (h : Skipping s.data.toList i a false) (hlt : a < s.size) (hc : (s[a] == 35) = true) : Skipping s.data.toList i (a + 1) true := by
  obtain ⟨h1, h2, h3⟩ := h
  refine ⟨by omega, by simp; omega, ?_⟩
  rw [Lx.drop_cons (show a < s.data.toList.length by simpa using hlt)] at h3
  simp only [Lx.skipN, list_get s a hlt, hc, if_true] at h3
  omega
theorem Skipping.blank {s : ByteArray} {i a : Nat} (h : Skipping s.data.toList i a false) (hlt : a < s.size) (hc : (s[a] == 35) = false) (hb : Lx.blank s[a] = true) : Skipping s.data.toList i (a + 1) false := by
  obtain ⟨h1, h2, h3⟩ := h
  refine ⟨by omega, by simp; omega, ?_⟩
  rw [Lx.drop_cons (show a < s.data.toList.length by simpa using hlt)] at h3
  simp only [Lx.skipN, list_get s a hlt, hc, hb, if_true, Bool.false_eq_true, if_false] at h3
  omega
theorem Skipping.stop {s : ByteArray} {i a : Nat} (h : Skipping s.data.toList i a false) (hlt : a < s.size) (hc : (s[a] == 35) = false) (hb : Lx.blank s[a] = false) : i + Lx.skipN false (s.data.toList.drop i) = a := by
  obtain ⟨h1, h2, h3⟩ := h
  rw [Lx.drop_cons (show a < s.data.toList.length by simpa using hlt)] at h3
  simp only [Lx.skipN, list_get s a hlt, hc, hb, Bool.false_eq_true, if_false] at h3
  omega
theorem Skipping.over {s : ByteArray} {i a : Nat} {rm : Bool} (h : Skipping s.data.toList i a rm) (hlt : ¬ a < s.size) : i + Lx.skipN false (s.data.toList.drop i) = a := by
  obtain ⟨h1, h2, h3⟩ := h
  rw [List.drop_eq_nil_of_le (show s.data.toList.length ≤ a by simp; omega)] at h3
  cases rm <;> simp only [Lx.skipN] at h3 <;> omega

set_option maxHeartbeats 2000000 in
theorem rskip_any (s : ByteArray) (i : Int) (w : World) (h0 : 0 ≤ i) (h1 : i ≤ s.size) (hs : s.size ≤ 140737488355328) :
    Calls Try.prog 23 #[.string s, .int .i64 i] w fun e w' =>
      e = .returned (.int .i64 (i.toNat + Lx.skipN false (s.data.toList.drop i.toNat) : Nat)) ∧ w = w' := by
  obtain ⟨i, rfl⟩ := Int.eq_ofNat_of_zero_le h0
  rw [Int.toNat_natCast]
  have hi : i ≤ s.size := by omega
  clear h0 h1
  go_enter Try.func23, Try.ntmps23
  go_wp2_with fail
  go_loop [5, 6] (fun u v => ∃ (a : Nat) (rm : Bool), u = .int .i64 a ∧ v = .bool rm ∧ a ≤ s.size ∧ Skipping s.data.toList i a rm) (fun u _ => s.size - (intOf u).toNat)
  case atStart => exact ⟨i, false, rfl, rfl, hi, Skipping.begin (by simpa using hi)⟩
  case round =>
    obtain ⟨a, rm, rfl, rfl, hle, hk⟩ := hrel
    have hk' := hid hk
    clear hk
    by_cases hlt : a < s.size
    · cases rm with
      | true =>
        have hgo := hid (hk'.out.rm (s := s) hlt)
        rw [u8_neq 10 10 rfl] at hgo
        cases h35 : ((s[a].toNat : Int) == 35) with
        | true =>
          cases h10 : ((s[a].toNat : Int) == 10) with
          | true => simp only [beq_iff_eq] at h35 h10; omega
          | false =>
            have hgo' := hid (show Skipping s.data.toList i (a + 1) true by have := hgo.out; unfold bne at this; rwa [h10] at this)
            clear hgo
            go_wp2_with fail
            go_round
            case rel => exact ⟨a + 1, _, by go_num, rfl, by omega, hgo'.out⟩
            case measure => simp [intOf]; omega
        | false =>
          cases h10 : ((s[a].toNat : Int) == 10) with
          | true =>
            have hgo' := hid (show Skipping s.data.toList i (a + 1) false by have := hgo.out; unfold bne at this; rwa [h10] at this)
            clear hgo
            go_wp2_with fail
            go_round
            case rel => exact ⟨a + 1, _, by go_num, rfl, by omega, hgo'.out⟩
            case measure => simp [intOf]; omega
          | false =>
            have hgo' := hid (show Skipping s.data.toList i (a + 1) true by have := hgo.out; unfold bne at this; rwa [h10] at this)
            clear hgo
            go_wp2_with fail
            go_round
            case rel => exact ⟨a + 1, _, by go_num, rfl, by omega, hgo'.out⟩
            case measure => simp [intOf]; omega
      | false =>
        have hha := hid (fun h => hk'.out.hash (s := s) hlt h)
        have hbl := hid (fun h1 h2 => hk'.out.blank (s := s) hlt h1 h2)
        have hst := hid (fun h1 h2 => hk'.out.stop (s := s) hlt h1 h2)
        rw [blank_eq, u8_eq 35 35 rfl] at hbl hst
        rw [u8_eq 35 35 rfl] at hha
        cases h35 : ((s[a].toNat : Int) == 35) with
        | true =>
          have h32 : ((s[a].toNat : Int) == 32) = false := by rw [beq_eq_false_iff_ne]; rw [beq_iff_eq] at h35; omega
          have h10 : ((s[a].toNat : Int) == 10) = false := by rw [beq_eq_false_iff_ne]; rw [beq_iff_eq] at h35; omega
          go_wp2_with fail
          go_round
          case rel => exact ⟨a + 1, _, by go_num, rfl, by omega, hha.out h35⟩
          case measure => simp [intOf]; omega
        | false =>
          cases h32 : ((s[a].toNat : Int) == 32) with
          | true =>
            have h10 : ((s[a].toNat : Int) == 10) = false := by rw [beq_eq_false_iff_ne]; rw [beq_iff_eq] at h32; omega
            go_wp2_with fail
            go_round
            case rel => exact ⟨a + 1, _, by go_num, rfl, by omega, hbl.out h35 (by rw [h32]; rfl)⟩
            case measure => simp [intOf]; omega
          | false =>
            cases h10 : ((s[a].toNat : Int) == 10) with
            | true =>
              go_wp2_with fail
              go_round
              case rel => exact ⟨a + 1, _, by go_num, rfl, by omega, hbl.out h35 (by rw [h10, Bool.or_true])⟩
              case measure => simp [intOf]; omega
            | false =>
              have hf := hid (hst.out h35 (by rw [h32, h10]; rfl))
              go_wp2_with fail
              go_ret
              exact ⟨ret_int (by have := hf.out; omega), rfl⟩
    · have hd : decide (a < s.size) = false := decide_eq_false hlt
      have hf := hid (hk'.out.over hlt)
      go_wp2_with fail
      go_ret
      exact ⟨ret_int (by have := hf.out; omega), rfl⟩

end Go.Proofs.Ytoegepgdfnokdaa
