/- The walks of package lex: words, Word, Name, number. -/
import Derived.Test.YtelphkhacadfaaaLexB
namespace Go.Proofs.Ytelphkhacadfaaa
open Go.RowKit Go.Sort

def wordAt (k : Nat) : Lx.Bytes := Lx.words.getD k []
def wordsArr : Array Value := #[.string ⟨(wordAt 0).toArray⟩, .string ⟨(wordAt 1).toArray⟩, .string ⟨(wordAt 2).toArray⟩, .string ⟨(wordAt 3).toArray⟩, .string ⟨(wordAt 4).toArray⟩,
  .string ⟨(wordAt 5).toArray⟩, .string ⟨(wordAt 6).toArray⟩, .string ⟨(wordAt 7).toArray⟩, .string ⟨(wordAt 8).toArray⟩, .string ⟨(wordAt 9).toArray⟩, .string ⟨(wordAt 10).toArray⟩]

theorem words_any (w : World) : Calls Try.prog 111 #[] w fun e w' => e = .returned (.agg wordsArr) ∧ Below w.heap.size w w' := by
  go_enter Try.func111, Try.ntmps111
  go_wp2
  exact bodyPost_ret (v := .agg wordsArr) (by simp [results, Try.results111, go_sem]; rfl) rfl ⟨rfl, balloc _ _⟩

theorem words_index : ∀ (k : Nat), k < 11 → ∀ w, (Instr.index 127 (.agg wordsArr) (.int .i64 k)).run Try.prog w = .ok (.string ⟨(wordAt k).toArray⟩) w
  | 0, _ | 1, _ | 2, _ | 3, _ | 4, _ | 5, _ | 6, _ | 7, _ | 8, _ | 9, _ | 10, _ => fun _ => by kernel_rfl

theorem word_take {L : Lx.Bytes} {k : Nat} (hk : k < 11) (h : (Lx.words.take k).contains L = false) (hn : (L == wordAt k) = false) : (Lx.words.take (k + 1)).contains L = false := by
  have hlen : k < Lx.words.length := hk
  have e : wordAt k = Lx.words[k] := by simp [wordAt, List.getD, hlen]
  rw [List.take_succ_eq_append_getElem hlen, List.contains_append, h, ← e]
  simpa using hn
theorem word_found {L : Lx.Bytes} {k : Nat} (hk : k < 11) (hn : (L == wordAt k) = true) : Lx.isWord L = true := by
  have hlen : k < Lx.words.length := hk
  have e : wordAt k = Lx.words[k] := by simp [wordAt, List.getD, hlen]
  have : L = wordAt k := by simpa using hn
  unfold Lx.isWord
  rw [this, e]
  simp

theorem word_any (s : ByteArray) (w : World) : Calls Try.prog 89 #[.string s] w fun e w' => e = .returned (.bool (Lx.isWord s.data.toList)) ∧ Below w.heap.size w w' := by
  go_enter Try.func89, Try.ntmps89
  go_wp2_with fail
  go_step3
  go_wp2_with fail
  go_step3
  go_wp2_with fail
  refine (words_any _).mono ?_
  rintro e w1 ⟨rfl, hb1⟩
  go_wp2_with fail
  go_loop [3, 7] (fun f i => ∃ k : Nat, k ≤ 11 ∧ i = .int .i64 k ∧ f = .bool false ∧ (Lx.words.take k).contains s.data.toList = false) (fun _ i => 11 - (intOf i).toNat)
  case atStart => exact ⟨0, by omega, rfl, rfl, rfl⟩
  case round =>
    obtain ⟨k, hk, rfl, rfl, hno⟩ := hrel
    have hno' := hid hno
    clear hno
    by_cases hlt : k < 11
    · have hix := words_index k hlt
      have hsl : s.toList = s.data.toList := ByteArray.toList_eq s
      by_cases hw : (s.data.toList == wordAt k) = true
      · have hf := hid (word_found hlt hw)
        go_wp2
        go_ret
        exact ⟨ret_bool hf.out.symm, hb1⟩
      · have hw' : (s.data.toList == wordAt k) = false := by simpa using hw
        have ht := hid (word_take hlt hno'.out hw')
        clear hw
        go_wp2
        go_round
        case rel => exact ⟨k + 1, by omega, by go_num, rfl, ht.out⟩
        case measure => simp [intOf]; omega
    · obtain rfl : k = 11 := by omega
      have hf := hid (show Lx.isWord s.data.toList = false from hno'.out)
      go_wp2
      go_ret
      exact ⟨ret_bool hf.out.symm, hb1⟩

theorem name_go {s : ByteArray} {k : Nat} (hk : k < s.size) (h : (s.data.toList.take k).all Lx.inner = true) (hn : Lx.inner s[k] = true) : (s.data.toList.take (k + 1)).all Lx.inner = true := by
  have hlen : k < s.data.toList.length := by simpa using hk
  rw [List.take_succ_eq_append_getElem hlen, List.all_append, h, list_get _ _ hk]
  simp [hn]
theorem name_no {s : ByteArray} {k : Nat} (hk : k < s.size) (hn : Lx.inner s[k] = false) : s.data.toList.all Lx.inner = false := by
  have hlen : k < s.data.toList.length := by simpa using hk
  rw [List.all_eq_false]
  exact ⟨_, List.getElem_mem hlen, by rw [list_get _ _ hk, hn]; simp⟩

theorem isName_eq (s : ByteArray) (h : 0 < s.size) : Lx.isName s.data.toList = (decide (s.size ≤ 16) && Lx.letter s[0] && s.data.toList.all Lx.inner && !Lx.isWord s.data.toList) := by
  have hl : 0 < s.data.toList.length := by simpa using h
  have e : s.data.toList = s[0] :: s.data.toList.drop 1 := by
    have := Lx.drop_cons hl
    rw [List.drop_zero] at this
    exact this
  unfold Lx.isName
  rw [← list_len]
  split
  · rename_i h'; rw [h'] at hl; simp at hl
  · rename_i c l h'
    have : c = s[0] := by rw [h'] at e; exact (List.cons.inj e).1
    rw [this]

theorem name_any (s : ByteArray) (w : World) (hs : s.size ≤ 140737488355328) : Calls Try.prog 57 #[.string s] w fun e w' => e = .returned (.bool (Lx.isName s.data.toList)) ∧ Below w.heap.size w w' := by
  have hsl : s.toList = s.data.toList := ByteArray.toList_eq s
  by_cases h0 : s.size = 0
  · have e : s.data.toList = [] := List.eq_nil_of_length_eq_zero (by simpa using h0)
    have hn := hid (show Lx.isName s.data.toList = false by rw [e]; rfl)
    have e' : s.data.toList.isEmpty = true := by rw [e]; rfl
    clear e
    go_enter Try.func57, Try.ntmps57
    go_wp2_with fail
    go_ret
    exact ⟨ret_bool hn.out.symm, Below.refl _ _⟩
  · have hpos : 0 < s.size := by omega
    have he : s.data.toList.isEmpty = false := by
      cases h : s.data.toList with
      | nil => have := list_len s; rw [h] at this; simp at this; omega
      | cons c l => rfl
    have hn := hid (isName_eq s hpos)
    clear h0
    by_cases h16 : 16 < s.size
    · go_enter Try.func57, Try.ntmps57
      go_wp2_with fail
      go_ret
      exact ⟨ret_bool (by rw [hn.out, decide_eq_false (by omega)]; rfl), Below.refl _ _⟩
    · by_cases hc : Lx.letter s[0] = true
      · go_enter Try.func57, Try.ntmps57
        go_wp2_with fail
        refine (letter_any _ _).mono ?_
        rintro e w1 ⟨rfl, rfl⟩
        go_wp2_with fail
        refine (word_any _ _).mono ?_
        rintro e w1 ⟨rfl, hb1⟩
        by_cases hw : Lx.isWord s.data.toList = true
        · go_wp2_with fail
          go_ret
          exact ⟨ret_bool (by rw [hn.out, hw]; simp), hb1⟩
        · have hw' : Lx.isWord s.data.toList = false := by simpa using hw
          clear hw
          go_wp2_with fail
          go_loop [23] (fun i => ∃ k : Nat, k ≤ s.size ∧ i = .int .i64 k ∧ (s.data.toList.take k).all Lx.inner = true) (fun i => s.size - (intOf i).toNat)
          case atStart => exact ⟨0, Nat.zero_le _, rfl, rfl⟩
          case round =>
            obtain ⟨k, hk, rfl, hall⟩ := hrel
            have hall' := hid hall
            clear hall
            by_cases hlt : k < s.size
            · go_wp2_with fail
              refine (inner_any _ _).mono ?_
              rintro e w2 ⟨rfl, rfl⟩
              by_cases hi : Lx.inner s[k] = true
              · go_wp2_with fail
                go_round
                case rel => exact ⟨k + 1, by omega, by go_num, name_go hlt hall'.out hi⟩
                case measure => simp [intOf]; omega
              · have hi' : Lx.inner s[k] = false := by simpa using hi
                clear hi
                go_wp2_with fail
                go_ret
                exact ⟨ret_bool (by rw [hn.out, name_no hlt hi']; simp), hb1⟩
            · obtain rfl : k = s.size := by omega
              have hf := hid (show s.data.toList.all Lx.inner = true by have := hall'.out; rwa [List.take_of_length_le (by simp)] at this)
              go_wp2_with fail
              go_ret
              exact ⟨ret_bool (by rw [hn.out, hf.out, hc, hw', decide_eq_true (by omega)]; rfl), hb1⟩
      · have hc' : Lx.letter s[0] = false := by simpa using hc
        clear hc
        go_enter Try.func57, Try.ntmps57
        go_wp2_with fail
        refine (letter_any _ _).mono ?_
        rintro e w1 ⟨rfl, rfl⟩
        go_wp2_with fail
        go_ret
        exact ⟨ret_bool (by rw [hn.out, hc']; simp), Below.refl _ _⟩

theorem head_eq (s : ByteArray) (h : 0 < s.size) : s.data.toList.head? = some s[0] := by
  have hl : 0 < s.data.toList.length := by simpa using h
  have := Lx.drop_cons hl
  rw [List.drop_zero] at this
  rw [this]; rfl

theorem number_go {s : ByteArray} {k : Nat} (hk : k < s.size) (hd : 48 ≤ s[k].toNat) :
    min 65536 (10 * min 65536 (Lx.numAcc 0 (s.data.toList.take k)) + (s[k].toNat - 48)) = min 65536 (Lx.numAcc 0 (s.data.toList.take (k + 1))) := by
  rw [Lx.numAcc_succ (by simpa using hk), list_get _ _ hk]
  omega

theorem number_any (s : ByteArray) (w : World) (hd : ∀ (k : Nat) (hk : k < s.size), Lx.digit s[k] = true) (hs : s.size ≤ 140737488355328) :
    Calls Try.prog 114 #[.string s] w fun e w' => e = .returned (.tuple #[.int .i64 (Lx.numRet s.data.toList), .bool (Lx.number s.data.toList).isSome]) ∧ w = w' := by
  have hd' := hid hd
  clear hd
  by_cases hz : 1 < s.data.toList.length ∧ s.data.toList.head? = some 48
  · have h1 : 1 < s.size := by simpa using hz.1
    have h48 : ((s[0].toNat : Int) == 48) = true := by have := hz.2; rw [head_eq s (by omega)] at this; rw [← u8_eq 48 48 rfl]; simpa using this
    have e1 := hid (show Lx.numRet s.data.toList = 0 by unfold Lx.numRet; rw [if_pos hz])
    have e2 := hid (show (Lx.number s.data.toList).isSome = false by unfold Lx.number; rw [if_pos (Or.inl hz)]; rfl)
    clear hz
    go_enter Try.func114, Try.ntmps114
    go_wp2_with fail
    go_ret2
    rw [e1.out, e2.out]
    exact ⟨rfl, rfl⟩
  · have e1 := hid (show Lx.numRet s.data.toList = min 65536 (Lx.numAcc 0 s.data.toList) by unfold Lx.numRet; rw [if_neg hz])
    have e2 := hid (Lx.number_ok hz)
    have hh : decide ((1 : Int) < s.size) = false ∨ ∃ h : 1 < s.size, ((s[0].toNat : Int) == 48) = false := by
      by_cases h1 : 1 < s.size
      · refine Or.inr ⟨h1, ?_⟩
        rw [← u8_eq 48 48 rfl]
        have : ¬ s[0] = 48 := fun e => hz ⟨by simpa using h1, by rw [head_eq s (by omega), e]⟩
        simpa using this
      · exact Or.inl (decide_eq_false (by omega))
    clear hz
    rcases hh with h1 | ⟨h1, h48⟩
    all_goals
      go_enter Try.func114, Try.ntmps114
      go_wp2_with fail
      go_loop [4, 16] (fun n i => ∃ k : Nat, k ≤ s.size ∧ i = .int .i64 k ∧ n = .int .i64 ((min 65536 (Lx.numAcc 0 (s.data.toList.take k)) : Nat) : Int)) (fun _ i => s.size - (intOf i).toNat)
      case atStart => exact ⟨0, Nat.zero_le _, rfl, rfl⟩
      case round =>
        obtain ⟨k, hk, rfl, rfl⟩ := hrel
        by_cases hlt : k < s.size
        · have hdk := hd'.out k hlt
          rw [digit_eq] at hdk
          simp only [Bool.and_eq_true, decide_eq_true_eq] at hdk
          obtain ⟨hd1, hd2⟩ := hdk
          have hgo := hid (number_go hlt (by omega))
          have hm := Nat.min_le_left 65536 (Lx.numAcc 0 (s.data.toList.take k))
          generalize hmm : min 65536 (Lx.numAcc 0 (s.data.toList.take k)) = m at *
          clear hmm
          go_wp2_with fail
          go_round
          case rel => exact ⟨k + 1, by omega, by go_num, by rw [← hgo.out]; congr 1; split <;> omega⟩
          case measure => simp [intOf]; omega
        · obtain rfl : k = s.size := by omega
          have hf := hid (show s.data.toList.take s.size = s.data.toList from List.take_of_length_le (by simp))
          go_wp2_with fail
          go_ret2
          rw [e1.out, e2.out, hf.out]
          exact ⟨ret_eq (by simp; omega), rfl⟩

end Go.Proofs.Ytelphkhacadfaaa
