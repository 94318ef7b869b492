/-
  The walks of package lex: skip, begin, End, Word, Name, number.
  The walks of package lex: words, Word, Name, number.
  The walks of package lex: name, digits, mark, next.
  The walks of package lex: digits, mark, next.
  The walks of package lex: mark.
-/
import Derived.Test.YteddkgpnklfppaaGreatDoorPk01

namespace Go.Proofs.YteddkgpnklfppaaGreatDoor
open Go.RowKit Go.Sort

theorem skip_any {b : Nat} {s : ByteArray} {i : Nat} {w : World} (hr : RdP w b s i) (hi : i ≤ s.size) (hs : s.size ≤ 140737488355328) :
    Calls Tryz.prog 47 #[.pointer (some ⟨b, 0, none⟩)] w fun e w' =>
      e = .returned (.tuple #[]) ∧ RdP w' b s (i + Lx.skipN false (s.data.toList.drop i)) ∧ Touch b w w' := by
  have hr' := hid hr
  clear hr
  go_enter Tryz.func47, Tryz.ntmps47
  go_wp2
  go_loopg [3] (s.size - i) (fun k _ wr => ∃ j, i ≤ j ∧ j ≤ s.size ∧ k = s.size - j ∧ RdP wr b s j ∧ Touch b w wr ∧ j + Lx.skipN false (s.data.toList.drop j) = i + Lx.skipN false (s.data.toList.drop i))
  case atStart => exact ⟨i, Nat.le_refl _, hi, rfl, hr'.out, Touch.refl _ _, rfl⟩
  case round =>
    obtain ⟨j, hij, hjs, hk, hrj, htj, hsum⟩ := hrel
    have hsum' := hid hsum
    have hk' := hid hk
    have hrj' := hid hrj
    clear hsum hk hrj
    have hblk := Lx.skipN_blanks (s.data.toList.drop j)
    have hle := Lx.runN_le Lx.blank (s.data.toList.drop j)
    rw [List.length_drop, list_len] at hle
    rw [List.drop_drop] at hblk
    go_wp2_with fail
    refine (while_any _ holds_blank hrj'.out hjs hs).mono ?_
    rintro e w1 ⟨rfl, hr1, ht1⟩
    generalize hm : Lx.runN Lx.blank (s.data.toList.drop j) = m at *
    have hm' := hid hm
    have hblk' := hid hblk
    have hr1' := hid hr1
    clear hm hblk hr1
    go_wp2_with fail
    refine (more_any _ holds_35 hr1'.out).mono ?_
    rintro e w2 ⟨rfl, hb2⟩
    have hr2' := hid (RdP.ext hr1'.out hb2)
    by_cases hh : Lx.hdIs (· == 35) (s.data.toList.drop (j + m)) = true
    · have hrem := Lx.skipN_remark hh
      have hle2 := Lx.runN_le Lx.not10 (s.data.toList.drop (j + m))
      rw [List.length_drop, list_len] at hle2
      rw [List.drop_drop] at hrem
      have hrem' := hid hrem
      clear hrem
      have hpos : 0 < Lx.runN Lx.not10 (s.data.toList.drop (j + m)) := by
        have hlt := Lx.lt_of_hdIs hh
        rw [Lx.hdIs_lt hlt] at hh
        have h35 : s.data.toList[j + m] = 35 := by simpa using hh
        rw [Lx.runN_step (by rw [Lx.hdIs_lt hlt, h35]; rfl)]; omega
      go_wp2_with fail
      refine (while_any _ holds_not10 hr2'.out (by omega) hs).mono ?_
      rintro e w3 ⟨rfl, hr3, ht3⟩
      generalize hn : Lx.runN Lx.not10 (s.data.toList.drop (j + m)) = n at *
      have hn' := hid hn
      have hr3' := hid hr3
      clear hn hr3
      go_wp2_with fail
      go_roundg (s.size - (j + m + n))
      case measure => have := hk'.out; omega
      case rel => exact ⟨j + m + n, by omega, by omega, rfl, hr3'.out, ((htj.trans ht1).below hb2).trans ht3, by have := hsum'.out; have := hblk'.out; have := hrem'.out; omega⟩
    · have hh' : Lx.hdIs (· == 35) (s.data.toList.drop (j + m)) = false := by simpa using hh
      have hz : Lx.skipN false (s.data.toList.drop (j + m)) = 0 := by
        refine Lx.skipN_stop ?_ hh'
        have := Lx.hdIs_drop_runN Lx.blank (s.data.toList.drop j)
        rwa [hm'.out, List.drop_drop] at this
      have hfin := hid (show i + Lx.skipN false (s.data.toList.drop i) = j + m by have := hsum'.out; have := hblk'.out; omega)
      clear hh hz
      go_wp2
      refine bodyPost_ret (results_none rfl _ _ _) rfl ?_
      rw [hfin.out]
      exact ⟨rfl, hr2'.out, (htj.trans ht1).below hb2⟩

theorem begin_any (s : ByteArray) (w : World) :
    Calls Tryz.prog 45 #[.string s] w fun e w' => ∃ b, e = .returned (.pointer (some ⟨b, 0, none⟩)) ∧ w.heap.size ≤ b ∧ RdP w' b s 0 ∧ Below w.heap.size w w' := by
  go_enter Tryz.func45, Tryz.ntmps45
  go_wp2
  go_ret
  exact ⟨_, rfl, Nat.le_refl _, Blk.new _ _ _, balloc _ _⟩

theorem end_any (s : ByteArray) (w : World) (hs : s.size ≤ 140737488355328) :
    Calls Tryz.prog 29 #[.string s] w fun e w' => e = .returned (.agg #[.int .i64 (Lx.posOf s.data.toList).1, .int .i64 (Lx.posOf s.data.toList).2]) ∧ Below w.heap.size w w' := by
  have hall : Lx.runN (fun _ => true) s.data.toList = s.size := by
    unfold Lx.runN
    have : ∀ l : Lx.Bytes, (l.takeWhile fun _ => true) = l := fun l => by induction l with | nil => rfl | cons c l ih => simp [ih]
    rw [this]
    simp
  have htk : s.data.toList.take s.size = s.data.toList := List.take_of_length_le (by simp)
  have hall' := hid hall
  have htk' := hid htk
  clear hall htk
  go_enter Tryz.func29, Tryz.ntmps29
  go_wp2_with fail
  have B0 := hid (Blk.new w #[.int .i64 0, .int .i64 0] 31)
  refine (begin_any s _).mono ?_
  rintro e w1 ⟨b, rfl, hlb, hr1, hb1⟩
  simp only [World.size_alloc] at hlb
  have hr1' := hid hr1
  have B1 := hid (B0.out.ext hb1)
  clear hr1
  go_wp2_with fail
  refine (while_any _ holds_all hr1'.out (Nat.zero_le _) hs).mono ?_
  rintro e w2 ⟨rfl, hr2, ht2⟩
  have B2 := hid (B1.out.touch ht2 (by omega))
  have hr2' : Hid (RdP w2 b s s.size) := by have h := hr2; rw [List.drop_zero, hall'.out, Nat.zero_add] at h; exact h
  clear hr2
  go_wp2_with fail
  refine (place_any hr2'.out).mono ?_
  rintro e w3 ⟨rfl, hb3⟩
  have B3 := hid (B2.out.ext hb3)
  obtain ⟨c0, c1, f, hz3⟩ := B3.out.two
  go_wp2
  rw [htk'.out]
  refine bodyPost_ret (v := .agg #[.int .i64 (Lx.posOf s.data.toList).1, .int .i64 (Lx.posOf s.data.toList).2]) (by simp [results, Tryz.results29, go_sem, c0, c1]) rfl ⟨rfl, ?_⟩
  have h1 : Below w.heap.size w w1 := (balloc w _).trans (hb1.mono (by simp))
  have h2 : Below w.heap.size w w2 := h1.trans (ht2.to_below h1.size (by omega))
  exact bset (bset (h2.trans (hb3.mono h2.size)) (Nat.le_refl _) _) (Nat.le_refl _) _

end Go.Proofs.YteddkgpnklfppaaGreatDoor

namespace Go.Proofs.YteddkgpnklfppaaGreatDoor
open Go.RowKit Go.Sort

def wordAt (k : Nat) : Lx.Bytes := Lx.words.getD k []
def wordsArr : Array Value := #[.string ⟨(wordAt 0).toArray⟩, .string ⟨(wordAt 1).toArray⟩, .string ⟨(wordAt 2).toArray⟩, .string ⟨(wordAt 3).toArray⟩, .string ⟨(wordAt 4).toArray⟩,
  .string ⟨(wordAt 5).toArray⟩, .string ⟨(wordAt 6).toArray⟩, .string ⟨(wordAt 7).toArray⟩, .string ⟨(wordAt 8).toArray⟩, .string ⟨(wordAt 9).toArray⟩, .string ⟨(wordAt 10).toArray⟩]

theorem words_any (w : World) : Calls Tryz.prog 124 #[] w fun e w' => e = .returned (.agg wordsArr) ∧ Below w.heap.size w w' := by
  go_enter Tryz.func124, Tryz.ntmps124
  go_wp2
  exact bodyPost_ret (v := .agg wordsArr) (by simp [results, Tryz.results124, go_sem]; rfl) rfl ⟨rfl, balloc _ _⟩

theorem words_index : ∀ (k : Nat), k < 11 → ∀ w, (Instr.index 175 (.agg wordsArr) (.int .i64 k)).run Tryz.prog w = .ok (.string ⟨(wordAt k).toArray⟩) w
  | 0, _ | 1, _ | 2, _ | 3, _ | 4, _ | 5, _ | 6, _ | 7, _ | 8, _ | 9, _ | 10, _ => fun _ => by kernel_rfl

theorem word_take {L : Lx.Bytes} {k : Nat} (hk : k < 11) (h : (Lx.words.take k).contains L = false) (hn : (L == wordAt k) = false) : (Lx.words.take (k + 1)).contains L = false := by
  have hlen : k < Lx.words.length := hk
  have e : wordAt k = Lx.words[k] := by simp [wordAt, List.getD, hlen]
  rw [List.take_succ_eq_append_getElem hlen, List.contains_append, h, ← e]
  simpa using hn
theorem word_found {L : Lx.Bytes} {k : Nat} (hk : k < 11) (hn : (L == wordAt k) = true) : Lx.isWord L = true := by
  have hlen : k < Lx.words.length := hk
  have e : wordAt k = Lx.words[k] := by simp [wordAt, List.getD, hlen]
  have : L = wordAt k := by simpa using hn
  unfold Lx.isWord
  rw [this, e]
  simp

theorem word_any (s : ByteArray) (w : World) : Calls Tryz.prog 112 #[.string s] w fun e w' => e = .returned (.bool (Lx.isWord s.data.toList)) ∧ Below w.heap.size w w' := by
  go_enter Tryz.func112, Tryz.ntmps112
  go_wp2_with fail
  go_step3
  go_wp2_with fail
  go_step3
  go_wp2_with fail
  refine (words_any _).mono ?_
  rintro e w1 ⟨rfl, hb1⟩
  go_wp2_with fail
  go_loop [3, 7] (fun f i => ∃ k : Nat, k ≤ 11 ∧ i = .int .i64 k ∧ f = .bool false ∧ (Lx.words.take k).contains s.data.toList = false) (fun _ i => 11 - (intOf i).toNat)
  case atStart => exact ⟨0, by omega, rfl, rfl, rfl⟩
  case round =>
    obtain ⟨k, hk, rfl, rfl, hno⟩ := hrel
    have hno' := hid hno
    clear hno
    by_cases hlt : k < 11
    · have hix := words_index k hlt
      have hsl : s.toList = s.data.toList := ByteArray.toList_eq s
      by_cases hw : (s.data.toList == wordAt k) = true
      · have hf := hid (word_found hlt hw)
        go_wp2
        go_ret
        exact ⟨ret_bool hf.out.symm, hb1⟩
      · have hw' : (s.data.toList == wordAt k) = false := by simpa using hw
        have ht := hid (word_take hlt hno'.out hw')
        clear hw
        go_wp2
        go_round
        case rel => exact ⟨k + 1, by omega, by go_num, rfl, ht.out⟩
        case measure => simp [intOf]; omega
    · obtain rfl : k = 11 := by omega
      have hf := hid (show Lx.isWord s.data.toList = false from hno'.out)
      go_wp2
      go_ret
      exact ⟨ret_bool hf.out.symm, hb1⟩

theorem name_go {s : ByteArray} {k : Nat} (hk : k < s.size) (h : (s.data.toList.take k).all Lx.inner = true) (hn : Lx.inner s[k] = true) : (s.data.toList.take (k + 1)).all Lx.inner = true := by
  have hlen : k < s.data.toList.length := by simpa using hk
  rw [List.take_succ_eq_append_getElem hlen, List.all_append, h, list_get _ _ hk]
  simp [hn]
theorem name_no {s : ByteArray} {k : Nat} (hk : k < s.size) (hn : Lx.inner s[k] = false) : s.data.toList.all Lx.inner = false := by
  have hlen : k < s.data.toList.length := by simpa using hk
  rw [List.all_eq_false]
  exact ⟨_, List.getElem_mem hlen, by rw [list_get _ _ hk, hn]; simp⟩

theorem isName_eq (s : ByteArray) (h : 0 < s.size) : Lx.isName s.data.toList = (decide (s.size ≤ 16) && Lx.letter s[0] && s.data.toList.all Lx.inner && !Lx.isWord s.data.toList) := by
  have hl : 0 < s.data.toList.length := by simpa using h
  have e : s.data.toList = s[0] :: s.data.toList.drop 1 := by
    have := Lx.drop_cons hl
    rw [List.drop_zero] at this
    exact this
  unfold Lx.isName
  rw [← list_len]
  split
  · rename_i h'; rw [h'] at hl; simp at hl
  · rename_i c l h'
    have : c = s[0] := by rw [h'] at e; exact (List.cons.inj e).1
    rw [this]

theorem name_any (s : ByteArray) (w : World) (hs : s.size ≤ 140737488355328) : Calls Tryz.prog 95 #[.string s] w fun e w' => e = .returned (.bool (Lx.isName s.data.toList)) ∧ Below w.heap.size w w' := by
  have hsl : s.toList = s.data.toList := ByteArray.toList_eq s
  by_cases h0 : s.size = 0
  · have e : s.data.toList = [] := List.eq_nil_of_length_eq_zero (by simpa using h0)
    have hn := hid (show Lx.isName s.data.toList = false by rw [e]; rfl)
    have e' : s.data.toList.isEmpty = true := by rw [e]; rfl
    clear e
    go_enter Tryz.func95, Tryz.ntmps95
    go_wp2_with fail
    go_ret
    exact ⟨ret_bool hn.out.symm, Below.refl _ _⟩
  · have hpos : 0 < s.size := by omega
    have he : s.data.toList.isEmpty = false := by
      cases h : s.data.toList with
      | nil => have := list_len s; rw [h] at this; simp at this; omega
      | cons c l => rfl
    have hn := hid (isName_eq s hpos)
    clear h0
    by_cases h16 : 16 < s.size
    · go_enter Tryz.func95, Tryz.ntmps95
      go_wp2_with fail
      go_ret
      exact ⟨ret_bool (by rw [hn.out, decide_eq_false (by omega)]; rfl), Below.refl _ _⟩
    · by_cases hc : Lx.letter s[0] = true
      · go_enter Tryz.func95, Tryz.ntmps95
        go_wp2_with fail
        refine (letter_any _ _).mono ?_
        rintro e w1 ⟨rfl, rfl⟩
        go_wp2_with fail
        refine (word_any _ _).mono ?_
        rintro e w1 ⟨rfl, hb1⟩
        by_cases hw : Lx.isWord s.data.toList = true
        · go_wp2_with fail
          go_ret
          exact ⟨ret_bool (by rw [hn.out, hw]; simp), hb1⟩
        · have hw' : Lx.isWord s.data.toList = false := by simpa using hw
          clear hw
          go_wp2_with fail
          go_loop [23] (fun i => ∃ k : Nat, k ≤ s.size ∧ i = .int .i64 k ∧ (s.data.toList.take k).all Lx.inner = true) (fun i => s.size - (intOf i).toNat)
          case atStart => exact ⟨0, Nat.zero_le _, rfl, rfl⟩
          case round =>
            obtain ⟨k, hk, rfl, hall⟩ := hrel
            have hall' := hid hall
            clear hall
            by_cases hlt : k < s.size
            · go_wp2_with fail
              refine (inner_any _ _).mono ?_
              rintro e w2 ⟨rfl, rfl⟩
              by_cases hi : Lx.inner s[k] = true
              · go_wp2_with fail
                go_round
                case rel => exact ⟨k + 1, by omega, by go_num, name_go hlt hall'.out hi⟩
                case measure => simp [intOf]; omega
              · have hi' : Lx.inner s[k] = false := by simpa using hi
                clear hi
                go_wp2_with fail
                go_ret
                exact ⟨ret_bool (by rw [hn.out, name_no hlt hi']; simp), hb1⟩
            · obtain rfl : k = s.size := by omega
              have hf := hid (show s.data.toList.all Lx.inner = true by have := hall'.out; rwa [List.take_of_length_le (by simp)] at this)
              go_wp2_with fail
              go_ret
              exact ⟨ret_bool (by rw [hn.out, hf.out, hc, hw', decide_eq_true (by omega)]; rfl), hb1⟩
      · have hc' : Lx.letter s[0] = false := by simpa using hc
        clear hc
        go_enter Tryz.func95, Tryz.ntmps95
        go_wp2_with fail
        refine (letter_any _ _).mono ?_
        rintro e w1 ⟨rfl, rfl⟩
        go_wp2_with fail
        go_ret
        exact ⟨ret_bool (by rw [hn.out, hc']; simp), Below.refl _ _⟩

theorem head_eq (s : ByteArray) (h : 0 < s.size) : s.data.toList.head? = some s[0] := by
  have hl : 0 < s.data.toList.length := by simpa using h
  have := Lx.drop_cons hl
  rw [List.drop_zero] at this
  rw [this]; rfl

theorem number_go {s : ByteArray} {k : Nat} (hk : k < s.size) (hd : 48 ≤ s[k].toNat) :
    min 65536 (10 * min 65536 (Lx.numAcc 0 (s.data.toList.take k)) + (s[k].toNat - 48)) = min 65536 (Lx.numAcc 0 (s.data.toList.take (k + 1))) := by
  rw [Lx.numAcc_succ (by simpa using hk), list_get _ _ hk]
  omega

theorem number_any (s : ByteArray) (w : World) (hd : ∀ (k : Nat) (hk : k < s.size), Lx.digit s[k] = true) (hs : s.size ≤ 140737488355328) :
    Calls Tryz.prog 113 #[.string s] w fun e w' => e = .returned (.tuple #[.int .i64 (Lx.numRet s.data.toList), .bool (Lx.number s.data.toList).isSome]) ∧ w = w' := by
  have hd' := hid hd
  clear hd
  by_cases hz : 1 < s.data.toList.length ∧ s.data.toList.head? = some 48
  · have h1 : 1 < s.size := by simpa using hz.1
    have h48 : ((s[0].toNat : Int) == 48) = true := by have := hz.2; rw [head_eq s (by omega)] at this; rw [← u8_eq 48 48 rfl]; simpa using this
    have e1 := hid (show Lx.numRet s.data.toList = 0 by unfold Lx.numRet; rw [if_pos hz])
    have e2 := hid (show (Lx.number s.data.toList).isSome = false by unfold Lx.number; rw [if_pos (Or.inl hz)]; rfl)
    clear hz
    go_enter Tryz.func113, Tryz.ntmps113
    go_wp2_with fail
    go_ret2
    rw [e1.out, e2.out]
    exact ⟨rfl, rfl⟩
  · have e1 := hid (show Lx.numRet s.data.toList = min 65536 (Lx.numAcc 0 s.data.toList) by unfold Lx.numRet; rw [if_neg hz])
    have e2 := hid (Lx.number_ok hz)
    have hh : decide ((1 : Int) < s.size) = false ∨ ∃ h : 1 < s.size, ((s[0].toNat : Int) == 48) = false := by
      by_cases h1 : 1 < s.size
      · refine Or.inr ⟨h1, ?_⟩
        rw [← u8_eq 48 48 rfl]
        have : ¬ s[0] = 48 := fun e => hz ⟨by simpa using h1, by rw [head_eq s (by omega), e]⟩
        simpa using this
      · exact Or.inl (decide_eq_false (by omega))
    clear hz
    rcases hh with h1 | ⟨h1, h48⟩
    all_goals
      go_enter Tryz.func113, Tryz.ntmps113
      go_wp2_with fail
      go_loop [4, 16] (fun n i => ∃ k : Nat, k ≤ s.size ∧ i = .int .i64 k ∧ n = .int .i64 ((min 65536 (Lx.numAcc 0 (s.data.toList.take k)) : Nat) : Int)) (fun _ i => s.size - (intOf i).toNat)
      case atStart => exact ⟨0, Nat.zero_le _, rfl, rfl⟩
      case round =>
        obtain ⟨k, hk, rfl, rfl⟩ := hrel
        by_cases hlt : k < s.size
        · have hdk := hd'.out k hlt
          rw [digit_eq] at hdk
          simp only [Bool.and_eq_true, decide_eq_true_eq] at hdk
          obtain ⟨hd1, hd2⟩ := hdk
          have hgo := hid (number_go hlt (by omega))
          have hm := Nat.min_le_left 65536 (Lx.numAcc 0 (s.data.toList.take k))
          generalize hmm : min 65536 (Lx.numAcc 0 (s.data.toList.take k)) = m at *
          clear hmm
          go_wp2_with fail
          go_round
          case rel => exact ⟨k + 1, by omega, by go_num, by rw [← hgo.out]; congr 1; first | (split <;> omega) | omega⟩
          case measure => simp [intOf]; omega
        · obtain rfl : k = s.size := by omega
          have hf := hid (show s.data.toList.take s.size = s.data.toList from List.take_of_length_le (by simp))
          go_wp2_with fail
          go_ret2
          rw [e1.out, e2.out, hf.out]
          exact ⟨ret_eq (by simp; omega), rfl⟩

end Go.Proofs.YteddkgpnklfppaaGreatDoor

namespace Go.Proofs.YteddkgpnklfppaaGreatDoor
open Go.RowKit Go.Sort

/-- a token's value -/
def tokV (k : Nat) (t : ByteArray) (n l c : Nat) : Value := .agg #[.int .i64 k, .string t, .int .i64 n, .int .i64 l, .int .i64 c]

theorem extract_list (s : ByteArray) (i j : Nat) : (s.extract i j).data.toList = (s.data.toList.drop i).take (j - i) := by
  rw [ByteArray.data_extract, Array.toList_extract]
theorem extract_size' (s : ByteArray) (i n : Nat) (h : i + n ≤ s.size) : (s.extract i (i + n)).size = n := by
  rw [ByteArray.size_extract]; omega
theorem take_runN (p : UInt8 → Bool) (l : Lx.Bytes) : l.take (Lx.runN p l) = l.takeWhile p := by
  have h := List.takeWhile_append_dropWhile (p := p) (l := l)
  have h2 := congrArg (List.take (Lx.runN p l)) h
  unfold Lx.runN at *
  rw [List.take_left] at h2
  exact h2.symm
theorem extract_run (s : ByteArray) (i : Nat) (p : UInt8 → Bool) : (s.extract i (i + Lx.runN p (s.data.toList.drop i))).data.toList = (s.data.toList.drop i).takeWhile p := by
  rw [extract_list, Nat.add_sub_cancel_left, take_runN]

/-- what 'name' gives back -/
def nameRes (s : ByteArray) (i : Nat) : Value :=
  .tuple #[tokV (if Lx.isWord ((s.data.toList.drop i).takeWhile Lx.inner) then 2 else 1) (s.extract i (i + Lx.runN Lx.inner (s.data.toList.drop i))) 0 0 0,
    .int .i64 (if 16 < Lx.runN Lx.inner (s.data.toList.drop i) then 2 else 0)]

set_option maxHeartbeats 1000000 in
theorem lexname_any {b : Nat} {s : ByteArray} {i : Nat} {w : World} (hr : RdP w b s i) (hi : i < s.size) (hs : s.size ≤ 140737488355328) :
    Calls Tryz.prog 84 #[.pointer (some ⟨b, 0, none⟩)] w fun e w' =>
      e = .returned (nameRes s i) ∧ RdP w' b s (i + Lx.runN Lx.inner (s.data.toList.drop i)) ∧ Touch b w w' := by
  have hle := Lx.runN_le Lx.inner (s.data.toList.drop i)
  rw [List.length_drop, list_len] at hle
  have hx := hid (extract_run s i Lx.inner)
  have hxs := extract_size' s i (Lx.runN Lx.inner (s.data.toList.drop i)) (by omega)
  have hr' := hid hr
  have hlb := RdP.lt hr
  clear hr
  go_enter Tryz.func84, Tryz.ntmps84
  go_wp2_with fail
  have B0 := hid (Blk.new w #[.int .i64 0, .string ⟨#[]⟩, .int .i64 0, .int .i64 0, .int .i64 0] 124)
  refine (while_any _ holds_inner (RdP.ext hr'.out (balloc _ _)) (by omega) hs).mono ?_
  rintro e w1 ⟨rfl, hr1, ht1⟩
  have hres0 := hid (show nameRes s i = .tuple #[tokV (if Lx.isWord ((s.data.toList.drop i).takeWhile Lx.inner) then 2 else 1) (s.extract i (i + Lx.runN Lx.inner (s.data.toList.drop i))) 0 0 0, .int .i64 (if 16 < Lx.runN Lx.inner (s.data.toList.drop i) then 2 else 0)] from rfl)
  rw [← hx.out] at hres0
  generalize hn : Lx.runN Lx.inner (s.data.toList.drop i) = n at *
  generalize htx : s.extract i (i + n) = tx at *
  have hr1' := hid hr1
  have hn' := hid hn
  have B1 := hid (B0.out.touch ht1 (by omega))
  clear hr1 hn htx
  go_wp2_with fail
  have hz1 := ht1.size
  simp only [World.size_alloc] at hz1
  have T1 := hid (Blk.new w1 #[.int .i64 1, .string tx, .int .i64 0, .int .i64 0, .int .i64 0] 124)
  refine (word_any _ _).mono ?_
  rintro e w2 ⟨rfl, hb2⟩
  have hr2' := hid (RdP.ext (RdP.ext hr1'.out (balloc w1 _)) hb2)
  have T2 := hid (T1.out.ext hb2)
  have B2 := hid ((B1.out.alloc _).ext hb2)
  have Q2 := hid ((((Touch.refl b w).alloc _).trans ht1).alloc _ |>.below hb2)
  have hbb : b < w1.heap.size := RdP.lt hr1'.out
  obtain ⟨c0, c1, c2, c3, c4, cf, cz⟩ := T2.out.five
  obtain ⟨d0, d1, d2, d3, d4, df, dz⟩ := B2.out.five
  have hne1 : b ≠ w1.heap.size := by omega
  have hne2 : b ≠ w.heap.size := by omega
  have hn1 : w.heap.size ≤ w1.heap.size := by omega
  have hn2 := Nat.le_refl w.heap.size
  by_cases hisw : Lx.isWord tx.data.toList = true
  · by_cases h16 : 16 < n
    · have hres := hid (show nameRes s i = .tuple #[tokV 2 tx 0 0 0, .int .i64 2] by rw [hres0.out, hisw, if_pos h16]; rfl)
      clear hres0
      go_wp2_with fail
      rw [hn'.out, hres.out]
      exact bodyPost_ret (v := .tuple #[tokV 2 tx 0 0 0, .int .i64 2]) (by simp [results, Tryz.results84, go_sem, tokV, d0, d1, d2, d3, d4]) rfl ⟨rfl, (by unfold RdP Rd; simp only [Blk.setOther_iff hne1, Blk.setOther_iff hne2]; exact hr2'.out), (by simp only [Touch.setNew_iff hn1, Touch.setNew_iff hn2]; exact Q2.out)⟩
    · have hres := hid (show nameRes s i = .tuple #[tokV 2 tx 0 0 0, .int .i64 0] by rw [hres0.out, hisw, if_neg h16]; rfl)
      clear hres0
      go_wp2_with fail
      rw [hn'.out, hres.out]
      exact bodyPost_ret (v := .tuple #[tokV 2 tx 0 0 0, .int .i64 0]) (by simp [results, Tryz.results84, go_sem, tokV, d0, d1, d2, d3, d4]) rfl ⟨rfl, (by unfold RdP Rd; simp only [Blk.setOther_iff hne1, Blk.setOther_iff hne2]; exact hr2'.out), (by simp only [Touch.setNew_iff hn1, Touch.setNew_iff hn2]; exact Q2.out)⟩
  · have hisw' : Lx.isWord tx.data.toList = false := by simpa using hisw
    clear hisw
    by_cases h16 : 16 < n
    · have hres := hid (show nameRes s i = .tuple #[tokV 1 tx 0 0 0, .int .i64 2] by rw [hres0.out, hisw', if_pos h16]; rfl)
      clear hres0
      go_wp2_with fail
      rw [hn'.out, hres.out]
      exact bodyPost_ret (v := .tuple #[tokV 1 tx 0 0 0, .int .i64 2]) (by simp [results, Tryz.results84, go_sem, tokV, d0, d1, d2, d3, d4]) rfl ⟨rfl, (by unfold RdP Rd; simp only [Blk.setOther_iff hne2]; exact hr2'.out), (by simp only [Touch.setNew_iff hn2]; exact Q2.out)⟩
    · have hres := hid (show nameRes s i = .tuple #[tokV 1 tx 0 0 0, .int .i64 0] by rw [hres0.out, hisw', if_neg h16]; rfl)
      clear hres0
      go_wp2_with fail
      rw [hn'.out, hres.out]
      exact bodyPost_ret (v := .tuple #[tokV 1 tx 0 0 0, .int .i64 0]) (by simp [results, Tryz.results84, go_sem, tokV, d0, d1, d2, d3, d4]) rfl ⟨rfl, (by unfold RdP Rd; simp only [Blk.setOther_iff hne2]; exact hr2'.out), (by simp only [Touch.setNew_iff hn2]; exact Q2.out)⟩

end Go.Proofs.YteddkgpnklfppaaGreatDoor

namespace Go.Proofs.YteddkgpnklfppaaGreatDoor
open Go.RowKit Go.Sort

/-- what 'digits' gives back -/
def digitsRes (s : ByteArray) (i : Nat) : Value :=
  .tuple #[tokV 3 (s.extract i (i + Lx.runN Lx.digit (s.data.toList.drop i))) (if (Lx.number ((s.data.toList.drop i).takeWhile Lx.digit)).isSome then Lx.numRet ((s.data.toList.drop i).takeWhile Lx.digit) else 0) 0 0,
    .int .i64 (if (Lx.number ((s.data.toList.drop i).takeWhile Lx.digit)).isSome then 0 else 10)]

theorem digits_all {s : ByteArray} {l : Lx.Bytes} (h : s.data.toList = l.takeWhile Lx.digit) : ∀ (k : Nat) (hk : k < s.size), Lx.digit s[k] = true := by
  intro k hk
  have hm : s[k] ∈ l.takeWhile Lx.digit := by rw [← h, ← list_get s k hk]; exact List.getElem_mem _
  have : ∀ (l : Lx.Bytes) (x : UInt8), x ∈ l.takeWhile Lx.digit → Lx.digit x = true := by
    intro l
    induction l with
    | nil => intro x hx; simp at hx
    | cons c l ih =>
      intro x hx
      by_cases hc : Lx.digit c = true
      · rw [List.takeWhile_cons_of_pos hc] at hx
        rcases List.mem_cons.1 hx with rfl | hx
        · exact hc
        · exact ih x hx
      · rw [List.takeWhile_cons_of_neg hc] at hx; simp at hx
  exact this l _ hm

set_option maxHeartbeats 1000000 in
theorem lexdigits_any {b : Nat} {s : ByteArray} {i : Nat} {w : World} (hr : RdP w b s i) (hi : i < s.size) (hs : s.size ≤ 140737488355328) :
    Calls Tryz.prog 86 #[.pointer (some ⟨b, 0, none⟩)] w fun e w' =>
      e = .returned (digitsRes s i) ∧ RdP w' b s (i + Lx.runN Lx.digit (s.data.toList.drop i)) ∧ Touch b w w' := by
  have hle := Lx.runN_le Lx.digit (s.data.toList.drop i)
  rw [List.length_drop, list_len] at hle
  have hx := hid (extract_run s i Lx.digit)
  have hxs := extract_size' s i (Lx.runN Lx.digit (s.data.toList.drop i)) (by omega)
  have hr' := hid hr
  have hlb := RdP.lt hr
  clear hr
  go_enter Tryz.func86, Tryz.ntmps86
  go_wp2_with fail
  have B0 := hid (Blk.new w #[.int .i64 0, .string ⟨#[]⟩, .int .i64 0, .int .i64 0, .int .i64 0] 124)
  refine (while_any _ holds_digit (RdP.ext hr'.out (balloc _ _)) (by omega) hs).mono ?_
  rintro e w1 ⟨rfl, hr1, ht1⟩
  have hres0 := hid (show digitsRes s i = .tuple #[tokV 3 (s.extract i (i + Lx.runN Lx.digit (s.data.toList.drop i))) (if (Lx.number ((s.data.toList.drop i).takeWhile Lx.digit)).isSome then Lx.numRet ((s.data.toList.drop i).takeWhile Lx.digit) else 0) 0 0,
    .int .i64 (if (Lx.number ((s.data.toList.drop i).takeWhile Lx.digit)).isSome then 0 else 10)] from rfl)
  rw [← hx.out] at hres0
  generalize hn : Lx.runN Lx.digit (s.data.toList.drop i) = n at *
  generalize htx : s.extract i (i + n) = tx at *
  have hr1' := hid hr1
  have hn' := hid hn
  have B1 := hid (B0.out.touch ht1 (by omega))
  have hda := hid (digits_all hx.out)
  clear hr1 hn htx
  go_wp2_with fail
  have hz1 := ht1.size
  simp only [World.size_alloc] at hz1
  refine (number_any _ _ hda.out (by omega)).mono ?_
  rintro e w2 ⟨rfl, rfl⟩
  have Q1 := hid (((Touch.refl b w).alloc _).trans ht1)
  have hbb : b < w1.heap.size := RdP.lt hr1'.out
  obtain ⟨d0, d1, d2, d3, d4, df, dz⟩ := B1.out.five
  have hne1 : b ≠ w1.heap.size := by omega
  have hne2 : b ≠ w.heap.size := by omega
  have hn1 : w.heap.size ≤ w1.heap.size := by omega
  have hn2 := Nat.le_refl w.heap.size
  cases hok : (Lx.number tx.data.toList).isSome with
  | true =>
    have hres := hid (show digitsRes s i = .tuple #[tokV 3 tx (Lx.numRet tx.data.toList) 0 0, .int .i64 0] by rw [hres0.out, hok]; rfl)
    clear hres0
    go_wp2_with fail
    rw [hn'.out, hres.out]
    exact bodyPost_ret (v := .tuple #[tokV 3 tx (Lx.numRet tx.data.toList) 0 0, .int .i64 0]) (by simp [results, Tryz.results86, go_sem, tokV, d0, d1, d2, d3, d4, dz]) rfl ⟨rfl, Blk.alloc (by simp only [Blk.setOther_iff hne2]; exact hr1'.out) _, Touch.alloc (by simp only [Touch.setNew_iff hn2]; exact Q1.out) _⟩
  | false =>
    have hres := hid (show digitsRes s i = .tuple #[tokV 3 tx 0 0 0, .int .i64 10] by rw [hres0.out, hok]; rfl)
    clear hres0
    go_wp2_with fail
    rw [hn'.out, hres.out]
    exact bodyPost_ret (v := .tuple #[tokV 3 tx 0 0 0, .int .i64 10]) (by simp [results, Tryz.results86, go_sem, tokV, d0, d1, d2, d3, d4, dz]) rfl ⟨rfl, Blk.alloc (by simp only [Blk.setOther_iff hne2]; exact hr1'.out) _, Touch.alloc (by simp only [Touch.setNew_iff hn2]; exact Q1.out) _⟩

end Go.Proofs.YteddkgpnklfppaaGreatDoor

namespace Go.Proofs.YteddkgpnklfppaaGreatDoor
open Go.RowKit Go.Sort

def badRes : Value := .tuple #[tokV 0 ⟨#[]⟩ 0 0 0, .int .i64 30]
def markRes (t : ByteArray) : Value := .tuple #[tokV 4 t 0 0 0, .int .i64 0]

set_option maxHeartbeats 4000000 in
theorem mark_one {b : Nat} {s : ByteArray} {i : Nat} {w : World} (hr : RdP w b s i) (hi : i < s.size) (hs : s.size ≤ 140737488355328)
    (hc : ((s[i].toNat : Int) == 61) = true ∨ (((s[i].toNat : Int) == 61) = false ∧ ((s[i].toNat : Int) == 43) = true) ∨ (((s[i].toNat : Int) == 61) = false ∧ ((s[i].toNat : Int) == 43) = false ∧ ((s[i].toNat : Int) == 59) = true)) :
    Calls Tryz.prog 82 #[.pointer (some ⟨b, 0, none⟩)] w fun e w' =>
      e = .returned (markRes (s.extract i (i + 1))) ∧ RdP w' b s (i + 1) ∧ Touch b w w' := by
  have hr' := hid hr
  have hlb := RdP.lt hr
  obtain ⟨hz, h0, h1, h2, h3, f1, f2, f3⟩ := Rd.f hr
  clear hr h2 h3 f1 f2 f3
  have nn : w.heap.size ≠ b := Nat.ne_of_gt hlb
  rcases hc with hc1 | ⟨hc1, hc2⟩ | ⟨hc1, hc2, hc3⟩
  all_goals
    go_enter Tryz.func82, Tryz.ntmps82
    go_wp2_with fail
    go_quiet (fail)
    go_wp2_with fail
    have q1 : IntKind.i64.wrap ((i : Int) + 1) = (i : Int) + 1 := IntWalk.i64_in _ (by omega)
    have q2 : (0 : Int) ≤ (i : Int) + 1 := by omega
    have q3 : ((i : Int) + 1).toNat = i + 1 := by omega
    have q4 : (i : Int) ≤ (i : Int) + 1 := by omega
    have q5 : (i : Int) + 1 ≤ (s.size : Int) := by omega
    have q6 : i + 1 ≤ s.size := by omega
    go_region_held3 (fun w' => w'.cell? ⟨b, 0, none⟩ = some (.string s) ∧ w'.cell? ⟨b, 1, none⟩ = some (.int .i64 i)) (go_keep) (first | fail)
    clear q1 q2 q3 q4 q5
    go_wp2_with fail
    go_loopw [64] (fun u wr => ∃ k : Nat, k ≤ 1 ∧ u = .int .i64 k ∧ RdP wr b s (i + k) ∧ Touch b w wr ∧ Blk wr w.heap.size #[.int .i64 0, .string ⟨#[]⟩, .int .i64 0, .int .i64 0, .int .i64 0] 124 ∧
      Blk wr (w.heap.size + 1) #[.int .i64 4, .string (s.extract i (i + 1)), .int .i64 0, .int .i64 0, .int .i64 0] 124) (fun u _ => 1 - (intOf u).toNat)
    case atStart =>
      refine ⟨0, Nat.zero_le _, rfl, ?_, ?_, ?_, ?_⟩
      · exact ((hr'.out.alloc _).drewN _).alloc _
      · exact (((Touch.refl b w).alloc _).drewN _).alloc _
      · exact ((Blk.new w _ _).drewN _).alloc _
      · exact Blk.newAt (by simp) _ _
    case round =>
      obtain ⟨k, hk, rfl, hrk, htk, hB, hT⟩ := hrel
      have hrk' := hid hrk
      have htk' := hid htk
      have hB' := hid hB
      have hT' := hid hT
      clear hrk htk hB hT
      by_cases hlt : k < 1
      · go_wp2_with fail
        refine (step_any hrk'.out (by omega) hs).mono ?_
        rintro e w2 ⟨rfl, hr2, ht2⟩
        have hr2' := hid hr2
        clear hr2
        go_wp2_with fail
        go_roundw
        case rel => exact ⟨k + 1, by omega, by go_num, hr2'.out, htk'.out.trans ht2, hB'.out.touch ht2 (by omega), hT'.out.touch ht2 (by omega)⟩
        case measure => simp [intOf]; omega
      · obtain rfl : k = 1 := by omega
        obtain ⟨c0, c1, c2, c3, c4, cf, cz⟩ := hT'.out.five
        obtain ⟨d0, d1, d2, d3, d4, df, dz⟩ := hB'.out.five
        have hne2 : b ≠ w.heap.size := by omega
        have hn2 := Nat.le_refl w.heap.size
        go_wp2_with fail
        exact bodyPost_ret (v := markRes (s.extract i (i + 1))) (by simp [results, Tryz.results82, go_sem, markRes, tokV, d0, d1, d2, d3, d4]) rfl ⟨rfl, (by unfold RdP Rd; simp only [Blk.setOther_iff hne2]; exact hrk'.out), (by simp only [Touch.setNew_iff hn2]; exact htk'.out)⟩

set_option maxHeartbeats 4000000 in
theorem mark_two {b : Nat} {s : ByteArray} {i : Nat} {w : World} (hr : RdP w b s i) (hi : i + 1 < s.size) (hs : s.size ≤ 140737488355328)
    (hc1 : ((s[i].toNat : Int) == 61) = false) (hc2 : ((s[i].toNat : Int) == 43) = false) (hc3 : ((s[i].toNat : Int) == 59) = false) (hc4 : ((s[i].toNat : Int) == 46) = true) (hc5 : ((s[i + 1].toNat : Int) != 46) = false) :
    Calls Tryz.prog 82 #[.pointer (some ⟨b, 0, none⟩)] w fun e w' =>
      e = .returned (markRes (s.extract i (i + 2))) ∧ RdP w' b s (i + 2) ∧ Touch b w w' := by
  have hr' := hid hr
  have hlb := RdP.lt hr
  obtain ⟨hz, h0, h1, h2, h3, f1, f2, f3⟩ := Rd.f hr
  clear hr h2 h3 f1 f2 f3
  have nn : w.heap.size ≠ b := Nat.ne_of_gt hlb
  have hd : ((i : Int) + 1 == s.size) = false := by rw [beq_eq_false_iff_ne]; omega
  have hi0 : i < s.size := by omega
  go_enter Tryz.func82, Tryz.ntmps82
  go_wp2_with fail
  go_quiet (fail)
  go_wp2_with fail
  have p1 : IntKind.i64.wrap ((i : Int) + 1) = (i : Int) + 1 := IntWalk.i64_in _ (by omega)
  have p2 : (0 : Int) ≤ (i : Int) + 1 := by omega
  have p3 : ((i : Int) + 1).toNat = i + 1 := by omega
  have p4 : (i : Int) + 1 < (s.size : Int) := by omega
  go_quiet (fail)
  (try clear p1); (try clear p3); (try clear p2)
  go_wp2_with fail
  have q1 : IntKind.i64.wrap ((i : Int) + 2) = (i : Int) + 2 := IntWalk.i64_in _ (by omega)
  have q2 : (0 : Int) ≤ (i : Int) + 2 := by omega
  have q3 : ((i : Int) + 2).toNat = i + 2 := by omega
  have q4 : (i : Int) ≤ (i : Int) + 2 := by omega
  have q5 : (i : Int) + 2 ≤ (s.size : Int) := by omega
  have q6 : i + 2 ≤ s.size := by omega
  go_region_held3 (fun w' => w'.cell? ⟨b, 0, none⟩ = some (.string s) ∧ w'.cell? ⟨b, 1, none⟩ = some (.int .i64 i)) (go_keep) (first | fail)
  clear q1 q2 q3 q4 q5
  go_wp2_with fail
  go_loopw [64] (fun u wr => ∃ k : Nat, k ≤ 2 ∧ u = .int .i64 k ∧ RdP wr b s (i + k) ∧ Touch b w wr ∧ Blk wr w.heap.size #[.int .i64 0, .string ⟨#[]⟩, .int .i64 0, .int .i64 0, .int .i64 0] 124 ∧
    Blk wr (w.heap.size + 1) #[.int .i64 4, .string (s.extract i (i + 2)), .int .i64 0, .int .i64 0, .int .i64 0] 124) (fun u _ => 2 - (intOf u).toNat)
  case atStart =>
    refine ⟨0, Nat.zero_le _, rfl, ?_, ?_, ?_, ?_⟩
    · exact ((hr'.out.alloc _).drewN _).alloc _
    · exact (((Touch.refl b w).alloc _).drewN _).alloc _
    · exact ((Blk.new w _ _).drewN _).alloc _
    · exact Blk.newAt (by simp) _ _
  case round =>
    obtain ⟨k, hk, rfl, hrk, htk, hB, hT⟩ := hrel
    have hrk' := hid hrk
    have htk' := hid htk
    have hB' := hid hB
    have hT' := hid hT
    clear hrk htk hB hT
    by_cases hlt : k < 2
    · go_wp2_with fail
      refine (step_any hrk'.out (by omega) hs).mono ?_
      rintro e w2 ⟨rfl, hr2, ht2⟩
      have hr2' := hid hr2
      clear hr2
      go_wp2_with fail
      go_roundw
      case rel => exact ⟨k + 1, by omega, by go_num, hr2'.out, htk'.out.trans ht2, hB'.out.touch ht2 (by omega), hT'.out.touch ht2 (by omega)⟩
      case measure => simp [intOf]; omega
    · obtain rfl : k = 2 := by omega
      obtain ⟨c0, c1, c2, c3, c4, cf, cz⟩ := hT'.out.five
      obtain ⟨d0, d1, d2, d3, d4, df, dz⟩ := hB'.out.five
      have hne2 : b ≠ w.heap.size := by omega
      have hn2 := Nat.le_refl w.heap.size
      go_wp2_with fail
      exact bodyPost_ret (v := markRes (s.extract i (i + 2))) (by simp [results, Tryz.results82, go_sem, markRes, tokV, d0, d1, d2, d3, d4]) rfl ⟨rfl, (by unfold RdP Rd; simp only [Blk.setOther_iff hne2]; exact hrk'.out), (by simp only [Touch.setNew_iff hn2]; exact htk'.out)⟩

end Go.Proofs.YteddkgpnklfppaaGreatDoor
