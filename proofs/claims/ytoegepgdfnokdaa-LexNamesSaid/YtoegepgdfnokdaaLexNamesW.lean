/- The law LexNames, walked. -/
import Derived.Test.YtoegepgdfnokdaaLexBackW
namespace Go.Proofs.Ytoegepgdfnokdaa
open Go.RowKit Go.Sort

theorem tokRow_ext' {w w' : World} {g off cap : Nat} {ts : List Lx.Tok} (h : TokRow w g off cap ts) (hb : Below w.heap.size w w') : TokRow w' g off cap ts :=
  ⟨h.cap, Nat.lt_of_lt_of_le h.lt hb.size, fun i hi f u hu => by rw [hb.cell (by exact h.lt)]; exact h.cell i hi f u hu⟩

set_option maxHeartbeats 4000000 in
theorem lexNames_walk (s : ByteArray) (w : World) (hs : s.size ≤ 140737488355328) :
    Calls Try.prog 7 #[.string s] w fun e w' => e = .returned (.bool true) ∧ Below w.heap.size w w' := by
  cases hk : Lx.tokens s.data.toList with
  | error x =>
    obtain ⟨er, l, c⟩ := x
    have hns := Lx.not_single (L := s.data.toList) (fun t h => by rw [hk] at h; cases h)
    have hnm := hid hns.1
    have hwd := hid hns.2
    have htk := fun w => tokens_err2 (w := w) hs hk
    clear hk hns
    go_enter Try.func7, Try.ntmps7
    go_wp2_with fail
    refine (word_any s _).mono ?_
    rintro e wa ⟨rfl, hba⟩
    rw [hwd.out]
    go_wp2_with fail
    refine (rword_any s _).mono ?_
    rintro e wb ⟨rfl, hbb⟩
    rw [hwd.out]
    have Qb := hid (bthen hba hbb)
    go_wp2_with fail
    refine (name_any s _ hs).mono ?_
    rintro e wc ⟨rfl, hbc⟩
    rw [hnm.out]
    have Qc := hid (bthen Qb.out hbc)
    go_wp2_with fail
    refine (rname_any s _ hs).mono ?_
    rintro e wd ⟨rfl, hbd⟩
    rw [hnm.out]
    have Qd := hid (bthen Qc.out hbd)
    go_wp2_with fail
    refine (htk _).mono ?_
    rintro e w1 ⟨v, e0, l0, c0, pa, cp, rfl, rfl, hr, ⟨hne, heq, _⟩, hb1⟩
    have B1 := hid (Blk.new w1 #[.int .i64 e0, .int .i64 l0, .int .i64 c0] 27)
    have Q1 := hid (bthen (bthen Qd.out hb1) (balloc w1 (.cells #[.int .i64 e0, .int .i64 l0, .int .i64 c0] 27)))
    clear hr
    obtain ⟨b0, b1, b2, bf, bz⟩ := B1.out.three
    go_wp2_with fail
    refine (name_any s _ hs).mono ?_
    rintro e we ⟨rfl, hbe⟩
    rw [hnm.out]
    have Qe := hid (bthen Q1.out hbe)
    have Be := hid (B1.out.ext hbe)
    go_wp2_with fail
    refine (word_any s _).mono ?_
    rintro e wf ⟨rfl, hbf⟩
    rw [hwd.out]
    have Qf := hid (bthen Qe.out hbf)
    go_wp2_with fail
    refine (known_any _).mono ?_
    rintro e w6 ⟨rfl, hb6⟩
    go_wp2_with fail
    go_ret
    exact ⟨rfl, bthen Qf.out hb6⟩
  | ok ts =>
    have htk := fun w => tokens_ok (w := w) hs hk
    by_cases h1 : ts.length = 1
    · obtain ⟨t, rfl⟩ := List.length_eq_one_iff.1 h1
      clear h1
      by_cases ht : t.text = s.data.toList
      · have hts := Lx.tokens_single hk ht
        have hx : (ByteArray.mk t.text.toArray) = s := bytes_eq (by rw [← ht])
        by_cases hk1 : t.kind = 1
        · have hnm : Hid (Lx.isName s.data.toList = true) := hid (by rw [hts.1, hk1]; rfl)
          have hwd : Hid (Lx.isWord s.data.toList = false) := hid (by rw [hts.2, hk1]; rfl)
          have hkk : ((t.kind : Int) == 1) = true := by rw [hk1]; rfl
          have hkk2 : ((t.kind : Int) == 2) = false := by rw [hk1]; rfl
          clear hk hts ht hk1
          go_enter Try.func7, Try.ntmps7
          go_wp2_with fail
          refine (word_any s _).mono ?_
          rintro e wa ⟨rfl, hba⟩
          rw [hwd.out]
          go_wp2_with fail
          refine (rword_any s _).mono ?_
          rintro e wb ⟨rfl, hbb⟩
          rw [hwd.out]
          have Qb := hid (bthen hba hbb)
          go_wp2_with fail
          refine (name_any s _ hs).mono ?_
          rintro e wc ⟨rfl, hbc⟩
          rw [hnm.out]
          have Qc := hid (bthen Qb.out hbc)
          go_wp2_with fail
          refine (rname_any s _ hs).mono ?_
          rintro e wd ⟨rfl, hbd⟩
          rw [hnm.out]
          have Qd := hid (bthen Qc.out hbd)
          go_wp2_with fail
          refine (htk _).mono ?_
          rintro e w1 ⟨v, rfl, hr, hb1⟩
          have B1 := hid (Blk.new w1 #[.int .i64 0, .int .i64 0, .int .i64 0] 27)
          have hr1 := hid (hr.ext (balloc w1 (.cells #[.int .i64 0, .int .i64 0, .int .i64 0] 27)))
          have Q1 := hid (bthen (bthen Qd.out hb1) (balloc w1 (.cells #[.int .i64 0, .int .i64 0, .int .i64 0] 27)))
          clear hr
          obtain ⟨b0, b1, b2, bf, bz⟩ := B1.out.three
          rcases tokRow_of hr1.out with ⟨_, h⟩ | ⟨g, off, cap, rfl, hg⟩
          · cases h
          obtain ⟨c0, c1, c2, c3, c4⟩ := hg.at (i := 0) (by simp)
          have hgl := hg.lt
          simp only [List.getElem_cons_zero, Nat.zero_mul, Nat.add_zero] at c0 c1
          rw [hx] at c1
          have hg' := hid hg
          clear hg c2 c3 c4
          go_wp2_with fail
          refine (name_any s _ hs).mono ?_
          rintro e we ⟨rfl, hbe⟩
          rw [hnm.out]
          have Qe := hid (bthen Q1.out hbe)
          have Be := hid (B1.out.ext hbe)
          have hg2 := hid (tokRow_ext' hg'.out hbe)
          clear c0 c1 hgl
          obtain ⟨c0, c1, c2, c3, c4⟩ := hg2.out.at (i := 0) (by simp)
          have hgl := hg2.out.lt
          simp only [List.getElem_cons_zero, Nat.zero_mul, Nat.add_zero] at c0
          clear c1 c2 c3 c4
          go_wp2_with fail
          refine (word_any s _).mono ?_
          rintro e wf ⟨rfl, hbf⟩
          rw [hwd.out]
          have Qf := hid (bthen Qe.out hbf)
          have hg3 := hid (tokRow_ext' hg2.out hbf)
          clear c0 hgl
          obtain ⟨c0, c1, c2, c3, c4⟩ := hg3.out.at (i := 0) (by simp)
          have hgl := hg3.out.lt
          simp only [List.getElem_cons_zero, Nat.zero_mul, Nat.add_zero] at c0
          clear c1 c2 c3 c4
          go_wp2_with fail
          refine (known_any _).mono ?_
          rintro e w6 ⟨rfl, hb6⟩
          go_wp2_with fail
          go_ret
          exact ⟨rfl, bthen Qf.out hb6⟩
        · by_cases hk2 : t.kind = 2
          · have hnm : Hid (Lx.isName s.data.toList = false) := hid (by rw [hts.1, hk2]; rfl)
            have hwd : Hid (Lx.isWord s.data.toList = true) := hid (by rw [hts.2, hk2]; rfl)
            have hkk : ((t.kind : Int) == 1) = false := by rw [hk2]; rfl
            have hkk2 : ((t.kind : Int) == 2) = true := by rw [hk2]; rfl
            clear hk hts ht hk1 hk2
            go_enter Try.func7, Try.ntmps7
            go_wp2_with fail
            refine (word_any s _).mono ?_
            rintro e wa ⟨rfl, hba⟩
            rw [hwd.out]
            go_wp2_with fail
            refine (rword_any s _).mono ?_
            rintro e wb ⟨rfl, hbb⟩
            rw [hwd.out]
            have Qb := hid (bthen hba hbb)
            go_wp2_with fail
            refine (name_any s _ hs).mono ?_
            rintro e wc ⟨rfl, hbc⟩
            rw [hnm.out]
            have Qc := hid (bthen Qb.out hbc)
            go_wp2_with fail
            refine (rname_any s _ hs).mono ?_
            rintro e wd ⟨rfl, hbd⟩
            rw [hnm.out]
            have Qd := hid (bthen Qc.out hbd)
            go_wp2_with fail
            refine (htk _).mono ?_
            rintro e w1 ⟨v, rfl, hr, hb1⟩
            have B1 := hid (Blk.new w1 #[.int .i64 0, .int .i64 0, .int .i64 0] 27)
            have hr1 := hid (hr.ext (balloc w1 (.cells #[.int .i64 0, .int .i64 0, .int .i64 0] 27)))
            have Q1 := hid (bthen (bthen Qd.out hb1) (balloc w1 (.cells #[.int .i64 0, .int .i64 0, .int .i64 0] 27)))
            clear hr
            obtain ⟨b0, b1, b2, bf, bz⟩ := B1.out.three
            rcases tokRow_of hr1.out with ⟨_, h⟩ | ⟨g, off, cap, rfl, hg⟩
            · cases h
            obtain ⟨c0, c1, c2, c3, c4⟩ := hg.at (i := 0) (by simp)
            have hgl := hg.lt
            simp only [List.getElem_cons_zero, Nat.zero_mul, Nat.add_zero] at c0 c1
            rw [hx] at c1
            have hg' := hid hg
            clear hg c2 c3 c4
            go_wp2_with fail
            refine (name_any s _ hs).mono ?_
            rintro e we ⟨rfl, hbe⟩
            rw [hnm.out]
            have Qe := hid (bthen Q1.out hbe)
            have Be := hid (B1.out.ext hbe)
            have hg2 := hid (tokRow_ext' hg'.out hbe)
            clear c0 c1 hgl
            obtain ⟨c0, c1, c2, c3, c4⟩ := hg2.out.at (i := 0) (by simp)
            have hgl := hg2.out.lt
            simp only [List.getElem_cons_zero, Nat.zero_mul, Nat.add_zero] at c0
            clear c1 c2 c3 c4
            go_wp2_with fail
            refine (word_any s _).mono ?_
            rintro e wf ⟨rfl, hbf⟩
            rw [hwd.out]
            have Qf := hid (bthen Qe.out hbf)
            have hg3 := hid (tokRow_ext' hg2.out hbf)
            clear c0 hgl
            obtain ⟨c0, c1, c2, c3, c4⟩ := hg3.out.at (i := 0) (by simp)
            have hgl := hg3.out.lt
            simp only [List.getElem_cons_zero, Nat.zero_mul, Nat.add_zero] at c0
            clear c1 c2 c3 c4
            go_wp2_with fail
            refine (known_any _).mono ?_
            rintro e w6 ⟨rfl, hb6⟩
            go_wp2_with fail
            go_ret
            exact ⟨rfl, bthen Qf.out hb6⟩
          · have hnm : Hid (Lx.isName s.data.toList = false) := hid (by rw [hts.1]; exact decide_eq_false hk1)
            have hwd : Hid (Lx.isWord s.data.toList = false) := hid (by rw [hts.2]; exact decide_eq_false hk2)
            have hkk : ((t.kind : Int) == 1) = false := by rw [beq_eq_false_iff_ne]; omega
            have hkk2 : ((t.kind : Int) == 2) = false := by rw [beq_eq_false_iff_ne]; omega
            clear hk hts ht hk1 hk2
            go_enter Try.func7, Try.ntmps7
            go_wp2_with fail
            refine (word_any s _).mono ?_
            rintro e wa ⟨rfl, hba⟩
            rw [hwd.out]
            go_wp2_with fail
            refine (rword_any s _).mono ?_
            rintro e wb ⟨rfl, hbb⟩
            rw [hwd.out]
            have Qb := hid (bthen hba hbb)
            go_wp2_with fail
            refine (name_any s _ hs).mono ?_
            rintro e wc ⟨rfl, hbc⟩
            rw [hnm.out]
            have Qc := hid (bthen Qb.out hbc)
            go_wp2_with fail
            refine (rname_any s _ hs).mono ?_
            rintro e wd ⟨rfl, hbd⟩
            rw [hnm.out]
            have Qd := hid (bthen Qc.out hbd)
            go_wp2_with fail
            refine (htk _).mono ?_
            rintro e w1 ⟨v, rfl, hr, hb1⟩
            have B1 := hid (Blk.new w1 #[.int .i64 0, .int .i64 0, .int .i64 0] 27)
            have hr1 := hid (hr.ext (balloc w1 (.cells #[.int .i64 0, .int .i64 0, .int .i64 0] 27)))
            have Q1 := hid (bthen (bthen Qd.out hb1) (balloc w1 (.cells #[.int .i64 0, .int .i64 0, .int .i64 0] 27)))
            clear hr
            obtain ⟨b0, b1, b2, bf, bz⟩ := B1.out.three
            rcases tokRow_of hr1.out with ⟨_, h⟩ | ⟨g, off, cap, rfl, hg⟩
            · cases h
            obtain ⟨c0, c1, c2, c3, c4⟩ := hg.at (i := 0) (by simp)
            have hgl := hg.lt
            simp only [List.getElem_cons_zero, Nat.zero_mul, Nat.add_zero] at c0 c1
            rw [hx] at c1
            have hg' := hid hg
            clear hg c2 c3 c4
            go_wp2_with fail
            refine (name_any s _ hs).mono ?_
            rintro e we ⟨rfl, hbe⟩
            rw [hnm.out]
            have Qe := hid (bthen Q1.out hbe)
            have Be := hid (B1.out.ext hbe)
            have hg2 := hid (tokRow_ext' hg'.out hbe)
            clear c0 c1 hgl
            obtain ⟨c0, c1, c2, c3, c4⟩ := hg2.out.at (i := 0) (by simp)
            have hgl := hg2.out.lt
            simp only [List.getElem_cons_zero, Nat.zero_mul, Nat.add_zero] at c0
            clear c1 c2 c3 c4
            go_wp2_with fail
            refine (word_any s _).mono ?_
            rintro e wf ⟨rfl, hbf⟩
            rw [hwd.out]
            have Qf := hid (bthen Qe.out hbf)
            have hg3 := hid (tokRow_ext' hg2.out hbf)
            clear c0 hgl
            obtain ⟨c0, c1, c2, c3, c4⟩ := hg3.out.at (i := 0) (by simp)
            have hgl := hg3.out.lt
            simp only [List.getElem_cons_zero, Nat.zero_mul, Nat.add_zero] at c0
            clear c1 c2 c3 c4
            go_wp2_with fail
            refine (known_any _).mono ?_
            rintro e w6 ⟨rfl, hb6⟩
            go_wp2_with fail
            go_ret
            exact ⟨rfl, bthen Qf.out hb6⟩
      · have hns := Lx.not_single (L := s.data.toList) (fun u h => by rw [hk] at h; cases h; exact ht)
        have hnm := hid hns.1
        have hwd := hid hns.2
        have hx : ((ByteArray.mk t.text.toArray).toList == s.toList) = false := by
          rw [beq_eq_false_iff_ne]
          intro h
          rw [ByteArray.toList_mk, ByteArray.toList_eq] at h
          exact ht h
        clear hk hns ht
        go_enter Try.func7, Try.ntmps7
        go_wp2_with fail
        refine (word_any s _).mono ?_
        rintro e wa ⟨rfl, hba⟩
        rw [hwd.out]
        go_wp2_with fail
        refine (rword_any s _).mono ?_
        rintro e wb ⟨rfl, hbb⟩
        rw [hwd.out]
        have Qb := hid (bthen hba hbb)
        go_wp2_with fail
        refine (name_any s _ hs).mono ?_
        rintro e wc ⟨rfl, hbc⟩
        rw [hnm.out]
        have Qc := hid (bthen Qb.out hbc)
        go_wp2_with fail
        refine (rname_any s _ hs).mono ?_
        rintro e wd ⟨rfl, hbd⟩
        rw [hnm.out]
        have Qd := hid (bthen Qc.out hbd)
        go_wp2_with fail
        refine (htk _).mono ?_
        rintro e w1 ⟨v, rfl, hr, hb1⟩
        have B1 := hid (Blk.new w1 #[.int .i64 0, .int .i64 0, .int .i64 0] 27)
        have hr1 := hid (hr.ext (balloc w1 (.cells #[.int .i64 0, .int .i64 0, .int .i64 0] 27)))
        have Q1 := hid (bthen (bthen Qd.out hb1) (balloc w1 (.cells #[.int .i64 0, .int .i64 0, .int .i64 0] 27)))
        clear hr
        obtain ⟨b0, b1, b2, bf, bz⟩ := B1.out.three
        rcases tokRow_of hr1.out with ⟨_, h⟩ | ⟨g, off, cap, rfl, hg⟩
        · cases h
        obtain ⟨c0, c1, c2, c3, c4⟩ := hg.at (i := 0) (by simp)
        have hgl := hg.lt
        simp only [List.getElem_cons_zero, Nat.zero_mul, Nat.add_zero] at c0 c1
        generalize ByteArray.mk t.text.toArray = x at hx c1
        have hg' := hid hg
        clear hg c2 c3 c4
        go_wp2_with fail
        refine (name_any s _ hs).mono ?_
        rintro e we ⟨rfl, hbe⟩
        rw [hnm.out]
        have Qe := hid (bthen Q1.out hbe)
        have Be := hid (B1.out.ext hbe)
        go_wp2_with fail
        refine (word_any s _).mono ?_
        rintro e wf ⟨rfl, hbf⟩
        rw [hwd.out]
        have Qf := hid (bthen Qe.out hbf)
        go_wp2_with fail
        refine (known_any _).mono ?_
        rintro e w6 ⟨rfl, hb6⟩
        go_wp2_with fail
        go_ret
        exact ⟨rfl, bthen Qf.out hb6⟩
    · have hns := Lx.not_single (L := s.data.toList) (fun u h => by rw [hk] at h; cases h; exact absurd rfl h1)
      have hnm := hid hns.1
      have hwd := hid hns.2
      have hl1 : ((ts.length : Int) == 1) = false := by rw [beq_eq_false_iff_ne]; omega
      clear hk hns h1
      go_enter Try.func7, Try.ntmps7
      go_wp2_with fail
      refine (word_any s _).mono ?_
      rintro e wa ⟨rfl, hba⟩
      rw [hwd.out]
      go_wp2_with fail
      refine (rword_any s _).mono ?_
      rintro e wb ⟨rfl, hbb⟩
      rw [hwd.out]
      have Qb := hid (bthen hba hbb)
      go_wp2_with fail
      refine (name_any s _ hs).mono ?_
      rintro e wc ⟨rfl, hbc⟩
      rw [hnm.out]
      have Qc := hid (bthen Qb.out hbc)
      go_wp2_with fail
      refine (rname_any s _ hs).mono ?_
      rintro e wd ⟨rfl, hbd⟩
      rw [hnm.out]
      have Qd := hid (bthen Qc.out hbd)
      go_wp2_with fail
      refine (htk _).mono ?_
      rintro e w1 ⟨v, rfl, hr, hb1⟩
      have B1 := hid (Blk.new w1 #[.int .i64 0, .int .i64 0, .int .i64 0] 27)
      have hr1 := hid (hr.ext (balloc w1 (.cells #[.int .i64 0, .int .i64 0, .int .i64 0] 27)))
      have Q1 := hid (bthen (bthen Qd.out hb1) (balloc w1 (.cells #[.int .i64 0, .int .i64 0, .int .i64 0] 27)))
      clear hr
      obtain ⟨b0, b1, b2, bf, bz⟩ := B1.out.three
      have hv : ∃ pa cp, v = .slice pa ts.length cp := by
        rcases tokRow_of hr1.out with ⟨rfl, rfl⟩ | ⟨g, o, cp, rfl, _⟩
        · exact ⟨_, _, rfl⟩
        · exact ⟨_, _, rfl⟩
      obtain ⟨pa, cp, rfl⟩ := hv
      go_wp2_with fail
      refine (name_any s _ hs).mono ?_
      rintro e we ⟨rfl, hbe⟩
      rw [hnm.out]
      have Qe := hid (bthen Q1.out hbe)
      have Be := hid (B1.out.ext hbe)
      go_wp2_with fail
      refine (word_any s _).mono ?_
      rintro e wf ⟨rfl, hbf⟩
      rw [hwd.out]
      have Qf := hid (bthen Qe.out hbf)
      go_wp2_with fail
      refine (known_any _).mono ?_
      rintro e w6 ⟨rfl, hb6⟩
      go_wp2_with fail
      go_ret
      exact ⟨rfl, bthen Qf.out hb6⟩

end Go.Proofs.Ytoegepgdfnokdaa
