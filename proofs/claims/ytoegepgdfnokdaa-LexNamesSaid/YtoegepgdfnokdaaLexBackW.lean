/- The laws LexBack, LexBlanks: walked. -/
import Derived.Test.YtoegepgdfnokdaaLexLaw
import Derived.Test.YtoegepgdfnokdaaLexPlain3
namespace Go.Proofs.Ytoegepgdfnokdaa
open Go.RowKit Go.Sort

theorem tokens_err2 {s : ByteArray} {w : World} {er l c : Nat} (hs : s.size ≤ 140737488355328) (hk : Lx.tokens s.data.toList = .error (er, l, c)) :
    Calls Try.prog 8 #[.string s] w fun e w' => ∃ v e0 l0 c0 pa cp, e = .returned (.tuple #[v, .agg #[.int .i64 e0, .int .i64 l0, .int .i64 c0]]) ∧ v = .slice pa 0 cp ∧ Row w' v ([] : List Lx.Tok).length 5 (toksCells []) ∧ ((e0 != 0) = true ∧ (e0 == 0) = false ∧ (er = 2 → (e0 == 2) = true)) ∧ Below w.heap.size w w' :=
  (tokens_any s w hs).mono fun e w' ⟨h, hb⟩ => by
    unfold TokensPost at h; rw [hk] at h
    obtain ⟨v, he, hr, hn⟩ := h
    have hv : ∃ pa cp, v = .slice pa 0 cp := by
      rcases tokRow_of (ts := []) hr with ⟨rfl, _⟩ | ⟨g, o, cp, rfl, _⟩
      · exact ⟨_, _, rfl⟩
      · exact ⟨_, _, rfl⟩
    obtain ⟨pa, cp, hv⟩ := hv
    refine ⟨v, er, l, c, pa, cp, he, hv, hr, ⟨?_, ?_, ?_⟩, hb⟩
    · simp only [bne_iff_ne, ne_eq]; omega
    · rw [beq_eq_false_iff_ne]; omega
    · rintro rfl; rfl
theorem joinT_joinL (b : Lx.Bytes) (ts : List Lx.Tok) : joinT b ts = Lx.joinL b ts := by cases ts <;> rfl
theorem sameToks_strip {ts us : List Lx.Tok} (h : us.map Lx.strip = ts.map Lx.strip) : sameToks false ts us = true := by
  have hl : us.length = ts.length := by simpa using congrArg List.length h
  unfold sameToks
  rw [hl]
  simp only [BEq.rfl, Bool.true_and, List.all_eq_true]
  intro p hp
  obtain ⟨i, hi, rfl⟩ := List.getElem_of_mem hp
  rw [List.length_zip] at hi
  have h1 : i < ts.length := by omega
  have h2 : i < us.length := by omega
  have h3 : Lx.strip us[i] = Lx.strip ts[i] := by
    have e : (us.map Lx.strip)[i]? = (ts.map Lx.strip)[i]? := by rw [h]
    rw [List.getElem?_map, List.getElem?_map, List.getElem?_eq_getElem h1, List.getElem?_eq_getElem h2] at e
    simpa using e
  simp only [Lx.strip, Prod.mk.injEq] at h3
  simp [sameTok, h3.1, h3.2.1, h3.2.2]

set_option maxHeartbeats 2000000 in
theorem lexBack_walk (s : ByteArray) (w : World) (hs : s.size ≤ 140737488355328) :
    Calls Try.prog 3 #[.string s] w fun e w' => e = .returned (.bool true) ∧ Below w.heap.size w w' := by
  cases hk : Lx.tokens s.data.toList with
  | error x =>
    obtain ⟨er, l, c⟩ := x
    have htk := tokens_err2 (w := w) hs hk
    clear hk
    go_enter Try.func3, Try.ntmps3
    go_wp2_with fail
    refine htk.mono ?_
    rintro e w1 ⟨v, e0, l0, c0, pa, cp, rfl, rfl, hr, ⟨hne, heq, _⟩, hb1⟩
    have B1 := hid (Blk.new w1 #[.int .i64 e0, .int .i64 l0, .int .i64 c0] 27)
    have hr1 := hid (hr.ext (balloc w1 (.cells #[.int .i64 e0, .int .i64 l0, .int .i64 c0] 27)))
    have Q1 := hid (bthen hb1 (balloc w1 (.cells #[.int .i64 e0, .int .i64 l0, .int .i64 c0] 27)))
    clear hr
    go_wp2_with fail
    refine (joined_any hr1.out (by decide) (by simp) (by simp)).mono ?_
    rintro e w2 ⟨rfl, rfl⟩
    obtain ⟨b0, b1, b2, bf, bz⟩ := B1.out.three
    go_wp2_with fail
    refine (known_any _).mono ?_
    rintro e w6 ⟨rfl, hb6⟩
    go_wp2_with fail
    go_ret
    exact ⟨rfl, bthen Q1.out hb6⟩
  | ok ts =>
    have hbd := hid (Lx.tokens_bound hk)
    have hj := hid (fun h => Lx.tokens_relex (sep := [32]) hk Lx.sep_blank Lx.tail_nil h)
    have htk := tokens_ok (w := w) hs hk
    clear hk
    go_enter Try.func3, Try.ntmps3
    go_wp2_with fail
    refine htk.mono ?_
    rintro e w1 ⟨v, rfl, hr, hb1⟩
    have B1 := hid (Blk.new w1 #[.int .i64 0, .int .i64 0, .int .i64 0] 27)
    have hr1 := hid (hr.ext (balloc w1 (.cells #[.int .i64 0, .int .i64 0, .int .i64 0] 27)))
    have Q1 := hid (bthen hb1 (balloc w1 (.cells #[.int .i64 0, .int .i64 0, .int .i64 0] 27)))
    clear hr
    go_wp2_with fail
    refine (joined_any hr1.out (by decide) (by have := hbd.out.1; omega) (fun t ht => by have := hbd.out.2 t ht; omega)).mono ?_
    rintro e w2 ⟨rfl, rfl⟩
    obtain ⟨b0, b1, b2, bf, bz⟩ := B1.out.three
    have hyl := hid (show (ByteArray.mk (joinT (ByteArray.mk #[32]).data.toList ts).toArray).data.toList = Lx.joinL [32] ts by rw [← joinT_joinL])
    generalize ByteArray.mk (joinT (ByteArray.mk #[32]).data.toList ts).toArray = y at *
    by_cases hy : y.size ≤ 512
    · have hy1 : decide ((512 : Int) < y.size) = false := decide_eq_false (by omega)
      obtain ⟨us, hu, hst⟩ := hj.out (by rw [List.append_nil, ← hyl.out, list_len]; exact hy)
      rw [List.append_nil, ← hyl.out] at hu
      have hul := hid (Lx.tokens_bound hu).1
      have htk2 := fun w => tokens_ok (w := w) (s := y) (by omega) hu
      have hst' := hid hst
      clear hu hst
      go_wp2_with fail
      refine (htk2 _).mono ?_
      rintro e w3 ⟨v3, rfl, hr3, hb3⟩
      have B3 := hid ((B1.out.ext hb3).ext (balloc w3 (.cells #[.int .i64 0, .int .i64 0, .int .i64 0] 27)))
      have C3 := hid (Blk.new w3 #[.int .i64 0, .int .i64 0, .int .i64 0] 27)
      have hr13 := hid ((hr1.out.ext hb3).ext (balloc w3 (.cells #[.int .i64 0, .int .i64 0, .int .i64 0] 27)))
      have hr33 := hid (hr3.ext (balloc w3 (.cells #[.int .i64 0, .int .i64 0, .int .i64 0] 27)))
      have Q3 := hid (bthen (bthen Q1.out hb3) (balloc w3 (.cells #[.int .i64 0, .int .i64 0, .int .i64 0] 27)))
      clear hr3 b0 b1 b2 bf bz
      obtain ⟨g0, g1, g2, gf, gz⟩ := C3.out.three
      go_wp2_with fail
      refine (same_any (at_ := false) hr13.out hr33.out (by have := hbd.out.1; omega) (by have := hul.out; omega)).mono ?_
      rintro e w4 ⟨rfl, hb4⟩
      rw [sameToks_strip hst'.out]
      go_wp2_with fail
      refine (known_any _).mono ?_
      rintro e w6 ⟨rfl, hb6⟩
      go_wp2_with fail
      go_ret
      exact ⟨rfl, bthen (bthen Q3.out hb4) hb6⟩
    · have hy1 : decide ((512 : Int) < y.size) = true := decide_eq_true (by omega)
      have hv : ∃ pa cp, v = .slice pa ts.length cp := by
        rcases tokRow_of hr1.out with ⟨rfl, rfl⟩ | ⟨g, o, cp, rfl, _⟩
        · exact ⟨_, _, rfl⟩
        · exact ⟨_, _, rfl⟩
      obtain ⟨pa, cp, rfl⟩ := hv
      go_wp2_with fail
      refine (known_any _).mono ?_
      rintro e w6 ⟨rfl, hb6⟩
      go_wp2_with fail
      go_ret
      exact ⟨rfl, bthen Q1.out hb6⟩

end Go.Proofs.Ytoegepgdfnokdaa
