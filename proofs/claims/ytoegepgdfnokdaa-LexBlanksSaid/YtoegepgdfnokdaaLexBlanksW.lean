/- The law LexBlanks, walked. -/
import Derived.Test.YtoegepgdfnokdaaLexBackW
namespace Go.Proofs.Ytoegepgdfnokdaa
open Go.RowKit Go.Sort

def blanksLit : ByteArray := ⟨#[32, 32, 32, 32, 32, 32, 32, 32, 32, 10]⟩
theorem blanks_ext : ∀ n, n < 9 → (blanksLit.extract 0 n ++ (⟨#[10]⟩ : ByteArray)).data.toList = List.replicate n 32 ++ [10] := by
  intro n hn
  match n, hn with
  | 0, _ => rfl
  | 1, _ => rfl
  | 2, _ => rfl
  | 3, _ => rfl
  | 4, _ => rfl
  | 5, _ => rfl
  | 6, _ => rfl
  | 7, _ => rfl
  | 8, _ => rfl
theorem joinT_small {b : ByteArray} {ts : List Lx.Tok} (hb : b.size ≤ 100) (hn : ts.length ≤ 512) (hM : ∀ t ∈ ts, t.text.length ≤ 512) : (ByteArray.mk (joinT b.data.toList ts).toArray).size ≤ 1000000 := by
  have h := joinT_len (b := b.data.toList) (M := 512) ts hM
  have e : (ByteArray.mk (joinT b.data.toList ts).toArray).size = (joinT b.data.toList ts).length := by simp [ByteArray.size]
  rw [e, list_len] at *
  exact Nat.le_trans h (Nat.le_trans (Nat.mul_le_mul hn (show b.size + 512 ≤ 612 by omega)) (by omega))

set_option maxHeartbeats 4000000 in
theorem lexBlanks_low (s : ByteArray) (m : Int) (w : World) (hs : s.size ≤ 140737488355328) (hm : m ≤ 0) :
    Calls Try.prog 4 #[.string s, .int .i64 m] w fun e w' => e = .returned (.bool true) ∧ Below w.heap.size w w' := by
  have hm1 : decide (0 < m) = false := decide_eq_false (by omega)
  cases hk : Lx.tokens s.data.toList with
  | error x =>
    obtain ⟨er, l, c⟩ := x
    have htk := tokens_err2 (w := w) hs hk
    clear hk
    go_enter Try.func4, Try.ntmps4
    go_wp2_with fail
    refine htk.mono ?_
    rintro e w1 ⟨v, e0, l0, c0, pa, cp, rfl, rfl, hr, ⟨hne, heq, _⟩, hb1⟩
    have B1 := hid (Blk.new w1 #[.int .i64 e0, .int .i64 l0, .int .i64 c0] 27)
    have hr1 := hid (hr.ext (balloc w1 (.cells #[.int .i64 e0, .int .i64 l0, .int .i64 c0] 27)))
    have Q1 := hid (bthen hb1 (balloc w1 (.cells #[.int .i64 e0, .int .i64 l0, .int .i64 c0] 27)))
    clear hr
    go_wp2_with fail
    refine (joined_any hr1.out (by have := (show (⟨#[10, 35, 32, 97, 32, 114, 101, 109, 97, 114, 107, 44, 32, 114, 111, 108, 101, 32, 110, 117, 114, 115, 101, 32, 61, 32, 51, 59, 10]⟩ : ByteArray).size ≤ 100 by decide); omega) (by simp) (by simp)).mono ?_
    rintro e w2 ⟨rfl, rfl⟩
    obtain ⟨b0, b1, b2, bf, bz⟩ := B1.out.three
    go_wp2_with fail
    refine (known_any _).mono ?_
    rintro e w6 ⟨rfl, hb6⟩
    go_wp2_with fail
    go_ret
    exact ⟨rfl, bthen Q1.out hb6⟩
  | ok ts =>
    have hbd := hid (Lx.tokens_bound hk)
    have hj := hid (fun sep (hsp : Lx.Sep sep) h => Lx.tokens_relex (sep := sep) hk hsp Lx.tail_hash h)
    have htk := tokens_ok (w := w) hs hk
    clear hk
    go_enter Try.func4, Try.ntmps4
    go_wp2_with fail
    refine htk.mono ?_
    rintro e w1 ⟨v, rfl, hr, hb1⟩
    have B1 := hid (Blk.new w1 #[.int .i64 0, .int .i64 0, .int .i64 0] 27)
    have hr1 := hid (hr.ext (balloc w1 (.cells #[.int .i64 0, .int .i64 0, .int .i64 0] 27)))
    have Q1 := hid (bthen hb1 (balloc w1 (.cells #[.int .i64 0, .int .i64 0, .int .i64 0] 27)))
    clear hr
    go_wp2_with fail
    refine (joined_any hr1.out (by have := (show (⟨#[10, 35, 32, 97, 32, 114, 101, 109, 97, 114, 107, 44, 32, 114, 111, 108, 101, 32, 110, 117, 114, 115, 101, 32, 61, 32, 51, 59, 10]⟩ : ByteArray).size ≤ 100 by decide); omega) (by have := hbd.out.1; omega) (fun t ht => by have := hbd.out.2 t ht; omega)).mono ?_
    rintro e w2 ⟨rfl, rfl⟩
    obtain ⟨b0, b1, b2, bf, bz⟩ := B1.out.three
    have hysz := joinT_small (b := (⟨#[10, 35, 32, 97, 32, 114, 101, 109, 97, 114, 107, 44, 32, 114, 111, 108, 101, 32, 110, 117, 114, 115, 101, 32, 61, 32, 51, 59, 10]⟩ : ByteArray)) (ts := ts) (show (⟨#[10, 35, 32, 97, 32, 114, 101, 109, 97, 114, 107, 44, 32, 114, 111, 108, 101, 32, 110, 117, 114, 115, 101, 32, 61, 32, 51, 59, 10]⟩ : ByteArray).size ≤ 100 by decide) hbd.out.1 hbd.out.2
    have hyl := hid (show (ByteArray.mk (joinT ((⟨#[10, 35, 32, 97, 32, 114, 101, 109, 97, 114, 107, 44, 32, 114, 111, 108, 101, 32, 110, 117, 114, 115, 101, 32, 61, 32, 51, 59, 10]⟩ : ByteArray)).data.toList ts).toArray).data.toList = Lx.joinL ((⟨#[10, 35, 32, 97, 32, 114, 101, 109, 97, 114, 107, 44, 32, 114, 111, 108, 101, 32, 110, 117, 114, 115, 101, 32, 61, 32, 51, 59, 10]⟩ : ByteArray)).data.toList ts by rw [← joinT_joinL])
    generalize ByteArray.mk (joinT ((⟨#[10, 35, 32, 97, 32, 114, 101, 109, 97, 114, 107, 44, 32, 114, 111, 108, 101, 32, 110, 117, 114, 115, 101, 32, 61, 32, 51, 59, 10]⟩ : ByteArray)).data.toList ts).toArray = y at *
    by_cases hy : y.size ≤ 512
    · have hy1 : decide ((512 : Int) < y.size) = false := decide_eq_false (by omega)
      have hzl := hid (app_list y ⟨#[32, 35]⟩)
      have hzs := hid (show (y ++ (⟨#[32, 35]⟩ : ByteArray)).size = y.size + 2 from ByteArray.size_append)
      go_wp2_with fail
      generalize y ++ (⟨#[32, 35]⟩ : ByteArray) = z at *
      by_cases hy2 : y.size ≤ 510
      · have hy3 : decide ((510 : Int) < y.size) = false := decide_eq_false (by omega)
        have hzz := hzs.out
        have hlen2 : List.length (Lx.joinL ((⟨#[10, 35, 32, 97, 32, 114, 101, 109, 97, 114, 107, 44, 32, 114, 111, 108, 101, 32, 110, 117, 114, 115, 101, 32, 61, 32, 51, 59, 10]⟩ : ByteArray)).data.toList ts ++ [32, 35]) = z.data.toList.length := by rw [hzl.out, hyl.out]
        obtain ⟨us, hu, hst⟩ := hj.out ((⟨#[10, 35, 32, 97, 32, 114, 101, 109, 97, 114, 107, 44, 32, 114, 111, 108, 101, 32, 110, 117, 114, 115, 101, 32, 61, 32, 51, 59, 10]⟩ : ByteArray)).data.toList Lx.sep_remark (by rw [hlen2, list_len]; omega)
        clear hlen2
        rw [show Lx.joinL ((⟨#[10, 35, 32, 97, 32, 114, 101, 109, 97, 114, 107, 44, 32, 114, 111, 108, 101, 32, 110, 117, 114, 115, 101, 32, 61, 32, 51, 59, 10]⟩ : ByteArray)).data.toList ts ++ [32, 35] = z.data.toList by rw [hzl.out, hyl.out]] at hu
        have hul := hid (Lx.tokens_bound hu).1
        have htk2 := fun w => tokens_ok (w := w) (s := z) (by omega) hu
        have hst' := hid hst
        clear hu hst hzz
        refine (htk2 _).mono ?_
        rintro e w3 ⟨v3, rfl, hr3, hb3⟩
        have B3 := hid ((B1.out.ext hb3).ext (balloc w3 (.cells #[.int .i64 0, .int .i64 0, .int .i64 0] 27)))
        have C3 := hid (Blk.new w3 #[.int .i64 0, .int .i64 0, .int .i64 0] 27)
        have hr13 := hid ((hr1.out.ext hb3).ext (balloc w3 (.cells #[.int .i64 0, .int .i64 0, .int .i64 0] 27)))
        have hr33 := hid (hr3.ext (balloc w3 (.cells #[.int .i64 0, .int .i64 0, .int .i64 0] 27)))
        have Q3 := hid (bthen (bthen Q1.out hb3) (balloc w3 (.cells #[.int .i64 0, .int .i64 0, .int .i64 0] 27)))
        clear hr3 b0 b1 b2 bf bz
        obtain ⟨g0, g1, g2, gf, gz⟩ := C3.out.three
        go_wp2_with fail
        refine (same_any (at_ := false) hr13.out hr33.out (by have := hbd.out.1; omega) (by have := hul.out; omega)).mono ?_
        rintro e w4 ⟨rfl, hb4⟩
        rw [sameToks_strip hst'.out]
        go_wp2_with fail
        refine (known_any _).mono ?_
        rintro e w6 ⟨rfl, hb6⟩
        go_wp2_with fail
        go_ret
        exact ⟨rfl, bthen (bthen Q3.out hb4) hb6⟩
      · have hy3 : decide ((510 : Int) < y.size) = true := decide_eq_true (by omega)
        have hzz := hzs.out
        have hu : Lx.tokens z.data.toList = .error (2, 1, 1) := by
          unfold Lx.tokens
          rw [if_pos (by rw [list_len]; omega)]
        refine (tokens_err2 (s := z) (by omega) hu).mono ?_
        rintro e w3 ⟨v3, e0, l0, c0, pa, cp, rfl, rfl, hr3, ⟨hne, heq, htwo⟩, hb3⟩
        have h2 := htwo rfl
        have C3 := hid (Blk.new w3 #[.int .i64 e0, .int .i64 l0, .int .i64 c0] 27)
        have Q3 := hid (bthen (bthen Q1.out hb3) (balloc w3 (.cells #[.int .i64 e0, .int .i64 l0, .int .i64 c0] 27)))
        clear hr3 b0 b1 b2 bf bz hu htwo
        obtain ⟨g0, g1, g2, gf, gz⟩ := C3.out.three
        go_wp2_with fail
        refine (known_any _).mono ?_
        rintro e w6 ⟨rfl, hb6⟩
        go_wp2_with fail
        go_ret
        exact ⟨rfl, bthen Q3.out hb6⟩
    · have hy1 : decide ((512 : Int) < y.size) = true := decide_eq_true (by omega)
      go_wp2_with fail
      refine (known_any _).mono ?_
      rintro e w6 ⟨rfl, hb6⟩
      go_wp2_with fail
      go_ret
      exact ⟨rfl, bthen Q1.out hb6⟩

set_option maxHeartbeats 4000000 in
theorem lexBlanks_high (s : ByteArray) (m : Int) (w : World) (hs : s.size ≤ 140737488355328) (hm : 9 ≤ m) :
    Calls Try.prog 4 #[.string s, .int .i64 m] w fun e w' => e = .returned (.bool true) ∧ Below w.heap.size w w' := by
  have hm1 : decide (0 < m) = true := decide_eq_true (by omega)
  have hm2 : decide (m < 9) = false := decide_eq_false (by omega)
  cases hk : Lx.tokens s.data.toList with
  | error x =>
    obtain ⟨er, l, c⟩ := x
    have htk := tokens_err2 (w := w) hs hk
    clear hk
    go_enter Try.func4, Try.ntmps4
    go_wp2_with fail
    refine htk.mono ?_
    rintro e w1 ⟨v, e0, l0, c0, pa, cp, rfl, rfl, hr, ⟨hne, heq, _⟩, hb1⟩
    have B1 := hid (Blk.new w1 #[.int .i64 e0, .int .i64 l0, .int .i64 c0] 27)
    have hr1 := hid (hr.ext (balloc w1 (.cells #[.int .i64 e0, .int .i64 l0, .int .i64 c0] 27)))
    have Q1 := hid (bthen hb1 (balloc w1 (.cells #[.int .i64 e0, .int .i64 l0, .int .i64 c0] 27)))
    clear hr
    go_wp2_with fail
    refine (joined_any hr1.out (by have := (show (⟨#[10, 35, 32, 97, 32, 114, 101, 109, 97, 114, 107, 44, 32, 114, 111, 108, 101, 32, 110, 117, 114, 115, 101, 32, 61, 32, 51, 59, 10]⟩ : ByteArray).size ≤ 100 by decide); omega) (by simp) (by simp)).mono ?_
    rintro e w2 ⟨rfl, rfl⟩
    obtain ⟨b0, b1, b2, bf, bz⟩ := B1.out.three
    go_wp2_with fail
    refine (known_any _).mono ?_
    rintro e w6 ⟨rfl, hb6⟩
    go_wp2_with fail
    go_ret
    exact ⟨rfl, bthen Q1.out hb6⟩
  | ok ts =>
    have hbd := hid (Lx.tokens_bound hk)
    have hj := hid (fun sep (hsp : Lx.Sep sep) h => Lx.tokens_relex (sep := sep) hk hsp Lx.tail_hash h)
    have htk := tokens_ok (w := w) hs hk
    clear hk
    go_enter Try.func4, Try.ntmps4
    go_wp2_with fail
    refine htk.mono ?_
    rintro e w1 ⟨v, rfl, hr, hb1⟩
    have B1 := hid (Blk.new w1 #[.int .i64 0, .int .i64 0, .int .i64 0] 27)
    have hr1 := hid (hr.ext (balloc w1 (.cells #[.int .i64 0, .int .i64 0, .int .i64 0] 27)))
    have Q1 := hid (bthen hb1 (balloc w1 (.cells #[.int .i64 0, .int .i64 0, .int .i64 0] 27)))
    clear hr
    go_wp2_with fail
    refine (joined_any hr1.out (by have := (show (⟨#[10, 35, 32, 97, 32, 114, 101, 109, 97, 114, 107, 44, 32, 114, 111, 108, 101, 32, 110, 117, 114, 115, 101, 32, 61, 32, 51, 59, 10]⟩ : ByteArray).size ≤ 100 by decide); omega) (by have := hbd.out.1; omega) (fun t ht => by have := hbd.out.2 t ht; omega)).mono ?_
    rintro e w2 ⟨rfl, rfl⟩
    obtain ⟨b0, b1, b2, bf, bz⟩ := B1.out.three
    have hysz := joinT_small (b := (⟨#[10, 35, 32, 97, 32, 114, 101, 109, 97, 114, 107, 44, 32, 114, 111, 108, 101, 32, 110, 117, 114, 115, 101, 32, 61, 32, 51, 59, 10]⟩ : ByteArray)) (ts := ts) (show (⟨#[10, 35, 32, 97, 32, 114, 101, 109, 97, 114, 107, 44, 32, 114, 111, 108, 101, 32, 110, 117, 114, 115, 101, 32, 61, 32, 51, 59, 10]⟩ : ByteArray).size ≤ 100 by decide) hbd.out.1 hbd.out.2
    have hyl := hid (show (ByteArray.mk (joinT ((⟨#[10, 35, 32, 97, 32, 114, 101, 109, 97, 114, 107, 44, 32, 114, 111, 108, 101, 32, 110, 117, 114, 115, 101, 32, 61, 32, 51, 59, 10]⟩ : ByteArray)).data.toList ts).toArray).data.toList = Lx.joinL ((⟨#[10, 35, 32, 97, 32, 114, 101, 109, 97, 114, 107, 44, 32, 114, 111, 108, 101, 32, 110, 117, 114, 115, 101, 32, 61, 32, 51, 59, 10]⟩ : ByteArray)).data.toList ts by rw [← joinT_joinL])
    generalize ByteArray.mk (joinT ((⟨#[10, 35, 32, 97, 32, 114, 101, 109, 97, 114, 107, 44, 32, 114, 111, 108, 101, 32, 110, 117, 114, 115, 101, 32, 61, 32, 51, 59, 10]⟩ : ByteArray)).data.toList ts).toArray = y at *
    by_cases hy : y.size ≤ 512
    · have hy1 : decide ((512 : Int) < y.size) = false := decide_eq_false (by omega)
      have hzl := hid (app_list y ⟨#[32, 35]⟩)
      have hzs := hid (show (y ++ (⟨#[32, 35]⟩ : ByteArray)).size = y.size + 2 from ByteArray.size_append)
      go_wp2_with fail
      generalize y ++ (⟨#[32, 35]⟩ : ByteArray) = z at *
      by_cases hy2 : y.size ≤ 510
      · have hy3 : decide ((510 : Int) < y.size) = false := decide_eq_false (by omega)
        have hzz := hzs.out
        have hlen2 : List.length (Lx.joinL ((⟨#[10, 35, 32, 97, 32, 114, 101, 109, 97, 114, 107, 44, 32, 114, 111, 108, 101, 32, 110, 117, 114, 115, 101, 32, 61, 32, 51, 59, 10]⟩ : ByteArray)).data.toList ts ++ [32, 35]) = z.data.toList.length := by rw [hzl.out, hyl.out]
        obtain ⟨us, hu, hst⟩ := hj.out ((⟨#[10, 35, 32, 97, 32, 114, 101, 109, 97, 114, 107, 44, 32, 114, 111, 108, 101, 32, 110, 117, 114, 115, 101, 32, 61, 32, 51, 59, 10]⟩ : ByteArray)).data.toList Lx.sep_remark (by rw [hlen2, list_len]; omega)
        clear hlen2
        rw [show Lx.joinL ((⟨#[10, 35, 32, 97, 32, 114, 101, 109, 97, 114, 107, 44, 32, 114, 111, 108, 101, 32, 110, 117, 114, 115, 101, 32, 61, 32, 51, 59, 10]⟩ : ByteArray)).data.toList ts ++ [32, 35] = z.data.toList by rw [hzl.out, hyl.out]] at hu
        have hul := hid (Lx.tokens_bound hu).1
        have htk2 := fun w => tokens_ok (w := w) (s := z) (by omega) hu
        have hst' := hid hst
        clear hu hst hzz
        refine (htk2 _).mono ?_
        rintro e w3 ⟨v3, rfl, hr3, hb3⟩
        have B3 := hid ((B1.out.ext hb3).ext (balloc w3 (.cells #[.int .i64 0, .int .i64 0, .int .i64 0] 27)))
        have C3 := hid (Blk.new w3 #[.int .i64 0, .int .i64 0, .int .i64 0] 27)
        have hr13 := hid ((hr1.out.ext hb3).ext (balloc w3 (.cells #[.int .i64 0, .int .i64 0, .int .i64 0] 27)))
        have hr33 := hid (hr3.ext (balloc w3 (.cells #[.int .i64 0, .int .i64 0, .int .i64 0] 27)))
        have Q3 := hid (bthen (bthen Q1.out hb3) (balloc w3 (.cells #[.int .i64 0, .int .i64 0, .int .i64 0] 27)))
        clear hr3 b0 b1 b2 bf bz
        obtain ⟨g0, g1, g2, gf, gz⟩ := C3.out.three
        go_wp2_with fail
        refine (same_any (at_ := false) hr13.out hr33.out (by have := hbd.out.1; omega) (by have := hul.out; omega)).mono ?_
        rintro e w4 ⟨rfl, hb4⟩
        rw [sameToks_strip hst'.out]
        go_wp2_with fail
        refine (known_any _).mono ?_
        rintro e w6 ⟨rfl, hb6⟩
        go_wp2_with fail
        go_ret
        exact ⟨rfl, bthen (bthen Q3.out hb4) hb6⟩
      · have hy3 : decide ((510 : Int) < y.size) = true := decide_eq_true (by omega)
        have hzz := hzs.out
        have hu : Lx.tokens z.data.toList = .error (2, 1, 1) := by
          unfold Lx.tokens
          rw [if_pos (by rw [list_len]; omega)]
        refine (tokens_err2 (s := z) (by omega) hu).mono ?_
        rintro e w3 ⟨v3, e0, l0, c0, pa, cp, rfl, rfl, hr3, ⟨hne, heq, htwo⟩, hb3⟩
        have h2 := htwo rfl
        have C3 := hid (Blk.new w3 #[.int .i64 e0, .int .i64 l0, .int .i64 c0] 27)
        have Q3 := hid (bthen (bthen Q1.out hb3) (balloc w3 (.cells #[.int .i64 e0, .int .i64 l0, .int .i64 c0] 27)))
        clear hr3 b0 b1 b2 bf bz hu htwo
        obtain ⟨g0, g1, g2, gf, gz⟩ := C3.out.three
        go_wp2_with fail
        refine (known_any _).mono ?_
        rintro e w6 ⟨rfl, hb6⟩
        go_wp2_with fail
        go_ret
        exact ⟨rfl, bthen Q3.out hb6⟩
    · have hy1 : decide ((512 : Int) < y.size) = true := decide_eq_true (by omega)
      go_wp2_with fail
      refine (known_any _).mono ?_
      rintro e w6 ⟨rfl, hb6⟩
      go_wp2_with fail
      go_ret
      exact ⟨rfl, bthen Q1.out hb6⟩

set_option maxHeartbeats 4000000 in
theorem lexBlanks_mid (s : ByteArray) (m : Nat) (w : World) (hs : s.size ≤ 140737488355328) (hm : 0 < m) (hm9 : m < 9) :
    Calls Try.prog 4 #[.string s, .int .i64 m] w fun e w' => e = .returned (.bool true) ∧ Below w.heap.size w w' := by
  have hm1 : decide ((0 : Int) < m) = true := decide_eq_true (by omega)
  have hm2 : decide ((m : Int) < 9) = true := decide_eq_true (by omega)
  have hlit : blanksLit = ⟨#[32, 32, 32, 32, 32, 32, 32, 32, 32, 10]⟩ := rfl
  have hsep := hid (blanks_ext m (by omega))
  have hssz := hid (show (blanksLit.extract 0 m ++ (⟨#[10]⟩ : ByteArray)).size ≤ 100 by rw [← list_len, hsep.out]; simp; omega)
  rw [hlit] at hsep hssz
  clear hlit
  cases hk : Lx.tokens s.data.toList with
  | error x =>
    obtain ⟨er, l, c⟩ := x
    have htk := tokens_err2 (w := w) hs hk
    clear hk
    go_enter Try.func4, Try.ntmps4
    go_wp2_with fail
    refine htk.mono ?_
    rintro e w1 ⟨v, e0, l0, c0, pa, cp, rfl, rfl, hr, ⟨hne, heq, _⟩, hb1⟩
    have B1 := hid (Blk.new w1 #[.int .i64 e0, .int .i64 l0, .int .i64 c0] 27)
    have hr1 := hid (hr.ext (balloc w1 (.cells #[.int .i64 e0, .int .i64 l0, .int .i64 c0] 27)))
    have Q1 := hid (bthen hb1 (balloc w1 (.cells #[.int .i64 e0, .int .i64 l0, .int .i64 c0] 27)))
    clear hr
    go_wp2_with fail
    generalize (ByteArray.extract ⟨#[32, 32, 32, 32, 32, 32, 32, 32, 32, 10]⟩ 0 m) ++ (⟨#[10]⟩ : ByteArray) = sp at *
    refine (joined_any hr1.out (by have := hssz.out; omega) (by simp) (by simp)).mono ?_
    rintro e w2 ⟨rfl, rfl⟩
    obtain ⟨b0, b1, b2, bf, bz⟩ := B1.out.three
    go_wp2_with fail
    refine (known_any _).mono ?_
    rintro e w6 ⟨rfl, hb6⟩
    go_wp2_with fail
    go_ret
    exact ⟨rfl, bthen Q1.out hb6⟩
  | ok ts =>
    have hbd := hid (Lx.tokens_bound hk)
    have hj := hid (fun sep (hsp : Lx.Sep sep) h => Lx.tokens_relex (sep := sep) hk hsp Lx.tail_hash h)
    have htk := tokens_ok (w := w) hs hk
    clear hk
    go_enter Try.func4, Try.ntmps4
    go_wp2_with fail
    refine htk.mono ?_
    rintro e w1 ⟨v, rfl, hr, hb1⟩
    have B1 := hid (Blk.new w1 #[.int .i64 0, .int .i64 0, .int .i64 0] 27)
    have hr1 := hid (hr.ext (balloc w1 (.cells #[.int .i64 0, .int .i64 0, .int .i64 0] 27)))
    have Q1 := hid (bthen hb1 (balloc w1 (.cells #[.int .i64 0, .int .i64 0, .int .i64 0] 27)))
    clear hr
    go_wp2_with fail
    generalize (ByteArray.extract ⟨#[32, 32, 32, 32, 32, 32, 32, 32, 32, 10]⟩ 0 m) ++ (⟨#[10]⟩ : ByteArray) = sp at *
    refine (joined_any hr1.out (by have := hssz.out; omega) (by have := hbd.out.1; omega) (fun t ht => by have := hbd.out.2 t ht; omega)).mono ?_
    rintro e w2 ⟨rfl, rfl⟩
    obtain ⟨b0, b1, b2, bf, bz⟩ := B1.out.three
    have hysz := joinT_small (b := (sp : ByteArray)) (ts := ts) hssz.out hbd.out.1 hbd.out.2
    have hyl := hid (show (ByteArray.mk (joinT ((sp : ByteArray)).data.toList ts).toArray).data.toList = Lx.joinL ((sp : ByteArray)).data.toList ts by rw [← joinT_joinL])
    generalize ByteArray.mk (joinT ((sp : ByteArray)).data.toList ts).toArray = y at *
    by_cases hy : y.size ≤ 512
    · have hy1 : decide ((512 : Int) < y.size) = false := decide_eq_false (by omega)
      have hzl := hid (app_list y ⟨#[32, 35]⟩)
      have hzs := hid (show (y ++ (⟨#[32, 35]⟩ : ByteArray)).size = y.size + 2 from ByteArray.size_append)
      go_wp2_with fail
      generalize y ++ (⟨#[32, 35]⟩ : ByteArray) = z at *
      by_cases hy2 : y.size ≤ 510
      · have hy3 : decide ((510 : Int) < y.size) = false := decide_eq_false (by omega)
        have hzz := hzs.out
        have hlen2 : List.length (Lx.joinL ((sp : ByteArray)).data.toList ts ++ [32, 35]) = z.data.toList.length := by rw [hzl.out, hyl.out]
        obtain ⟨us, hu, hst⟩ := hj.out ((sp : ByteArray)).data.toList (by rw [hsep.out]; exact Lx.sep_blanks m) (by rw [hlen2, list_len]; omega)
        clear hlen2
        rw [show Lx.joinL ((sp : ByteArray)).data.toList ts ++ [32, 35] = z.data.toList by rw [hzl.out, hyl.out]] at hu
        have hul := hid (Lx.tokens_bound hu).1
        have htk2 := fun w => tokens_ok (w := w) (s := z) (by omega) hu
        have hst' := hid hst
        clear hu hst hzz
        refine (htk2 _).mono ?_
        rintro e w3 ⟨v3, rfl, hr3, hb3⟩
        have B3 := hid ((B1.out.ext hb3).ext (balloc w3 (.cells #[.int .i64 0, .int .i64 0, .int .i64 0] 27)))
        have C3 := hid (Blk.new w3 #[.int .i64 0, .int .i64 0, .int .i64 0] 27)
        have hr13 := hid ((hr1.out.ext hb3).ext (balloc w3 (.cells #[.int .i64 0, .int .i64 0, .int .i64 0] 27)))
        have hr33 := hid (hr3.ext (balloc w3 (.cells #[.int .i64 0, .int .i64 0, .int .i64 0] 27)))
        have Q3 := hid (bthen (bthen Q1.out hb3) (balloc w3 (.cells #[.int .i64 0, .int .i64 0, .int .i64 0] 27)))
        clear hr3 b0 b1 b2 bf bz
        obtain ⟨g0, g1, g2, gf, gz⟩ := C3.out.three
        go_wp2_with fail
        refine (same_any (at_ := false) hr13.out hr33.out (by have := hbd.out.1; omega) (by have := hul.out; omega)).mono ?_
        rintro e w4 ⟨rfl, hb4⟩
        rw [sameToks_strip hst'.out]
        go_wp2_with fail
        refine (known_any _).mono ?_
        rintro e w6 ⟨rfl, hb6⟩
        go_wp2_with fail
        go_ret
        exact ⟨rfl, bthen (bthen Q3.out hb4) hb6⟩
      · have hy3 : decide ((510 : Int) < y.size) = true := decide_eq_true (by omega)
        have hzz := hzs.out
        have hu : Lx.tokens z.data.toList = .error (2, 1, 1) := by
          unfold Lx.tokens
          rw [if_pos (by rw [list_len]; omega)]
        refine (tokens_err2 (s := z) (by omega) hu).mono ?_
        rintro e w3 ⟨v3, e0, l0, c0, pa, cp, rfl, rfl, hr3, ⟨hne, heq, htwo⟩, hb3⟩
        have h2 := htwo rfl
        have C3 := hid (Blk.new w3 #[.int .i64 e0, .int .i64 l0, .int .i64 c0] 27)
        have Q3 := hid (bthen (bthen Q1.out hb3) (balloc w3 (.cells #[.int .i64 e0, .int .i64 l0, .int .i64 c0] 27)))
        clear hr3 b0 b1 b2 bf bz hu htwo
        obtain ⟨g0, g1, g2, gf, gz⟩ := C3.out.three
        go_wp2_with fail
        refine (known_any _).mono ?_
        rintro e w6 ⟨rfl, hb6⟩
        go_wp2_with fail
        go_ret
        exact ⟨rfl, bthen Q3.out hb6⟩
    · have hy1 : decide ((512 : Int) < y.size) = true := decide_eq_true (by omega)
      go_wp2_with fail
      refine (known_any _).mono ?_
      rintro e w6 ⟨rfl, hb6⟩
      go_wp2_with fail
      go_ret
      exact ⟨rfl, bthen Q1.out hb6⟩

theorem lexBlanks_walk (s : ByteArray) (m : Int) (w : World) (hs : s.size ≤ 140737488355328) :
    Calls Try.prog 4 #[.string s, .int .i64 m] w fun e w' => e = .returned (.bool true) ∧ Below w.heap.size w w' := by
  by_cases h1 : m ≤ 0
  · exact lexBlanks_low s m w hs h1
  · by_cases h2 : 9 ≤ m
    · exact lexBlanks_high s m w hs h2
    · obtain ⟨n, rfl⟩ : ∃ n : Nat, m = n := ⟨m.toNat, by omega⟩
      exact lexBlanks_mid s n w hs (by omega) (by omega)

end Go.Proofs.Ytoegepgdfnokdaa
