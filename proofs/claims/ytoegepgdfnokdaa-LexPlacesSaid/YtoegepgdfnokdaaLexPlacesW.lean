/- The law LexPlaces, walked. -/
import Derived.Test.YtoegepgdfnokdaaLexBackW
namespace Go.Proofs.Ytoegepgdfnokdaa
open Go.RowKit Go.Sort

theorem tokRow_ext {w w' : World} {g off cap : Nat} {ts : List Lx.Tok} (h : TokRow w g off cap ts) (hb : Below w.heap.size w w') : TokRow w' g off cap ts :=
  ⟨h.cap, Nat.lt_of_lt_of_le h.lt hb.size, fun i hi f u hu => by rw [hb.cell (by exact h.lt)]; exact h.cell i hi f u hu⟩
theorem placed_at {L : Lx.Bytes} {a i : Nat} {ts : List Lx.Tok} (h : Lx.Placed L a (ts.drop i)) (hi : i < ts.length) :
    ∃ b, a ≤ b ∧ b + ts[i].text.length ≤ L.length ∧ 0 < ts[i].text.length ∧ Lx.posOf (L.take b) = (ts[i].line, ts[i].col) ∧ (L.drop b).take ts[i].text.length = ts[i].text ∧ Lx.Placed L (b + ts[i].text.length) (ts.drop (i + 1)) := by
  rw [List.drop_eq_getElem_cons hi] at h
  cases h with
  | cons h1 h2 h3 h4 h5 h6 => exact ⟨_, h1, h2, h3, h4, h5, h6⟩
/-- the places differ: so do their numbers -/
theorem pos_beq {L : Lx.Bytes} {a b l c : Nat} (hb : Lx.posOf (L.take b) = (l, c)) (hbl : b ≤ L.length) (hab : a < b) :
    (((Lx.posOf (L.take a)).1 : Int) == (l : Int)) = false ∨ ((((Lx.posOf (L.take a)).1 : Int) == (l : Int)) = true ∧ (((Lx.posOf (L.take a)).2 : Int) == (c : Int)) = false) := by
  have h := Lx.posOf_ne hab hbl
  rw [hb] at h
  by_cases h1 : (Lx.posOf (L.take a)).1 = l
  · refine .inr ⟨by rw [h1]; simp, ?_⟩
    rw [beq_eq_false_iff_ne]
    intro h2
    exact h (Prod.ext h1 (by show (Lx.posOf (L.take a)).2 = c; omega))
  · refine .inl ?_
    rw [beq_eq_false_iff_ne]
    intro h2
    omega
theorem extract_tok {s : ByteArray} {b n : Nat} {t : Lx.Bytes} (h : (s.data.toList.drop b).take n = t) : s.extract b (b + n) = ⟨t.toArray⟩ := by
  apply bytes_eq
  rw [← h]
  simp [ByteArray.data_extract]

theorem place_vals {s : ByteArray} {ts : List Lx.Tok} {a i : Nat} (h : Lx.Placed s.data.toList a (ts.drop i)) (hi : i < ts.length) :
    ∃ (k : Int) (x : ByteArray) (n l c : Int) (b : Nat), (∀ w g off cap, TokRow w g off cap ts → TokAt w g (off + i * 5) k x n l c) ∧ a ≤ b ∧ b + x.size ≤ s.size ∧ 0 < x.size ∧ s.extract b (b + x.size) = x ∧ Lx.Placed s.data.toList (b + x.size) (ts.drop (i + 1)) ∧
      (((Lx.posOf (s.data.toList.take b)).1 : Int) == l) = true ∧ (((Lx.posOf (s.data.toList.take b)).2 : Int) == c) = true ∧
      ∀ a', a' < b → (((Lx.posOf (s.data.toList.take a')).1 : Int) == l) = false ∨ ((((Lx.posOf (s.data.toList.take a')).1 : Int) == l) = true ∧ (((Lx.posOf (s.data.toList.take a')).2 : Int) == c) = false) := by
  obtain ⟨b, hab, hbl, hpos, hposb, htx, hP2⟩ := placed_at h hi
  rw [list_len] at hbl
  have hsz : (ByteArray.mk ts[i].text.toArray).size = ts[i].text.length := by simp [ByteArray.size]
  refine ⟨_, _, _, _, _, b, fun w g off cap hT => hT.at hi, hab, ?_, ?_, ?_, ?_, ?_, ?_, fun a' h => pos_beq hposb (by rw [list_len]; omega) h⟩
  · rw [hsz]; exact hbl
  · rw [hsz]; exact hpos
  · rw [hsz]; exact extract_tok htx
  · rw [hsz]; exact hP2
  · rw [hposb]; simp
  · rw [hposb]; simp

set_option maxHeartbeats 4000000 in
theorem lexPlaces_walk (s : ByteArray) (w : World) (hs : s.size ≤ 140737488355328) :
    Calls Try.prog 5 #[.string s] w fun e w' => e = .returned (.bool true) ∧ Below w.heap.size w w' := by
  cases hk : Lx.tokens s.data.toList with
  | error x =>
    obtain ⟨er, l, c⟩ := x
    have htk := tokens_err2 (w := w) hs hk
    clear hk
    go_enter Try.func5, Try.ntmps5
    go_wp2_with fail
    refine htk.mono ?_
    rintro e w1 ⟨v, e0, l0, c0, pa, cp, rfl, rfl, hr, ⟨hne, heq, _⟩, hb1⟩
    have B1 := hid (Blk.new w1 #[.int .i64 e0, .int .i64 l0, .int .i64 c0] 27)
    have Q1 := hid (bthen hb1 (balloc w1 (.cells #[.int .i64 e0, .int .i64 l0, .int .i64 c0] 27)))
    clear hr
    obtain ⟨b0, b1, b2, bf, bz⟩ := B1.out.three
    go_wp2_with fail
    refine (known_any _).mono ?_
    rintro e w6 ⟨rfl, hb6⟩
    go_wp2_with fail
    go_ret
    exact ⟨rfl, bthen Q1.out hb6⟩
  | ok ts =>
    have hbd := hid (Lx.tokens_bound hk)
    have hpl := hid (Lx.tokens_placed hk)
    have htk := tokens_ok (w := w) hs hk
    clear hk
    go_enter Try.func5, Try.ntmps5
    go_wp2_with fail
    refine htk.mono ?_
    rintro e w1 ⟨v, rfl, hr, hb1⟩
    have B1 := hid (Blk.new w1 #[.int .i64 0, .int .i64 0, .int .i64 0] 27)
    have hr1 := hid (hr.ext (balloc w1 (.cells #[.int .i64 0, .int .i64 0, .int .i64 0] 27)))
    have Q1 := hid (bthen hb1 (balloc w1 (.cells #[.int .i64 0, .int .i64 0, .int .i64 0] 27)))
    clear hr
    obtain ⟨b0, b1, b2, bf, bz⟩ := B1.out.three
    rcases tokRow_of hr1.out with ⟨rfl, rfl⟩ | ⟨g, off, cap, rfl, hg⟩
    · go_wp2_with fail
      go_loopw [5, 6] (fun u v wr => u = .int .i64 0 ∧ v = .int .i64 0 ∧ Below w.heap.size w wr) (fun _ _ _ => 0)
      case atStart => exact ⟨rfl, rfl, Q1.out⟩
      case round =>
        obtain ⟨rfl, rfl, hQ⟩ := hrel
        go_wp2_with fail
        refine (known_any _).mono ?_
        rintro e w6 ⟨rfl, hb6⟩
        go_wp2_with fail
        go_ret
        exact ⟨rfl, bthen hQ hb6⟩
    · have hg' := hid hg
      clear hg hr1
      go_wp2_with fail
      go_loopg [5, 6] (ts.length + 1) (fun k u v wr => ∃ (a i : Nat), u = .int .i64 a ∧ v = .int .i64 i ∧ k = ts.length + 1 - i ∧ i ≤ ts.length ∧ a ≤ s.size ∧ Lx.Placed s.data.toList a (ts.drop i) ∧ TokRow wr g off cap ts ∧ Below w.heap.size w wr)
      case atStart => exact ⟨0, 0, rfl, rfl, rfl, Nat.zero_le _, Nat.zero_le _, hpl.out, hg'.out, Q1.out⟩
      case round =>
        obtain ⟨a, i, rfl, rfl, hk, hi, ha, hP, hT, hQ⟩ := hrel
        have hP' := hid hP
        have hT' := hid hT
        have hQ' := hid hQ
        clear hP hT hQ
        by_cases hend : i < ts.length
        · obtain ⟨k, x, n, l, c, b, hAt, hab, hbl, hpos, hex0, hP2, hpb10, hpb20, hpne0⟩ := place_vals hP'.out hend
          have hAt' := hid hAt
          have hab' := hid hab
          have hex := hid hex0
          have hpb1 := hid hpb10
          have hpb2 := hid hpb20
          have hpne := hid hpne0
          have hP2' := hid hP2
          clear hAt hab hex0 hpb10 hpb20 hpne0 hP2
          go_wp2_with fail
          go_loopg [5] (b - a) (fun k u w2 => ∃ a' : Nat, u = .int .i64 a' ∧ a' ≤ b ∧ k = b - a' ∧ TokRow w2 g off cap ts ∧ Below w.heap.size w w2)
          case atStart => exact ⟨a, rfl, hab'.out, rfl, hT'.out, hQ'.out⟩
          case round =>
            obtain ⟨a', rfl, hle, hk2, hT2, hQ2⟩ := hrel
            have hA2 := hAt'.out _ _ _ _ hT2
            have hT2' := hid hT2
            have hQ2' := hid hQ2
            have cP : ∀ d os, Calls Try.prog 12 #[.string s, .int .i64 a'] (grow (redrawn wr d) os) fun e w'' => e = .returned (.agg #[.int .i64 (Lx.posOf (s.data.toList.take a')).1, .int .i64 (Lx.posOf (s.data.toList.take a')).2]) ∧ ∃ p : Regrown, w'' = grow (redrawn wr p.d) p.os :=
              fun d os => Calls.regrown_of (rplace_nat s a' _ (by omega) hs)
            have k3 := cell_regrown hA2.c3
            have k4 := cell_regrown hA2.c4
            have hg2 : ∀ d os, g < (grow (redrawn wr d) os).heap.size := fun d os => Nat.lt_of_lt_of_le hT2.lt (below_regrown wr d os).size
            have ha's : a' < s.size := by omega
            clear hT2 hQ2 hA2
            by_cases hbb : a' = b
            · subst hbb
              have hb1 := hpb1.out
              have hb2 := hpb2.out
              go_wp2_with fail
              refine wp_region_quiet_below (by kernel_rfl) (by kernel_rfl) ?_
              repeat (quiet_step (exact cP _ _))
              refine wpQuiet_nil ?_
              intro _ hw'
              obtain ⟨⟨dq, osq⟩, hw''⟩ := hw'
              subst hw''
              have hT3 := hid (tokRow_ext hT2'.out (below_regrown wr dq osq))
              have hA3 := hid (hAt'.out _ _ _ _ hT3.out)
              have hQ3 := hid (bthen hQ2'.out (below_regrown wr dq osq))
              have hA4 := hA3.out
              have hg3 := hT3.out.lt
              obtain ⟨c0, c1, c2, c3, c4⟩ := hA4
              clear k3 k4 hg2 cP
              go_wp2_with fail
              have z1 : ((x.size : Int) == 0) = false := by rw [beq_eq_false_iff_ne]; omega
              have z2 : IntKind.i64.wrap ((s.size : Int) - a') = (s.size : Int) - a' := IntWalk.i64_in _ (by omega)
              have z3 : decide ((s.size : Int) - a' < x.size) = false := decide_eq_false (by omega)
              have z4 : IntKind.i64.wrap ((a' : Int) + x.size) = (a' : Int) + x.size := IntWalk.i64_in _ (by omega)
              have z5 : ((a' : Int) + x.size).toNat = a' + x.size := by omega
              have z6 := hex.out
              have z7 : (a' : Int) + x.size ≤ s.size := by omega
              have z8 : (x.toList == x.toList) = true := BEq.rfl
              go_quiet (fail)
              have hbd1 := hbd.out.1
              have hT5 := hid (tokRow_ext hT3.out (bdrewN (Below.refl _ _) nq))
              go_wp2_with fail
              go_roundg (ts.length + 1 - (i + 1))
              case measure => omega
              case rel => exact ⟨a' + x.size, i + 1, by go_num, by go_num, rfl, by omega, by omega, hP2'.out, hT5.out, bdrewN hQ3.out nq⟩
            · rcases hpne.out a' (by omega) with hne1 | ⟨hne1, hne2⟩
              · go_wp2_with fail
                refine wp_region_quiet_below (by kernel_rfl) (by kernel_rfl) ?_
                repeat (quiet_step (exact cP _ _))
                refine wpQuiet_nil ?_
                intro _ hw'
                obtain ⟨⟨dq, osq⟩, hw''⟩ := hw'
                subst hw''
                have hT3 := hid (tokRow_ext hT2'.out (below_regrown wr dq osq))
                have hA3 := hid (hAt'.out _ _ _ _ hT3.out)
                have hQ3 := hid (bthen hQ2'.out (below_regrown wr dq osq))
                go_wp2_with fail
                go_roundg (b - (a' + 1))
                case measure => omega
                case rel => exact ⟨a' + 1, by go_num, by omega, rfl, hT3.out, hQ3.out⟩
              · go_wp2_with fail
                refine wp_region_quiet_below (by kernel_rfl) (by kernel_rfl) ?_
                repeat (quiet_step (exact cP _ _))
                refine wpQuiet_nil ?_
                intro _ hw'
                obtain ⟨⟨dq, osq⟩, hw''⟩ := hw'
                subst hw''
                have hT3 := hid (tokRow_ext hT2'.out (below_regrown wr dq osq))
                have hA3 := hid (hAt'.out _ _ _ _ hT3.out)
                have hQ3 := hid (bthen hQ2'.out (below_regrown wr dq osq))
                go_wp2_with fail
                go_roundg (b - (a' + 1))
                case measure => omega
                case rel => exact ⟨a' + 1, by go_num, by omega, rfl, hT3.out, hQ3.out⟩
        · obtain rfl : i = ts.length := by omega
          go_wp2_with fail
          refine (known_any _).mono ?_
          rintro e w6 ⟨rfl, hb6⟩
          go_wp2_with fail
          go_ret
          exact ⟨rfl, bthen hQ'.out hb6⟩

end Go.Proofs.Ytoegepgdfnokdaa
