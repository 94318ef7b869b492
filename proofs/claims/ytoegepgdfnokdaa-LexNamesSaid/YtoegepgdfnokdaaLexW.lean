/- The walks of known, Same. -/
import Derived.Test.YtoegepgdfnokdaaLexV
namespace Go.Proofs.Ytoegepgdfnokdaa
open Go.RowKit Go.Sort

/-- 'Tokens' where the plain lexer's answer is known -/
theorem tokens_ok {s : ByteArray} {w : World} {ts : List Lx.Tok} (hs : s.size ≤ 140737488355328) (hk : Lx.tokens s.data.toList = .ok ts) :
    Calls Try.prog 8 #[.string s] w fun e w' => ∃ v, e = .returned (.tuple #[v, .agg #[.int .i64 0, .int .i64 0, .int .i64 0]]) ∧ Row w' v ts.length 5 (toksCells ts) ∧ Below w.heap.size w w' :=
  (tokens_any s w hs).mono fun e w' ⟨h, hb⟩ => by
    unfold TokensPost at h; rw [hk] at h
    obtain ⟨v, he, hr⟩ := h
    exact ⟨v, he, hr, hb⟩
theorem tokens_err {s : ByteArray} {w : World} {er l c : Nat} (hs : s.size ≤ 140737488355328) (hk : Lx.tokens s.data.toList = .error (er, l, c)) :
    Calls Try.prog 8 #[.string s] w fun e w' => ∃ v, e = .returned (.tuple #[v, .agg #[.int .i64 er, .int .i64 l, .int .i64 c]]) ∧ Row w' v 0 5 [] ∧ Below w.heap.size w w' :=
  (tokens_any s w hs).mono fun e w' ⟨h, hb⟩ => by
    unfold TokensPost at h; rw [hk] at h
    obtain ⟨v, he, hr, _⟩ := h
    exact ⟨v, he, hr, hb⟩

def k1 : ByteArray := ⟨#[114, 111, 108, 101, 32, 110, 117, 114, 115, 101, 32, 61, 32, 51, 59]⟩
def k2 : ByteArray := ⟨#[32, 48, 48, 55]⟩
def k3 : ByteArray := ⟨#[49, 46, 46, 52]⟩
def t1 : List Lx.Tok := [⟨2, [114, 111, 108, 101], 0, 1, 1⟩, ⟨1, [110, 117, 114, 115, 101], 0, 1, 6⟩, ⟨4, [61], 0, 1, 12⟩, ⟨3, [51], 3, 1, 14⟩, ⟨4, [59], 0, 1, 15⟩]
def t3 : List Lx.Tok := [⟨3, [49], 1, 1, 1⟩, ⟨4, [46, 46], 0, 1, 2⟩, ⟨3, [52], 4, 1, 4⟩]
theorem tk1 : Lx.tokens k1.data.toList = .ok t1 := by rfl
theorem tk2 : Lx.tokens k2.data.toList = .error (10, 1, 2) := by rfl
theorem tk3 : Lx.tokens k3.data.toList = .ok t3 := by rfl

set_option maxHeartbeats 1000000 in
theorem known_any (w : World) : Calls Try.prog 10 #[] w fun e w' => e = .returned (.bool true) ∧ Below w.heap.size w w' := by
  go_enter Try.func10, Try.ntmps10
  go_wp2_with fail
  refine (tokens_ok (s := k1) (by decide) tk1).mono ?_
  rintro e w1 ⟨v1, rfl, hr1, hb1⟩
  have B1 := hid (Blk.new w1 #[.int .i64 0, .int .i64 0, .int .i64 0] 27)
  have hr1' := hid (hr1.ext (balloc w1 (.cells #[.int .i64 0, .int .i64 0, .int .i64 0] 27)))
  have Q1 := hid (bthen hb1 (balloc w1 (.cells #[.int .i64 0, .int .i64 0, .int .i64 0] 27)))
  clear hr1
  go_wp2_with fail
  refine (tokens_err (s := k2) (by decide) tk2).mono ?_
  rintro e w2 ⟨v2, rfl, hr2, hb2⟩
  have B2 := hid ((B1.out.ext hb2).ext (balloc w2 (.cells #[.int .i64 10, .int .i64 1, .int .i64 2] 27)))
  have C2 := hid (Blk.new w2 #[.int .i64 10, .int .i64 1, .int .i64 2] 27)
  have hr2' := hid ((hr1'.out.ext hb2).ext (balloc w2 (.cells #[.int .i64 10, .int .i64 1, .int .i64 2] 27)))
  have Q2 := hid (bthen (bthen Q1.out hb2) (balloc w2 (.cells #[.int .i64 10, .int .i64 1, .int .i64 2] 27)))
  clear hr2
  go_wp2_with fail
  refine (tokens_ok (s := k3) (by decide) tk3).mono ?_
  rintro e w3 ⟨v3, rfl, hr3, hb3⟩
  have B3 := hid (B2.out.ext hb3)
  have C3 := hid (C2.out.ext hb3)
  have hr3' := hid (hr2'.out.ext hb3)
  have Q3 := hid (bthen Q2.out hb3)
  obtain ⟨c0, c1, c2, cf, cz⟩ := B3.out.three
  obtain ⟨d0, d1, d2, df, dz⟩ := C3.out.three
  rcases tokRow_of (ts := t1) hr3'.out with ⟨_, h⟩ | ⟨g, off, cap, rfl, hg⟩
  · cases h
  rcases tokRow_of (ts := t3) hr3 with ⟨_, h⟩ | ⟨g3, off3, cap3, rfl, hg3⟩
  · cases h
  have e1 : w3.cell? ⟨g, off, none⟩ = some (.int .i64 2) := by simpa using hg.cell 0 (by decide) 0 (.int .i64 2) rfl
  have e2 : w3.cell? ⟨g, off + 5, none⟩ = some (.int .i64 1) := by simpa using hg.cell 1 (by decide) 0 (.int .i64 1) rfl
  have e3 : w3.cell? ⟨g, off + 15 + 2, none⟩ = some (.int .i64 3) := by simpa using hg.cell 3 (by decide) 2 (.int .i64 3) rfl
  have gz : g < w3.heap.size := hg.lt
  have l1 : t1.length = 5 := rfl
  have l3 : t3.length = 3 := rfl
  clear hr3 hg hg3 hr3'
  go_wp2_with fail
  go_ret
  exact ⟨rfl, bthen Q3.out (balloc _ _)⟩

def sameTok (at_ : Bool) (x y : Lx.Tok) : Bool := x.kind == y.kind && x.text == y.text && x.n == y.n && (!at_ || (x.line == y.line && x.col == y.col))
def sameToks (at_ : Bool) (a b : List Lx.Tok) : Bool := a.length == b.length && (a.zip b).all fun p => sameTok at_ p.1 p.2
theorem zip_take {at_ : Bool} {a b : List Lx.Tok} {i : Nat} (h1 : i < a.length) (h2 : i < b.length) (h : ((a.zip b).take i).all (fun p => sameTok at_ p.1 p.2) = true) (hs : sameTok at_ a[i] b[i] = true) :
    ((a.zip b).take (i + 1)).all (fun p => sameTok at_ p.1 p.2) = true := by
  have hl : i < (a.zip b).length := by rw [List.length_zip]; omega
  rw [List.take_succ_eq_append_getElem hl, List.all_append, h]
  simp [hs]
theorem zip_no {at_ : Bool} {a b : List Lx.Tok} {i : Nat} (h1 : i < a.length) (h2 : i < b.length) (hs : sameTok at_ a[i] b[i] = false) : sameToks at_ a b = false := by
  have hl : i < (a.zip b).length := by rw [List.length_zip]; omega
  unfold sameToks
  rw [Bool.and_eq_false_iff]
  refine Or.inr ?_
  rw [List.all_eq_false]
  exact ⟨_, List.getElem_mem hl, by simp [hs]⟩

/-- a token's cells, each by its own name -/
structure TokAt (w : World) (g o : Nat) (k : Int) (x : ByteArray) (n l c : Int) : Prop where
  c0 : w.cell? ⟨g, o, none⟩ = some (.int .i64 k)
  c1 : w.cell? ⟨g, o + 1, none⟩ = some (.string x)
  c2 : w.cell? ⟨g, o + 2, none⟩ = some (.int .i64 n)
  c3 : w.cell? ⟨g, o + 3, none⟩ = some (.int .i64 l)
  c4 : w.cell? ⟨g, o + 3 + 1, none⟩ = some (.int .i64 c)
theorem TokRow.at {w : World} {g off cap : Nat} {ts : List Lx.Tok} (h : TokRow w g off cap ts) {i : Nat} (hi : i < ts.length) :
    TokAt w g (off + i * 5) ts[i].kind ⟨ts[i].text.toArray⟩ ts[i].n ts[i].line ts[i].col :=
  ⟨h.cell i hi 0 _ rfl, h.cell i hi 1 _ rfl, h.cell i hi 2 _ rfl, h.cell i hi 3 _ rfl, h.cell i hi 4 _ rfl⟩
theorem sameTok_eq (at_ : Bool) (t u : Lx.Tok) : sameTok at_ t u = (!(((t.kind : Int) != u.kind) || !((ByteArray.mk t.text.toArray).toList == (ByteArray.mk u.text.toArray).toList) || ((t.n : Int) != u.n) || (at_ && !(((t.line : Int) == u.line) && ((t.col : Int) == u.col))))) := by
  have hk : ∀ a b : Nat, ((a : Int) != b) = !(a == b) := by intro a b; unfold bne; congr 1; rw [Bool.eq_iff_iff]; simp only [beq_iff_eq]; omega
  have hk2 : ∀ a b : Nat, ((a : Int) == b) = (a == b) := by intro a b; rw [Bool.eq_iff_iff]; simp only [beq_iff_eq]; omega
  unfold sameTok
  rw [hk, hk, hk2, hk2, ByteArray.toList_mk, ByteArray.toList_mk]
  cases (t.kind == u.kind) <;> cases (t.text == u.text) <;> cases (t.n == u.n) <;> cases at_ <;> cases (t.line == u.line) <;> cases (t.col == u.col) <;> rfl

theorem tok_vals {w : World} {ga oa ca gb ob cb : Nat} {ta tb : List Lx.Tok} (at_ : Bool) (ha : TokRow w ga oa ca ta) (hb : TokRow w gb ob cb tb) {i : Nat} (h1 : i < ta.length) (h2 : i < tb.length) :
    ∃ (ka : Int) (xa : ByteArray) (na la qa kb : Int) (xb : ByteArray) (nb lb qb : Int), TokAt w ga (oa + i * 5) ka xa na la qa ∧ TokAt w gb (ob + i * 5) kb xb nb lb qb ∧
      sameTok at_ ta[i] tb[i] = (!((ka != kb) || !(xa.toList == xb.toList) || (na != nb) || (at_ && !((la == lb) && (qa == qb))))) :=
  ⟨_, _, _, _, _, _, _, _, _, _, ha.at h1, hb.at h2, sameTok_eq _ _ _⟩

set_option maxHeartbeats 4000000 in
theorem same_any {va vb : Value} {ta tb : List Lx.Tok} {at_ : Bool} {w : World} (ha : Row w va ta.length 5 (toksCells ta)) (hb : Row w vb tb.length 5 (toksCells tb)) (hn : ta.length ≤ 1000000) (hm : tb.length ≤ 1000000) :
    Calls Try.prog 11 #[va, vb, .bool at_] w fun e w' => e = .returned (.bool (sameToks at_ ta tb)) ∧ Below w.heap.size w w' := by
  by_cases hl : ta.length = tb.length
  · rcases tokRow_of ha with ⟨rfl, rfl⟩ | ⟨ga, oa, capa, rfl, hra⟩
    · obtain rfl : tb = [] := List.eq_nil_of_length_eq_zero (by simpa using hl.symm)
      have hvb : ∃ a c, vb = .slice a 0 c := by
        rcases tokRow_of hb with ⟨rfl, _⟩ | ⟨g, o, c, rfl, _⟩
        · exact ⟨_, _, rfl⟩
        · exact ⟨_, _, rfl⟩
      obtain ⟨pa, pc, rfl⟩ := hvb
      clear ha hb hl
      go_enter Try.func11, Try.ntmps11
      go_wp2_with fail
      go_loop [7] (fun u => u = .int .i64 0) (fun _ => 0)
      case atStart => rfl
      case round =>
        subst hrel
        go_wp2_with fail
        go_ret
        exact ⟨rfl, Below.refl _ _⟩
    · rcases tokRow_of hb with ⟨rfl, rfl⟩ | ⟨gb, ob, capb, rfl, hrb⟩
      · have h0 : ta = [] := List.eq_nil_of_length_eq_zero (by simpa using hl)
        subst h0
        clear ha hb hl
        go_enter Try.func11, Try.ntmps11
        go_wp2_with fail
        go_loop [7] (fun u => u = .int .i64 0) (fun _ => 0)
        case atStart => rfl
        case round =>
          subst hrel
          go_wp2_with fail
          go_ret
          exact ⟨rfl, Below.refl _ _⟩
      · have hra' := hid hra
        have hrb' := hid hrb
        have hl' : tb.length = ta.length := hl.symm
        have hbeq : ((ta.length : Int) != tb.length) = false := by rw [hl']; simp
        clear ha hb hra hrb hl
        go_enter Try.func11, Try.ntmps11
        go_wp2_with fail
        go_loopw [7] (fun u wr => ∃ i : Nat, u = .int .i64 i ∧ i ≤ ta.length ∧ Below w.heap.size w wr ∧ ((ta.zip tb).take i).all (fun p => sameTok at_ p.1 p.2) = true) (fun u _ => ta.length - (intOf u).toNat)
        case atStart => exact ⟨0, rfl, Nat.zero_le _, Below.refl _ _, rfl⟩
        case round =>
          obtain ⟨i, rfl, hle, hQ, hall⟩ := hrel
          have hQ' := hid hQ
          have hall' := hid hall
          clear hQ hall
          by_cases hlt : i < ta.length
          · have hlt2 : i < tb.length := by omega
            obtain ⟨ka, xa, na, la, qa, kb, xb, nb, lb, qb, hA, hB, heq⟩ := tok_vals at_ hra'.out hrb'.out hlt hlt2
            have hA' := hid hA
            have hB' := hid hB
            have heq' := hid heq
            have hga := hra'.out.lt
            have hgb := hrb'.out.lt
            obtain ⟨hc, hf⟩ := bcell hQ'.out
            obtain ⟨a0, a1, a2, a3, a4⟩ := hA
            obtain ⟨b0, b1, b2, b3, b4⟩ := hB
            rw [← hc _ _ hga] at a0 a1 a2 a3 a4
            rw [← hc _ _ hgb] at b0 b1 b2 b3 b4
            clear heq hc hf
            cases c1 : (ka != kb) with
            | true =>
              go_wp2_with fail
              go_quiet (fail)
              go_wp2_with fail
              go_ret
              exact ⟨ret_bool (zip_no hlt hlt2 (by rw [heq'.out, c1]; rfl)).symm, bdrewN hQ'.out _⟩
            | false =>
              cases c2 : (xa.toList == xb.toList) with
              | false =>
                go_wp2_with fail
                go_quiet (fail)
                go_wp2_with fail
                go_ret
                exact ⟨ret_bool (zip_no hlt hlt2 (by rw [heq'.out, c1, c2]; rfl)).symm, bdrewN hQ'.out _⟩
              | true =>
                cases c3 : (na != nb) with
                | true =>
                  go_wp2_with fail
                  go_quiet (fail)
                  go_wp2_with fail
                  go_ret
                  exact ⟨ret_bool (zip_no hlt hlt2 (by rw [heq'.out, c1, c2, c3]; rfl)).symm, bdrewN hQ'.out _⟩
                | false =>
                  cases at_ with
                  | false =>
                    have hs := hid (zip_take hlt hlt2 hall'.out (by rw [heq'.out, c1, c2, c3]; rfl))
                    go_wp2_with fail
                    go_quiet (fail)
                    go_wp2_with fail
                    go_roundw
                    case rel => exact ⟨i + 1, by go_num, by omega, bdrewN hQ'.out _, hs.out⟩
                    case measure => simp [intOf]; omega
                  | true =>
                    cases c4 : (la == lb) with
                    | false =>
                      go_wp2_with fail
                      go_quiet (fail)
                      go_wp2_with fail
                      go_ret
                      exact ⟨ret_bool (zip_no hlt hlt2 (by rw [heq'.out, c1, c2, c3, c4]; rfl)).symm, bdrewN hQ'.out _⟩
                    | true =>
                      cases c5 : (qa == qb) with
                      | false =>
                        go_wp2_with fail
                        go_quiet (fail)
                        go_wp2_with fail
                        go_ret
                        exact ⟨ret_bool (zip_no hlt hlt2 (by rw [heq'.out, c1, c2, c3, c4, c5]; rfl)).symm, bdrewN hQ'.out _⟩
                      | true =>
                        have hs := hid (zip_take hlt hlt2 hall'.out (by rw [heq'.out, c1, c2, c3, c4, c5]; rfl))
                        go_wp2_with fail
                        go_quiet (fail)
                        go_wp2_with fail
                        go_roundw
                        case rel => exact ⟨i + 1, by go_num, by omega, bdrewN hQ'.out _, hs.out⟩
                        case measure => simp [intOf]; omega
          · obtain rfl : i = ta.length := by omega
            have hf := hid (show sameToks at_ ta tb = true by
              have h := hall'.out
              rw [List.take_of_length_le (by rw [List.length_zip]; omega)] at h
              unfold sameToks
              rw [h, hl']; simp)
            go_wp2_with fail
            go_ret
            exact ⟨ret_bool hf.out.symm, hQ'.out⟩
  · have hf := hid (show sameToks at_ ta tb = false by unfold sameToks; rw [beq_eq_false_iff_ne.2 hl]; rfl)
    have hbeq : ((ta.length : Int) != tb.length) = true := by rw [bne_iff_ne]; omega
    have hva : ∃ a c, va = .slice a ta.length c := by
      rcases tokRow_of ha with ⟨rfl, rfl⟩ | ⟨g, o, c, rfl, _⟩
      · exact ⟨_, _, rfl⟩
      · exact ⟨_, _, rfl⟩
    have hvb : ∃ a c, vb = .slice a tb.length c := by
      rcases tokRow_of hb with ⟨rfl, rfl⟩ | ⟨g, o, c, rfl, _⟩
      · exact ⟨_, _, rfl⟩
      · exact ⟨_, _, rfl⟩
    obtain ⟨pa, ca, rfl⟩ := hva
    obtain ⟨pb, cb, rfl⟩ := hvb
    clear ha hb hl
    go_enter Try.func11, Try.ntmps11
    go_wp2_with fail
    go_ret
    exact ⟨ret_bool hf.out.symm, Below.refl _ _⟩

end Go.Proofs.Ytoegepgdfnokdaa
