/-
  The form of declarations is read as it was, but for places; what is read may be. No program.
  What is read may be; the form, and what rules come of it, say nothing of places. No program.
-/
import Derived.Test.YtnoieobjfihbeaaDoorPk05
import Derived.Test.YtnoieobjfihbeaaDoorPk03
import Derived.Test.YtnoieobjfihbeaaDoorPk12

namespace Go.Proofs.YtnoieobjfihbeaaDoor.Pt
open Lx Po

abbrev rd (ts : List Tok) : Pr.R := ⟨ts, (0, 0, 0)⟩
theorem map_inv {ts : List Tok} {g : T3} {us : List T3} (h : ts.map strip = g :: us) : ∃ t ts', ts = t :: ts' ∧ t.kind = g.1 ∧ t.text = g.2.1 ∧ t.n = g.2.2 ∧ ts'.map strip = us := by
  cases ts with
  | nil => cases h
  | cons t ts =>
    rw [List.map_cons] at h
    have h1 := (List.cons.inj h).1
    exact ⟨t, ts, rfl, by rw [← h1]; rfl, by rw [← h1]; rfl, by rw [← h1]; rfl, (List.cons.inj h).2⟩
section
variable {e : Nat × Nat} {t : Tok} {ts : List Tok}
theorem is_yes {x : Bytes} (h : t.text = x) : Pr.is x (rd (t :: ts)) = true := by simp [Pr.is, h]
theorem is_no {x : Bytes} (h : t.text ≠ x) : Pr.is x (rd (t :: ts)) = false := by simp [Pr.is, h]
theorem want_ok {x : Bytes} (h : t.text = x) : Pr.want e x (rd (t :: ts)) = rd ts := by unfold Pr.want; rw [if_pos (is_yes h)]; rfl
theorem kind_ok {k : Nat} (h : t.kind = k) : Pr.kindIs k (rd (t :: ts)) = true := by simp [Pr.kindIs, h]
theorem ofS_ok {k : Nat} (h : t.kind = k) : Pr.ofS e k (rd (t :: ts)) = rd ts := by unfold Pr.ofS; rw [if_pos (kind_ok h)]; rfl
theorem ofT_ok {k : Nat} (h : t.kind = k) : Pr.ofT k (rd (t :: ts)) = t := by unfold Pr.ofT; rw [if_pos (kind_ok h)]; rfl
theorem txt_self (s : ByteArray) : txt s.data.toList = s := rfl
theorem nil_name {s : ByteArray} (h : s.data.toList = []) : s = ⟨#[]⟩ := by
  have := txt_self s
  rw [h] at this
  exact this.symm
theorem unW_mk {w : Who} {a : Bool} {nm : ByteArray} {n l c : Int} (h1 : a = w.any) (h2 : nm = w.name) (h3 : n = w.n) : unW ⟨a, nm, n, l, c⟩ = unW w := by
  obtain ⟨wa, wn, wk, wl, wc⟩ := w
  simp only at h1 h2 h3
  subst h1 h2 h3
  rfl
theorem num_nat {n : Int} (h : Ru.num n = true) : ((n.toNat : Nat) : Int) = n := by
  unfold Ru.num at h
  simp only [Bool.and_eq_true, decide_eq_true_eq] at h
  omega
theorem who_ok {w : Who} {z : Bytes} (h : Ru.rightW w = true) (h1 : t.kind = (whoG wAny w z).1.1) (h2 : t.text = (whoG wAny w z).1.2.1) (h3 : t.n = (whoG wAny w z).1.2.2) :
    Pr.whoS e wAny true (rd (t :: ts)) = rd ts ∧ unW (Pr.whoV e wAny true (rd (t :: ts))) = unW w := by
  unfold Ru.rightW at h
  unfold whoG at h1 h2 h3
  unfold Pr.whoS Pr.whoV
  split at h
  · rename_i ha
    rw [if_pos ha] at h1 h2 h3
    simp only [Bool.and_eq_true, beq_iff_eq] at h
    have hy := is_yes (ts := ts) h2
    simp only [wordG] at hy
    simp only [hy, ↓reduceIte]
    exact ⟨rfl, unW_mk ha.symm (nil_name h.1).symm h.2.symm⟩
  · rename_i ha
    have ha' : false = w.any := by simpa using ha
    rw [if_neg ha] at h1 h2 h3
    by_cases he : w.name.data.toList = []
    · rw [if_pos he] at h1 h2 h3
      rw [if_pos (by rw [he]; rfl)] at h
      have hx : t.text ≠ wAny := by rw [h2]; exact itoa_word h (by decide)
      have hk : t.kind = 3 := h1
      have hh : Pr.headName (rd (t :: ts)) = false := by simp [Pr.headName, hk]
      simp only [is_no hx, hh, ofS_ok hk, ofT_ok hk, h3, Bool.false_eq_true, ↓reduceIte, Bool.true_and, Bool.not_false]
      exact ⟨trivial, unW_mk ha' (nil_name he).symm (num_nat h)⟩
    · rw [if_neg he] at h1 h2 h3
      rw [if_neg (by simpa using he)] at h
      simp only [Bool.and_eq_true, beq_iff_eq] at h
      have hx : t.text ≠ wAny := by rw [h2]; exact name_word h.2 (by decide)
      have hk : t.kind = 1 := h1
      have hh : Pr.headName (rd (t :: ts)) = true := by simp [Pr.headName, hk]
      simp only [is_no hx, hh, ofS_ok hk, ofT_ok hk, h2, Bool.false_eq_true, ↓reduceIte, Bool.true_and, Bool.not_true]
      exact ⟨trivial, unW_mk ha' (txt_self _) h.1.symm⟩
theorem where_ok {w : Who} {z : Bytes} (h : Ru.placeW w = true) (h1 : t.kind = (whoG wAll w z).1.1) (h2 : t.text = (whoG wAll w z).1.2.1) (_h3 : t.n = (whoG wAll w z).1.2.2) :
    Pr.whoS e wAll false (rd (t :: ts)) = rd ts ∧ unW (Pr.whoV e wAll false (rd (t :: ts))) = unW w := by
  have h0 : (w.any || w.name.data.toList != []) = true := by unfold Ru.placeW at h; simp only [Bool.and_eq_true] at h; exact h.2
  have h := place_right h
  unfold Ru.rightW at h
  unfold whoG at h1 h2
  unfold Pr.whoS Pr.whoV
  split at h
  · rename_i ha
    rw [if_pos ha] at h1 h2
    simp only [Bool.and_eq_true, beq_iff_eq] at h
    have hy := is_yes (ts := ts) h2
    simp only [wordG] at hy
    simp only [hy, ↓reduceIte]
    exact ⟨rfl, unW_mk ha.symm (nil_name h.1).symm h.2.symm⟩
  · rename_i ha
    have ha' : false = w.any := by simpa using ha
    rw [← ha'] at h0
    have he : ¬ w.name.data.toList = [] := by simpa using h0
    rw [if_neg ha] at h1 h2
    rw [if_neg he] at h1 h2
    rw [if_neg (by simpa using he)] at h
    simp only [Bool.and_eq_true, beq_iff_eq] at h
    have hx : t.text ≠ wAll := by rw [h2]; exact name_word h.2 (by decide)
    have hk : t.kind = 1 := h1
    simp only [is_no hx, ofS_ok hk, ofT_ok hk, h2, Bool.false_eq_true, ↓reduceIte, Bool.false_and]
    exact ⟨trivial, unW_mk ha' (txt_self _) h.1.symm⟩
theorem tiers_ok {lo hi : Int} {z x : Bytes} {us : List T3} {k n : Nat} (h1 : Ru.num lo = true) (h2 : Ru.num hi = true) (hx : x ≠ [46, 46]) (h : ts.map strip = (tiersG lo hi z).map (·.1) ++ (k, x, n) :: us) :
    ∃ ts', Pr.tiersS e (rd ts) = rd ts' ∧ ts'.map strip = (k, x, n) :: us ∧ (Pr.loV (rd ts) : Int) = lo ∧ (Pr.hiV e (rd ts) : Int) = hi := by
  unfold tiersG at h
  unfold Pr.tiersS Pr.loV Pr.hiV
  split at h
  · rename_i h07
    obtain ⟨t, ts', rfl, a1, a2, a3, a4⟩ := map_inv h
    have hy := is_yes (ts := ts') a2
    simp only [wordG] at hy
    simp only [hy, ↓reduceIte]
    exact ⟨ts', rfl, a4, h07.1.symm, h07.2.symm⟩
  · split at h
    · rename_i heq
      obtain ⟨t, ts', rfl, a1, a2, a3, a4⟩ := map_inv h
      have a4 : ts'.map strip = (k, x, n) :: us := a4
      have hx2 : t.text ≠ wAny := by rw [a2]; exact itoa_word h1 (by decide)
      have hk : t.kind = 3 := a1
      obtain ⟨u, us', rfl, b1, b2, b3, b4⟩ := map_inv a4
      have hd : Pr.is [46, 46] (rd (u :: us')) = false := is_no (by rw [b2]; exact hx)
      have en : t.n = lo.toNat := a3
      simp only [is_no hx2, ofS_ok hk, hd, ofT_ok hk, en, Bool.false_eq_true, ↓reduceIte]
      exact ⟨_, rfl, a4, num_nat h1, by rw [num_nat h1, heq]⟩
    · obtain ⟨t, ts', rfl, a1, a2, a3, a4⟩ := map_inv h
      obtain ⟨u, us', rfl, b1, b2, b3, b4⟩ := map_inv a4
      obtain ⟨v, vs', rfl, c1, c2, c3, c4⟩ := map_inv b4
      have hx2 : t.text ≠ wAny := by rw [a2]; exact itoa_word h1 (by decide)
      have hk : t.kind = 3 := a1
      have hd : Pr.is [46, 46] (rd (u :: v :: vs')) = true := is_yes b2
      have hk3 : v.kind = 3 := c1
      have en : t.n = lo.toNat := a3
      have ev : v.n = hi.toNat := c3
      have eo : Pr.on (rd (u :: v :: vs')) = rd (v :: vs') := rfl
      simp only [is_no hx2, ofS_ok hk, hd, ofT_ok hk, eo, ofS_ok hk3, ofT_ok hk3, en, ev, Bool.false_eq_true, ↓reduceIte]
      exact ⟨_, rfl, c4, num_nat h1, num_nat h2⟩
theorem box_ok {b : Box} {z : Bytes} {us : List T3} (hb : Ru.boxN b = true) (h : ts.map strip = (boxG b z).map (·.1) ++ us) :
    ∃ ts', Pr.four e (rd ts) = rd ts' ∧ ts'.map strip = us ∧ Pr.boxV e (rd ts) = b ∧ ts.length = 4 + ts'.length := by
  simp only [Ru.boxN, Bool.and_eq_true] at hb
  obtain ⟨t, ts', rfl, a1, a2, a3, a4⟩ := map_inv h
  obtain ⟨u, us', rfl, b1, b2, b3, b4⟩ := map_inv a4
  obtain ⟨v, vs', rfl, c1, c2, c3, c4⟩ := map_inv b4
  obtain ⟨x, xs', rfl, d1, d2, d3, d4⟩ := map_inv c4
  refine ⟨xs', ?_, d4, ?_, by simp only [List.length_cons]; omega⟩
  · unfold Pr.four
    rw [ofS_ok (show t.kind = 3 from a1), ofS_ok (show u.kind = 3 from b1), ofS_ok (show v.kind = 3 from c1), ofS_ok (show x.kind = 3 from d1)]
  · unfold Pr.boxV
    rw [ofS_ok (show t.kind = 3 from a1), ofS_ok (show u.kind = 3 from b1), ofS_ok (show v.kind = 3 from c1), ofT_ok (show t.kind = 3 from a1), ofT_ok (show u.kind = 3 from b1), ofT_ok (show v.kind = 3 from c1), ofT_ok (show x.kind = 3 from d1), show t.n = b.x0.toNat from a3, show u.n = b.y0.toNat from b3, show v.n = b.x1.toNat from c3, show x.n = b.y1.toNat from d3, num_nat hb.1.1.1, num_nat hb.1.1.2, num_nat hb.1.2, num_nat hb.2]
def plusT (b : Box) : List T3 := (4, [43], 0) :: (boxG b []).map (·.1)
theorem boxG_map (b : Box) (z : Bytes) : (boxG b z).map (·.1) = (boxG b []).map (·.1) := rfl
theorem boxesG_map (l : List Box) : ∀ b : Box, (boxesG b l).map (·.1) = (boxG b []).map (·.1) ++ l.flatMap plusT := by
  induction l with
  | nil => intro b; unfold boxesG; simp
  | cons c l ih =>
    intro b
    unfold boxesG
    rw [List.map_append, List.map_cons, ih c, boxG_map, List.flatMap_cons]
    rfl
theorem more_ok (us : List T3) (l : List Box) : ∀ (f : Nat) (ts : List Tok), (∀ b ∈ l, Ru.boxN b = true) → ts.map strip = l.flatMap plusT ++ (4, [59], 0) :: us → ts.length < f →
    ∃ ts', Pr.moreS e f (rd ts) = rd ts' ∧ ts'.map strip = (4, [59], 0) :: us ∧ Pr.moreV e f (rd ts) = l := by
  induction l with
  | nil =>
    intro f ts _ h hf
    obtain ⟨f, rfl⟩ : ∃ g, f = g + 1 := ⟨f - 1, by omega⟩
    have h : ts.map strip = (4, [59], 0) :: us := h
    obtain ⟨t, ts', rfl, a1, a2, a3, a4⟩ := map_inv h
    have hn : Pr.is [43] (rd (t :: ts')) = false := is_no (by rw [a2]; decide)
    unfold Pr.moreS Pr.moreV
    rw [if_neg (by rw [hn]; decide), if_neg (by rw [hn]; decide)]
    exact ⟨_, rfl, h, rfl⟩
  | cons b l ih =>
    intro f ts hb h hf
    obtain ⟨f, rfl⟩ : ∃ g, f = g + 1 := ⟨f - 1, by omega⟩
    rw [List.flatMap_cons, List.append_assoc] at h
    obtain ⟨t, ts', rfl, a1, a2, a3, a4⟩ := map_inv h
    have hy : Pr.is [43] (rd (t :: ts')) = true := is_yes a2
    have eo : Pr.on (rd (t :: ts')) = rd ts' := rfl
    obtain ⟨ts2, b1, b2, b3, b4⟩ := box_ok (e := e) (hb b List.mem_cons_self) (z := []) (us := l.flatMap plusT ++ (4, [59], 0) :: us) (by rw [a4]; rfl)
    simp only [List.length_cons] at hf
    obtain ⟨ts3, c1, c2, c3⟩ := ih f ts2 (fun x hx => hb x (List.mem_cons_of_mem _ hx)) b2 (by omega)
    unfold Pr.moreS Pr.moreV
    rw [if_pos hy, if_pos hy, eo, b1, b3, c1, c3]
    exact ⟨_, rfl, c2, rfl⟩
theorem boxes_ok {us : List T3} {l : List Box} (h0 : l ≠ []) (hb : ∀ b ∈ l, Ru.boxN b = true) (h : ts.map strip = (boxesG0 l).map (·.1) ++ (4, [59], 0) :: us) :
    ∃ ts', Pr.boxesS e (rd ts) = rd ts' ∧ ts'.map strip = (4, [59], 0) :: us ∧ Pr.boxesV e (rd ts) = l := by
  cases l with
  | nil => exact absurd rfl h0
  | cons b l =>
    rw [show boxesG0 (b :: l) = boxesG b l from rfl, boxesG_map, List.append_assoc] at h
    obtain ⟨ts2, b1, b2, b3, b4⟩ := box_ok (e := e) (hb b List.mem_cons_self) h
    obtain ⟨ts3, c1, c2, c3⟩ := more_ok (e := e) us l (ts.length + 1) ts2 (fun x hx => hb x (List.mem_cons_of_mem _ hx)) b2 (by omega)
    unfold Pr.boxesS Pr.boxesV
    rw [b1, b3]
    exact ⟨ts3, c1, c2, by rw [c3]⟩

theorem unD_eq {a b : Decl} (h1 : a.kind = b.kind) (h2 : a.name = b.name) (h3 : a.n = b.n) (h4 : a.boxes = b.boxes) (h5 : unW a.role = unW b.role) (h6 : a.lo = b.lo) (h7 : a.hi = b.hi) (h8 : unW a.label = unW b.label) (h9 : unW a.place = unW b.place) (h10 : a.zoom = b.zoom) : unD a = unD b := by
  cases a
  cases b
  simp only at h1 h2 h3 h4 h5 h6 h7 h8 h9 h10
  subst h1 h2 h3 h4 h6 h7 h10
  unfold unD
  simp only [h5, h8, h9]
theorem unW_zero {w : Who} (h : Ru.zeroW w = true) : unW zeroWho = unW w := by
  unfold Ru.zeroW at h
  simp only [Bool.and_eq_true, Bool.not_eq_true', beq_iff_eq] at h
  exact unW_mk h.1.1.symm (nil_name h.1.2).symm h.2.symm
theorem noRule_eq {d : Decl} (h : Ru.noRule d = true) : 0 = d.lo ∧ 0 = d.hi ∧ 0 = d.zoom ∧ unW zeroWho = unW d.label ∧ unW zeroWho = unW d.place := by
  unfold Ru.noRule at h
  simp only [Bool.and_eq_true, beq_iff_eq] at h
  exact ⟨h.1.1.1.1.symm, h.1.1.1.2.symm, h.1.1.2.symm, unW_zero h.1.2, unW_zero h.2⟩
theorem kindOf_ok {k : Int} (h1 : 1 ≤ k) (h6 : k ≤ 6) (h : t.text = firstB k) : (Pr.kindOf (rd (t :: ts)) : Int) = k := by
  have hk : k = 1 ∨ k = 2 ∨ k = 3 ∨ k = 4 ∨ k = 5 ∨ k = 6 := by omega
  unfold Pr.kindOf
  rcases hk with rfl | rfl | rfl | rfl | rfl | rfl
  all_goals
    have h : t.text = _ := h
    simp only [Pr.is, h]
    decide
theorem decl_ok {d : Decl} {us : List T3} (hm : Ru.may d = true) (h : ts.map strip = (declG d).map (·.1) ++ us) :
    ∃ ts', Pr.declS e (rd ts) = rd ts' ∧ ts'.map strip = us ∧ unD (Pr.declV e (rd ts)) = unD d ∧ ts'.length < ts.length := by
  have hm' := may_cases hm
  have hk16 : 1 ≤ d.kind ∧ d.kind ≤ 6 := by cases hm' <;> omega
  unfold declG at h
  rw [List.map_cons, List.map_append, List.cons_append, List.append_assoc] at h
  obtain ⟨t, ts', rfl, a1, a2, a3, a4⟩ := map_inv h
  have hend : ∀ {ts4 : List Tok}, ts4.map strip = (4, [59], 0) :: us → ∃ ts5, Pr.want e [59] (rd ts4) = rd ts5 ∧ ts5.map strip = us := fun h4 => by
    obtain ⟨t4, ts5, rfl, e1, e2, e3, e4⟩ := map_inv h4
    exact ⟨ts5, want_ok e2, e4⟩
  have hlen : ∀ {ts4 : List Tok}, ts4.map strip = us → ts4.length < (t :: ts').length := fun h4 => by
    have l4 := congrArg List.length h4
    have l1 := congrArg List.length a4
    simp only [List.length_map, List.length_append, List.length_cons] at l4 l1 ⊢
    omega
  have ek := kindOf_ok (ts := ts') hk16.1 hk16.2 a2
  have eo : Pr.on (rd (t :: ts')) = rd ts' := rfl
  have a4 : ts'.map strip = (restG d).map (·.1) ++ ((4, [59], 0) :: us) := a4
  clear h a1 a2 a3
  unfold restG at a4
  unfold Pr.declS Pr.declV
  cases hm' with
  | named hk hn hi hb hr hz =>
    have kk0 : ¬ Pr.kindOf (rd (t :: ts')) = 0 := by omega
    have kk1 : Pr.kindOf (rd (t :: ts')) ≤ 2 := by omega
    rw [if_pos hk] at a4
    obtain ⟨u, us', rfl, b1, b2, b3, b4⟩ := map_inv a4
    obtain ⟨v, vs', rfl, c1, c2, c3, c4⟩ := map_inv b4
    obtain ⟨x, xs', rfl, d1, d2, d3, d4⟩ := map_inv c4
    obtain ⟨ts5, e1, e2⟩ := hend d4
    have hnm : Pr.named e (rd (t :: u :: v :: x :: xs')) = rd (x :: xs') := by
      unfold Pr.named
      rw [eo, ofS_ok (show u.kind = 1 from b1), want_ok (show v.text = [61] from c2)]
    obtain ⟨z1, z2, z3, z4, z5⟩ := noRule_eq hz
    simp only [if_neg kk0, if_pos kk1]
    rw [hnm, ofS_ok (show x.kind = 3 from d1), eo, ofT_ok (show u.kind = 1 from b1), ofT_ok (show x.kind = 3 from d1), show x.n = d.n.toNat from d3, show u.text = d.name.data.toList from b2, e1]
    exact ⟨ts5, rfl, e2, unD_eq ek (txt_self _) (num_nat hi) hb.symm (unW_zero hr) z1 z2 z4 z5 z3, hlen e2⟩
  | region hk hn hi hb h0 hr hz =>
    have kk0 : ¬ Pr.kindOf (rd (t :: ts')) = 0 := by omega
    have kk1 : ¬ Pr.kindOf (rd (t :: ts')) ≤ 2 := by omega
    have kk2 : Pr.kindOf (rd (t :: ts')) = 3 := by omega
    rw [if_neg (by omega), if_pos hk] at a4
    obtain ⟨u, us', rfl, b1, b2, b3, b4⟩ := map_inv a4
    obtain ⟨v, vs', rfl, c1, c2, c3, c4⟩ := map_inv b4
    obtain ⟨ts4, f1, f2, f3⟩ := boxes_ok (e := e) h0 hb c4
    obtain ⟨ts5, e1, e2⟩ := hend f2
    have hnm : Pr.named e (rd (t :: u :: v :: vs')) = rd vs' := by
      unfold Pr.named
      rw [eo, ofS_ok (show u.kind = 1 from b1), want_ok (show v.text = [61] from c2)]
    obtain ⟨z1, z2, z3, z4, z5⟩ := noRule_eq hz
    simp only [if_neg kk0, if_neg kk1, if_pos kk2]
    rw [hnm, f1, f3, eo, ofT_ok (show u.kind = 1 from b1), show u.text = d.name.data.toList from b2, e1]
    exact ⟨ts5, rfl, e2, unD_eq ek (txt_self _) hi.symm rfl (unW_zero hr) z1 z2 z4 z5 z3, hlen e2⟩
  | rule hk hn hi hb hr h1 h2 h3 hl hp =>
    have kk0 : ¬ Pr.kindOf (rd (t :: ts')) = 0 := by omega
    have kk1 : ¬ Pr.kindOf (rd (t :: ts')) ≤ 2 := by omega
    have kk2 : ¬ Pr.kindOf (rd (t :: ts')) = 3 := by omega
    have kk3 : ¬ Pr.kindOf (rd (t :: ts')) = 6 := by omega
    rw [if_neg (by omega), if_neg (by omega), if_neg (by omega)] at a4
    obtain ⟨u, us', rfl, b1, b2, b3, b4⟩ := map_inv a4
    obtain ⟨v, vs', rfl, c1, c2, c3, c4⟩ := map_inv b4
    obtain ⟨x, xs', rfl, d1, d2, d3, d4⟩ := map_inv c4
    rw [List.map_append] at d4
    have d4 : xs'.map strip = ((tiersG d.lo d.hi bl).map (·.1) ++ _) ++ _ := d4
    rw [List.append_assoc] at d4
    obtain ⟨y, f1, f2, f3, f4⟩ := tiers_ok (e := e) h1 h2 (k := 2) (x := wLabel) (n := 0) (by decide) d4
    obtain ⟨p, ps', rfl, g1, g2, g3, g4⟩ := map_inv f2
    obtain ⟨q, qs', rfl, i1, i2, i3, i4⟩ := map_inv g4
    obtain ⟨r, rs', rfl, j1, j2, j3, j4⟩ := map_inv i4
    obtain ⟨m, ms', rfl, k1, k2, k3, k4⟩ := map_inv j4
    obtain ⟨o, os', rfl, l1, l2, l3, l4⟩ := map_inv k4
    obtain ⟨z, zs', rfl, m1, m2, m3, m4⟩ := map_inv l4
    obtain ⟨ts5, e1, e2⟩ := hend m4
    have w1 := who_ok (e := e) (ts := x :: xs') hr c1 c2 c3
    have w2 := who_ok (e := e) (ts := r :: m :: o :: z :: zs') hl i1 i2 i3
    have w3 := where_ok (e := e) (ts := o :: z :: zs') hp k1 k2 k3
    have s1 : Pr.ru1 e (rd (u :: v :: x :: xs')) = rd (v :: x :: xs') := want_ok b2
    have s2 : Pr.ru2 e (rd (u :: v :: x :: xs')) = rd (x :: xs') := by unfold Pr.ru2; rw [s1]; exact w1.1
    have s3 : Pr.ru3 e (rd (u :: v :: x :: xs')) = rd xs' := by unfold Pr.ru3; rw [s2]; exact want_ok d2
    have s4 : Pr.ru4 e (rd (u :: v :: x :: xs')) = rd (q :: r :: m :: o :: z :: zs') := by unfold Pr.ru4; rw [s3, f1]; exact want_ok g2
    have s5 : Pr.ru5 e (rd (u :: v :: x :: xs')) = rd (m :: o :: z :: zs') := by unfold Pr.ru5; rw [s4, w2.1]; exact want_ok j2
    have s6 : Pr.ru6 e (rd (u :: v :: x :: xs')) = rd (z :: zs') := by unfold Pr.ru6; rw [s5, w3.1]; exact want_ok l2
    simp only [if_neg kk0, if_neg kk1, if_neg kk2, if_neg kk3]
    rw [eo]
    unfold Pr.ruleS Pr.ruleV
    rw [s1, s3, s4, s5, s6, ofS_ok (show z.kind = 3 from m1), ofT_ok (show z.kind = 3 from m1), show z.n = d.zoom.toNat from m3, e1]
    exact ⟨ts5, rfl, e2, unD_eq ek (nil_name hn).symm hi.symm hb.symm w1.2 f3 f4 w2.2 w3.2 (num_nat h3), hlen e2⟩
  | cloak hk hn hi hb hr hz =>
    have kk0 : ¬ Pr.kindOf (rd (t :: ts')) = 0 := by omega
    have kk1 : ¬ Pr.kindOf (rd (t :: ts')) ≤ 2 := by omega
    have kk2 : ¬ Pr.kindOf (rd (t :: ts')) = 3 := by omega
    have kk3 : Pr.kindOf (rd (t :: ts')) = 6 := by omega
    rw [if_neg (by omega), if_neg (by omega), if_pos hk] at a4
    obtain ⟨u, us', rfl, b1, b2, b3, b4⟩ := map_inv a4
    obtain ⟨v, vs', rfl, c1, c2, c3, c4⟩ := map_inv b4
    obtain ⟨ts5, e1, e2⟩ := hend c4
    have w1 := who_ok (e := e) (ts := vs') hr c1 c2 c3
    have s1 : Pr.want e wRole (rd (u :: v :: vs')) = rd (v :: vs') := want_ok b2
    obtain ⟨z1, z2, z3, z4, z5⟩ := noRule_eq hz
    simp only [if_neg kk0, if_neg kk1, if_neg kk2, if_pos kk3]
    rw [eo, s1, w1.1, e1]
    exact ⟨ts5, rfl, e2, unD_eq ek (nil_name hn).symm hi.symm hb.symm w1.2 z1 z2 z4 z5 z3, hlen e2⟩
theorem all_ok (l : List Decl) : ∀ (f : Nat) (ts : List Tok), (∀ d ∈ l, Ru.may d = true) → ts.map strip = (allG l).map (·.1) → ts.length < f →
    (Pr.parseS e f (rd ts)).f = (0, 0, 0) ∧ (Pr.parseV e f (rd ts)).map unD = l.map unD := by
  induction l with
  | nil =>
    intro f ts _ h hf
    obtain ⟨f, rfl⟩ : ∃ g, f = g + 1 := ⟨f - 1, by omega⟩
    have h0 : ts = [] := by simpa [allG] using h
    subst h0
    exact ⟨rfl, rfl⟩
  | cons d l ih =>
    intro f ts hm h hf
    obtain ⟨f, rfl⟩ : ∃ g, f = g + 1 := ⟨f - 1, by omega⟩
    unfold allG at h
    rw [List.flatMap_cons, List.map_append] at h
    obtain ⟨ts2, b1, b2, b3, b4⟩ := decl_ok (e := e) (hm d List.mem_cons_self) h
    have hc : (rd ts).l ≠ [] ∧ (rd ts).f.1 = 0 := ⟨fun h0 => by have h0 : ts = [] := h0; rw [h0] at b4; simp at b4, rfl⟩
    obtain ⟨c1, c2⟩ := ih f ts2 (fun x hx => hm x (List.mem_cons_of_mem _ hx)) b2 (by omega)
    unfold Pr.parseS Pr.parseV
    rw [if_pos hc, if_pos hc, b1, List.map_cons, c2, b3]
    exact ⟨c1, rfl⟩
end
/-- what may be is written, and read as it was, but for places -/
theorem parse_print {l : List Decl} (hm : ∀ d ∈ l, Ru.may d = true) (hn : (l.flatMap lineB).length ≤ 512) : ∃ ds, parse (l.flatMap lineB) = .ok ds ∧ ds.map unD = l.map unD := by
  obtain ⟨T, h1, h2⟩ := tokens_print hm hn
  obtain ⟨a1, a2⟩ := all_ok (e := posOf (l.flatMap lineB)) l (T.length + 1) T hm h2 (by omega)
  obtain ⟨b1, b2⟩ := rparse_eq T (posOf (l.flatMap lineB)) (T.length + 1)
  have h0 : (parseS T (posOf (l.flatMap lineB)) (T.length + 1) st0).f.1 = 0 := by rw [← b1]; rw [show (⟨T, (0, 0, 0)⟩ : Pr.R) = rd T from rfl, a1]
  rw [parse_T h1, if_pos h0]
  exact ⟨_, rfl, by rw [← b2 h0]; exact a2⟩
theorem parse_long {L : Bytes} (h : 512 < L.length) : parse L = .error (2, 1, 1) := by
  unfold parse tokens
  rw [if_pos h]

end Go.Proofs.YtnoieobjfihbeaaDoor.Pt

namespace Go.Proofs.YtnoieobjfihbeaaDoor.Pt
open Lx Po

/-! ### what is read may be -/
def TokOk (t : Tok) : Prop := (t.kind = 1 → isName t.text = true) ∧ t.n ≤ 65535
theorem tok_ok {l : Bytes} {k n : Nat} {w : Bytes} (h : tok l = .ok (k, w, n)) : (k = 1 → isName w = true) ∧ n ≤ 65535 := by
  cases l with
  | nil => cases h
  | cons c l =>
    rw [tok_cons] at h
    by_cases h1 : letter c = true
    · rw [if_pos h1] at h
      split at h
      · cases h
      · rename_i h2
        have hw : (c :: l).takeWhile inner = c :: l.takeWhile inner := List.takeWhile_cons_of_pos (by simp [inner, h1])
        have ha := all_takeWhile inner (c :: l)
        generalize (c :: l).takeWhile inner = x at *
        subst hw
        have := Except.ok.inj h
        simp only [Prod.mk.injEq] at this
        obtain ⟨rfl, rfl, rfl⟩ := this
        refine ⟨fun hk => ?_, by omega⟩
        have hnw : isWord (c :: l.takeWhile inner) = false := by
          cases hw : isWord (c :: l.takeWhile inner) with
          | false => rfl
          | true => rw [hw] at hk; cases hk
        unfold isName
        simp only [Bool.and_eq_true, decide_eq_true_eq]
        exact ⟨⟨⟨by omega, h1⟩, ha⟩, by rw [hnw]; rfl⟩
    · rw [if_neg h1] at h
      split at h
      · split at h
        · cases h
        · rename_i m hm
          have := Except.ok.inj h
          simp only [Prod.mk.injEq] at this
          obtain ⟨rfl, rfl, rfl⟩ := this
          refine ⟨(fun hk => by cases hk), ?_⟩
          unfold number at hm
          split at hm
          · cases hm
          · rename_i hn
            have := Option.some.inj hm
            have : ¬ 65535 < numAcc 0 ((c :: l).takeWhile digit) := fun x => hn (.inr x)
            omega
      · split at h
        · have := Except.ok.inj h
          simp only [Prod.mk.injEq] at this
          obtain ⟨rfl, rfl, rfl⟩ := this
          exact ⟨(fun hk => by cases hk), by omega⟩
        · split at h
          · have := Except.ok.inj h
            simp only [Prod.mk.injEq] at this
            obtain ⟨rfl, rfl, rfl⟩ := this
            exact ⟨(fun hk => by cases hk), by omega⟩
          · cases h
theorem toks_good (L : Bytes) (f : Nat) : ∀ (i : Nat) (ts : List Tok), toks L f i = .ok ts → ∀ t ∈ ts, TokOk t := by
  induction f with
  | zero => intro i ts h t ht; cases h; simp at ht
  | succ f ih =>
    intro i ts h t ht
    simp only [toks] at h
    split at h
    · cases h; simp at ht
    · split at h
      · cases h
      · rename_i k w n hk
        cases hr : toks L f (i + skipN false (L.drop i) + w.length) with
        | error x => rw [hr] at h; cases h
        | ok us =>
          rw [hr] at h
          have h := Except.ok.inj h
          subst h
          rcases List.mem_cons.1 ht with rfl | ht
          · exact tok_ok hk
          · exact ih _ us hr t ht
theorem tokens_good {L : Bytes} {ts : List Tok} (h : tokens L = .ok ts) : ∀ t ∈ ts, TokOk t := by
  unfold tokens at h
  split at h
  · cases h
  · exact toks_good L _ 0 ts h

theorem txt_list (l : Bytes) : (txt l).data.toList = l := by simp [txt]
section
variable {T : List Tok} {e : Nat × Nat} {st : St} (hT : ∀ t ∈ T, TokOk t)
include hT
theorem num_tok (k : Nat) (st : St) : Ru.num ((takeTok T k st).n : Int) = true := by
  have h : (takeTok T k st).n ≤ 65535 := by
    unfold takeTok
    split
    · cases hi : T[st.at_]? with
      | none => exact Nat.zero_le _
      | some t => exact (hT t (List.mem_of_getElem? hi)).2
    · exact Nat.zero_le _
  unfold Ru.num
  simp only [Bool.and_eq_true, decide_eq_true_eq]
  omega
theorem name_tok (h : kindIs T 1 st = true) : isName (takeTok T 1 st).text = true := by
  unfold takeTok
  rw [if_pos h]
  unfold kindIs at h
  cases hi : T[st.at_]? with
  | none => rw [hi] at h; simp at h
  | some t =>
    rw [hi] at h
    simp only [Bool.and_eq_true, beq_iff_eq] at h
    exact (hT t (List.mem_of_getElem? hi)).1 h.2
omit hT in
theorem name_ne {x : Bytes} (h : isName x = true) : (x == []) = false := by
  cases x with
  | nil => cases h
  | cons c l => rfl
theorem who_right (_h : (whoS T e st).f.1 = 0) : Ru.rightW (whoV T e st) = true := by
  unfold whoV
  split
  · rfl
  · split
    · rename_i h2
      have hn := name_tok hT h2
      unfold Ru.rightW
      simp only [txt_list, Bool.false_eq_true, ↓reduceIte, name_ne hn, hn]
      rfl
    · unfold Ru.rightW
      simp only [Bool.false_eq_true, ↓reduceIte]
      exact num_tok hT 3 st
theorem where_right (h : (whereS T e st).f.1 = 0) : Ru.placeW (whereV T e st) = true := by
  unfold whereS at h
  unfold whereV
  split
  · rfl
  · rename_i h1
    rw [if_neg h1] at h
    have hn := name_tok hT (take_yes h)
    unfold Ru.placeW Ru.rightW
    simp only [txt_list, Bool.false_eq_true, ↓reduceIte, name_ne hn, hn, bne]
    rfl
theorem tiers_num : Ru.num (loV T st) = true ∧ Ru.num (hiV T e st) = true := by
  unfold loV hiV
  constructor
  · split
    · rfl
    · exact num_tok hT 3 st
  · split
    · rfl
    · split
      · exact num_tok hT 3 _
      · exact num_tok hT 3 st
theorem box_num (st : St) : Ru.boxN (boxV T e st) = true := by
  unfold boxV Ru.boxN
  simp only [num_tok hT, Bool.and_self]
theorem more_num (f : Nat) : ∀ st : St, ∀ b ∈ moreV T e f st, Ru.boxN b = true := by
  induction f with
  | zero => intro st b hb; simp [moreV] at hb
  | succ f ih =>
    intro st b hb
    unfold moreV at hb
    split at hb
    · rcases List.mem_cons.1 hb with rfl | hb
      · exact box_num hT _
      · exact ih _ b hb
    · simp at hb
theorem boxes_num (st : St) : Ru.boxesN (boxesV T e st) = true := by
  unfold boxesV Ru.boxesN
  simp only [Bool.and_eq_true, List.all_eq_true, decide_eq_true_eq, List.length_cons]
  refine ⟨fun b hb => ?_, by omega⟩
  rcases List.mem_cons.1 hb with rfl | hb
  · exact box_num hT _
  · exact more_num hT _ _ b hb
theorem named_may {k : Int} (hk : k = 1 ∨ k = 2) {a : St} (h : (namedS T e a).f.1 = 0) : Ru.may (namedV T e (declAt T e st k) a) = true := by
  have h1 : (takeSt T e 1 a).f.1 = 0 := ((Pr.stays_want _ _).trans (Pr.stays_take 3 _)).zero h
  have hn := name_tok hT (take_yes h1)
  have hi := num_tok hT 3 (want T e [61] (takeSt T e 1 a))
  unfold Ru.may namedV declAt
  simp only [txt_list, if_pos hk, hn, hi]
  rfl
theorem region_may {a : St} (h : (regionS T e a).f.1 = 0) : Ru.may (regionV T e (declAt T e st 3) a) = true := by
  have h1 : (takeSt T e 1 a).f.1 = 0 := ((Pr.stays_want _ _).trans (Pr.stays_boxes _)).zero h
  have hn := name_tok hT (take_yes h1)
  have hb := boxes_num hT (e := e) (want T e [61] (takeSt T e 1 a))
  unfold Ru.may regionV declAt
  simp only [txt_list, hn, hb]
  rfl
theorem rule_may {k : Int} (hk : k = 4 ∨ k = 5) {a : St} (h : (ruleS T e a).f.1 = 0) : Ru.may (ruleV T e (declAt T e st k) a) = true := by
  have h4 : (rs4 T e a).f.1 = 0 := Pr.Stays.zero (b := ruleS T e a) (Pr.stays_take 3 (rs4 T e a)) h
  have hp : (whereS T e (rs3 T e a)).f.1 = 0 := Pr.Stays.zero (b := rs4 T e a) (Pr.stays_want wZoom (whereS T e (rs3 T e a))) h4
  have h3 : (rs3 T e a).f.1 = 0 := (Pr.stays_where (rs3 T e a)).zero hp
  have hl : (whoS T e (rs2 T e a)).f.1 = 0 := Pr.Stays.zero (b := rs3 T e a) (Pr.stays_want wIn (whoS T e (rs2 T e a))) h3
  have h2 : (rs2 T e a).f.1 = 0 := (Pr.stays_who (rs2 T e a)).zero hl
  have ht : (tiersS T e (rs1 T e a)).f.1 = 0 := Pr.Stays.zero (b := rs2 T e a) (Pr.stays_want wLabel (tiersS T e (rs1 T e a))) h2
  have h1 : (rs1 T e a).f.1 = 0 := (Pr.stays_tiers (rs1 T e a)).zero ht
  have hr : (whoS T e (want T e wRole a)).f.1 = 0 := Pr.Stays.zero (b := rs1 T e a) (Pr.stays_want wTier (whoS T e (want T e wRole a))) h1
  have r1 := who_right hT hr
  have r2 := who_right hT hl
  have r3 := where_right hT hp
  obtain ⟨r4, r5⟩ := tiers_num hT (e := e) (st := rs1 T e a)
  have r6 := num_tok hT 3 (rs4 T e a)
  have p1 : (ruleV T e (declAt T e st k) a).role = whoV T e (want T e wRole a) := by simp only [ruleV]
  have p2 : (ruleV T e (declAt T e st k) a).label = whoV T e (rs2 T e a) := by simp only [ruleV]
  have p3 : (ruleV T e (declAt T e st k) a).place = whereV T e (rs3 T e a) := by simp only [ruleV]
  have p4 : (ruleV T e (declAt T e st k) a).lo = loV T (rs1 T e a) := by simp only [ruleV]
  have p5 : (ruleV T e (declAt T e st k) a).hi = hiV T e (rs1 T e a) := by simp only [ruleV]
  have p6 : (ruleV T e (declAt T e st k) a).zoom = (takeTok T 3 (rs4 T e a)).n := by simp only [ruleV]
  have p7 : (ruleV T e (declAt T e st k) a).name = ⟨#[]⟩ := by simp only [ruleV, declAt, zeroDecl]
  have p8 : (ruleV T e (declAt T e st k) a).n = 0 := by simp only [ruleV, declAt, zeroDecl]
  have p9 : (ruleV T e (declAt T e st k) a).boxes = [] := by simp only [ruleV, declAt, zeroDecl]
  have hk0 : (ruleV T e (declAt T e st k) a).kind = k := by simp only [ruleV, declAt]
  generalize ruleV T e (declAt T e st k) a = d at *
  unfold Ru.may Ru.noName Ru.ruleD
  rw [hk0, if_neg (by omega), if_neg (by omega), if_pos hk, p1, p2, p3, p4, p5, p6, p7, p8, p9, r1, r2, r3, r4, r5, r6]
  rfl
theorem cloak_may {a : St} (h : (cloakS T e a).f.1 = 0) : Ru.may (cloakV T e (declAt T e st 6) a) = true := by
  have r1 := who_right hT h
  have hn0 : Ru.noName (cloakV T e (declAt T e st 6) a) = true := rfl
  have hr0 : Ru.rightW (cloakV T e (declAt T e st 6) a).role = true := r1
  have hz0 : Ru.noRule (cloakV T e (declAt T e st 6) a) = true := rfl
  have hk0 : (cloakV T e (declAt T e st 6) a).kind = 6 := rfl
  generalize cloakV T e (declAt T e st 6) a = d at *
  unfold Ru.may
  rw [hk0, if_neg (by omega), if_neg (by omega), if_neg (by omega), if_pos rfl, hn0, hr0, hz0]
  rfl
theorem decl_may (h0 : st.f.1 = 0) (h : (declS T e st).f.1 = 0) : Ru.may (declV T e st) = true := by
  unfold declS at h
  have h1 := (Pr.stays_want _ _).zero h
  unfold declV
  split
  · rename_i c; rw [if_pos c] at h1; exact named_may hT (.inl rfl) h1
  rename_i c; rw [if_neg c] at h1
  split
  · rename_i c; rw [if_pos c] at h1; exact named_may hT (.inr rfl) h1
  rename_i c; rw [if_neg c] at h1
  split
  · rename_i c; rw [if_pos c] at h1; exact region_may hT h1
  rename_i c; rw [if_neg c] at h1
  split
  · rename_i c; rw [if_pos c] at h1; exact rule_may hT (.inl rfl) h1
  rename_i c; rw [if_neg c] at h1
  split
  · rename_i c; rw [if_pos c] at h1; exact rule_may hT (.inr rfl) h1
  rename_i c; rw [if_neg c] at h1
  split
  · rename_i c; rw [if_pos c] at h1; exact cloak_may hT h1
  rename_i c; rw [if_neg c] at h1
  exact absurd ((Pr.stays_rule _).zero h1) (Pr.wrong_stop h0)
theorem parse_mays (f : Nat) : ∀ st : St, (parseS T e f st).f.1 = 0 → ∀ d ∈ parseV T e f st, Ru.may d = true := by
  induction f with
  | zero => intro st _ d hd; simp [parseV] at hd
  | succ f ih =>
    intro st h d hd
    unfold parseS at h
    unfold parseV at hd
    split at hd
    · rename_i hc
      rw [if_pos hc] at h
      rcases List.mem_cons.1 hd with rfl | hd
      · exact decl_may hT hc.2 ((Pr.stays_parse f _).zero h)
      · exact ih _ h d hd
    · simp at hd
end
/-- what is read may be -/
theorem parse_may {L : Bytes} {ds : List Decl} (h : parse L = .ok ds) : ∀ d ∈ ds, Ru.may d = true := by
  cases hk : tokens L with
  | error f => unfold parse at h; rw [hk] at h; cases h
  | ok T =>
    rw [parse_T hk] at h
    split at h
    · rename_i h0
      cases h
      exact parse_mays (tokens_good hk) _ _ h0
    · cases h

/-! ### places -/
theorem may_un (d : Decl) : Ru.may (unD d) = Ru.may d := rfl
theorem line_un (d : Decl) : lineB (unD d) = lineB d := rfl
theorem lines_un {l m : List Decl} (h : l.map unD = m.map unD) : l.flatMap lineB = m.flatMap lineB ∧ l.all Ru.may = m.all Ru.may := by
  have e1 : ∀ l : List Decl, (l.map unD).flatMap lineB = l.flatMap lineB := fun l => by rw [List.flatMap_map]; rfl
  have e2 : ∀ l : List Decl, (l.map unD).all Ru.may = l.all Ru.may := fun l => by rw [List.all_map]; rfl
  exact ⟨by rw [← e1 l, h, e1], by rw [← e2 l, h, e2]⟩
theorem print_un {l m : List Decl} (h : l.map unD = m.map unD) : printB l = printB m := by
  obtain ⟨h1, h2⟩ := lines_un h
  unfold printB
  rw [h1, h2]
theorem all_may {l : List Decl} (h : ∀ d ∈ l, Ru.may d = true) : l.all Ru.may = true := List.all_eq_true.2 h
theorem print_may {l : List Decl} (h : ∀ d ∈ l, Ru.may d = true) : printB l = l.flatMap lineB := by unfold printB; rw [if_pos (all_may h)]

/-! ### the rules of declarations, but for their places -/
def unF (x : Ru.F3) : Ru.F3 := (x.1, 0, 0)
def unR (x : Except Ru.F3 (List Ru.Rule)) : Except Ru.F3 (List Ru.Rule) := match x with | .ok r => .ok r | .error f => .error (unF f)
theorem declared_un (a : List Decl) (k : Int) (nm : ByteArray) : Ru.declared (a.map unD) k nm = (Ru.declared a k nm).map unD := by
  unfold Ru.declared
  rw [List.find?_map]
  rfl
theorem rsum_un (a : List Decl) (k : Int) (w : Who) : Ru.rsum (a.map unD) k (unW w) = Ru.rsum a k w := by
  unfold Ru.rsum
  rw [show (unW w).name = w.name from rfl, show (unW w).any = w.any from rfl, show (unW w).n = w.n from rfl, declared_un]
  cases Ru.declared a k w.name <;> rfl
theorem rwhere_un (a : List Decl) (w : Who) : Ru.rwhere (a.map unD) (unW w) = Ru.rwhere a w := by
  unfold Ru.rwhere
  rw [show (unW w).name = w.name from rfl, show (unW w).any = w.any from rfl, declared_un]
  cases Ru.declared a 3 w.name <;> rfl
def unX (x : Except Ru.F3 Ru.Rule) : Except Ru.F3 Ru.Rule := match x with | .ok r => .ok r | .error f => .error (unF f)
theorem rrule_un (a : List Decl) (d : Decl) (n b : Int) : Ru.rrule (a.map unD) (unD d) n b = unX (Ru.rrule a d n b) := by
  unfold Ru.rrule
  rw [show (unD d).role = unW d.role from rfl, show (unD d).label = unW d.label from rfl, show (unD d).place = unW d.place from rfl, show (unD d).kind = d.kind from rfl, show (unD d).hi = d.hi from rfl, show (unD d).lo = d.lo from rfl, show (unD d).zoom = d.zoom from rfl, rsum_un, rsum_un, rwhere_un]
  by_cases h1 : 32 ≤ n
  · rw [if_pos h1, if_pos h1]; rfl
  rw [if_neg h1, if_neg h1]
  cases Ru.rsum a 1 d.role with
  | error x => rfl
  | ok r =>
    simp only
    by_cases h2 : d.kind = 6
    · rw [if_pos h2, if_pos h2]; rfl
    rw [if_neg h2, if_neg h2]
    by_cases h3 : d.hi < d.lo ∨ 7 < d.hi
    · rw [if_pos h3, if_pos h3]; rfl
    rw [if_neg h3, if_neg h3]
    cases Ru.rsum a 2 d.label with
    | error x => rfl
    | ok r =>
      simp only
      cases Ru.rwhere a d.place with
      | error x => rfl
      | ok bs =>
        simp only
        by_cases h4 : 32 < b + bs.length
        · rw [if_pos h4, if_pos h4]; rfl
        rw [if_neg h4, if_neg h4]
        by_cases h5 : 16 < d.zoom
        · rw [if_pos h5, if_pos h5]; rfl
        rw [if_neg h5, if_neg h5]
        rfl
theorem rrun_un (l : List Decl) : ∀ (a : List Decl) (out : List Ru.Rule) (b : Int), Ru.rrun (a.map unD) (l.map unD) out b = unR (Ru.rrun a l out b) := by
  induction l with
  | nil => intro a out b; rfl
  | cons d l ih =>
    intro a out b
    rw [List.map_cons]
    unfold Ru.rrun
    have e1 : a.map unD ++ [unD d] = (a ++ [d]).map unD := by simp
    rw [rrule_un, e1, show (unD d).kind = d.kind from rfl, show (unD d).name = d.name from rfl, declared_un, show Ru.rbad (unD d) = Ru.rbad d from rfl]
    by_cases h1 : 3 < d.kind
    · rw [if_pos h1, if_pos h1]
      cases Ru.rrule a d out.length b with
      | error f => rfl
      | ok x => exact ih _ _ _
    rw [if_neg h1, if_neg h1]
    have e2 : ((Ru.declared a d.kind d.name).map unD).isSome = (Ru.declared a d.kind d.name).isSome := by cases Ru.declared a d.kind d.name <;> rfl
    rw [e2]
    by_cases h2 : (Ru.declared a d.kind d.name).isSome = true
    · rw [if_pos h2, if_pos h2]; rfl
    rw [if_neg h2, if_neg h2]
    by_cases h3 : Ru.rbad d = true
    · rw [if_pos h3, if_pos h3]; rfl
    rw [if_neg h3, if_neg h3]
    exact ih _ _ _
theorem check_un {l m : List Decl} (h : l.map unD = m.map unD) : unR (Ru.checkV l) = unR (Ru.checkV m) := by
  have key : ∀ l : List Decl, Ru.rcheckV (l.map unD) = unR (Ru.rcheckV l) := fun l => by
    unfold Ru.rcheckV
    have e : (l.map unD).all Ru.rRight = l.all Ru.rRight := by rw [List.all_map]; rfl
    rw [e]
    by_cases h1 : l.all Ru.rRight = true
    · rw [if_pos h1, if_pos h1]; exact rrun_un l [] [] 0
    · rw [if_neg h1, if_neg h1]; rfl
  rw [← Ru.rcheck_eq l, ← Ru.rcheck_eq m, ← key l, ← key m, h]

end Go.Proofs.YtnoieobjfihbeaaDoor.Pt
